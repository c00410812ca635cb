/- The symbolic walk, part 26: owned memory at known addresses; contracts that get such memory and give it back changed. -/
import Derived.Test.YtgmdpfoccnalnaaGreatE3
import Derived.Laws.IdiomCopy
import Derived.Laws.IdiomStrings
set_option linter.unusedSimpArgs false
set_option linter.unusedVariables false
namespace Go.Sy
open Go.RowKit

/-- Cells of a variable, at a known block. -/
def boxA (b : Nat) (T : TypeId) (cells : List AV) : Abs where
  bs := [b]
  ok := fun G w => ∃ arr, w.heap[b]? = some (.cells arr T (0, 0)) ∧ RepIL G cells arr.toList
  keep := by
    rintro G H w w' hG hb ⟨arr, h1, h2⟩
    exact ⟨arr, by rw [hb b (by simp)]; exact h1, RepIL.mono hG cells h2⟩

/-- The elements of a slice whose header is known. -/
def vecA (h : Value) (T : TypeId) (esz n : Nat) (row : Nat → List AV) : Abs where
  bs := h.ownBlock.toList
  ok := fun G w => ∃ xs, w.ownsRow 0 T esz h n xs ∧ RowsL G esz n row xs
  keep := by
    rintro G H w w' hG hb ⟨xs, h1, h2⟩
    exact ⟨xs, ownsRow_of_blocks h1 (fun b hbb => hb b (by simp [hbb])), h2.mono hG⟩

def blocks (cs : List Abs) : List Nat := cs.flatMap Abs.bs

def AbsOK (G : IM) (w : World) (cs : List Abs) : Prop :=
  (∀ A ∈ cs, A.ok G w) ∧ (blocks cs).Nodup ∧ ∀ b ∈ blocks cs, b < w.heap.size ∧ G.free b

/-- What is known newly is of blocks that are new, or of these. -/
def NewAt (G G' : IM) (N : Nat) (bs : List Nat) : Prop := (∀ b o v, G' b o = some v → G b o = some v ∨ N ≤ b ∨ b ∈ bs) ∧ ∀ b x, G'.m b = some x → G.m b = some x ∨ N ≤ b ∨ b ∈ bs
theorem NewAt.of {G G' : IM} {N : Nat} (bs : List Nat) (h : NewIn G G' N) : NewAt G G' N bs := ⟨fun b o v hv => (h.1 b o v hv).imp id .inl, fun b x hx => (h.2 b x hx).imp id .inl⟩
theorem NewAt.free {G G' : IM} {N b : Nat} {bs : List Nat} (h : NewAt G G' N bs) (hb : b < N) (hn : b ∉ bs) (hf : G.free b) : G'.free b := by
  refine ⟨fun o => ?_, ?_⟩
  · cases hg : G' b o with
    | none => rfl
    | some v =>
      rcases h.1 b o v hg with k | k | k
      · rw [hf.1 o] at k; cases k
      · omega
      · exact absurd k hn
  · cases hg : G'.m b with
    | none => rfl
    | some v =>
      rcases h.2 b v hg with k | k | k
      · rw [hf.2] at k; cases k
      · omega
      · exact absurd k hn

/-- A contract: called with these values, and with this memory to change. -/
def FnA (P : Program) (f : FuncId) (args : List AV) (cs : List Abs) (post : AV → List Abs → Prop) : Prop :=
  Callable P f ∧ ∀ (G : IM) (w : World) (cargs : List Value), ImOK G w → RepIT G args cargs → AbsOK G w cs →
    Calls P f cargs.toArray w fun en w' => ∃ r cr cs' G', post r cs' ∧ en = .returned cr ∧ RepI G' r cr ∧ IM.le G G' ∧
      NewAt G G' w.heap.size (blocks cs) ∧ ImOK G' w' ∧ AbsOK G' w' cs' ∧
      (∀ b ∈ blocks cs', w.heap.size ≤ b ∨ b ∈ blocks cs) ∧
      w'.os = w.os ∧ w'.tape = w.tape ∧ w'.output = w.output ∧ w.heap.size ≤ w'.heap.size ∧ ∀ k, k < w.heap.size → k ∉ blocks cs → G.still k → w'.heap[k]? = w.heap[k]?

theorem FnA.mono {P : Program} {f : FuncId} {args : List AV} {cs : List Abs} {p q : AV → List Abs → Prop} (h : FnA P f args cs p) (hpq : ∀ r c, p r c → q r c) : FnA P f args cs q :=
  ⟨h.1, fun G w c h1 h2 h3 => (h.2 G w c h1 h2 h3).mono fun e w' ⟨r, cr, cs', G', k, rest⟩ => ⟨r, cr, cs', G', hpq r cs' k, rest⟩⟩

theorem AbsOK.keep {G H : IM} {w w' : World} {cs : List Abs} (h : AbsOK G w cs) (hG : IM.le G H) (hb : ∀ b, b ∈ blocks cs → w'.heap[b]? = w.heap[b]?) (hs : w.heap.size ≤ w'.heap.size)
    (hn : ∀ b, b < w.heap.size → b ∈ blocks cs → G.free b → H.free b) : AbsOK H w' cs := by
  refine ⟨fun A hA => A.keep hG (fun b hbb => hb b (List.mem_flatMap.2 ⟨A, hA, hbb⟩)) (h.1 A hA), h.2.1, fun b hbb => ?_⟩
  obtain ⟨h1, h2⟩ := h.2.2 b hbb
  exact ⟨by omega, hn b h1 hbb h2⟩

/-- A contract that needs none of it leaves it as it was. -/
theorem FnP.toA {P : Program} {f : FuncId} {args : List AV} {post : AV → Prop} (h : FnP P f args post) (cs : List Abs) : FnA P f args cs (fun r cs' => post r ∧ cs' = cs) := by
  refine ⟨h.1, fun G w c h1 h2 h3 => (h.2 G w c h1 h2).mono ?_⟩
  rintro e w' ⟨r, cr, G', hp, he, g1, g2, g3, g4, g5⟩
  refine ⟨r, cr, cs, G', ⟨hp, rfl⟩, he, g1, g2, .of _ g3, g4, h3.keep g2 (fun b hb => g5.block b (h3.2.2 b hb).1 (IM.free_still (h3.2.2 b hb).2)) g5.size (fun b hb _ hf => g3.free hb hf), fun b hb => .inr hb, g5.os, g5.tape, g5.output, g5.size, fun k hk _ hs => g5.block k hk hs⟩

/-- A contract that makes memory: seen from outside, a value alone. -/
theorem FnA.toP {P : Program} {f : FuncId} {args : List AV} {post : AV → List Abs → Prop} (h : FnA P f args [] post) : FnP P f args (fun r => ∃ cs, post r cs) := by
  refine ⟨h.1, fun G w c h1 h2 => (h.2 G w c h1 h2 ⟨by simp, by simp [blocks], by simp [blocks]⟩).mono ?_⟩
  rintro e w' ⟨r, cr, cs', G', hp, he, g1, g2, g3, g4, _, _, o1, o2, o3, o4, o5⟩
  refine ⟨r, cr, G', ⟨cs', hp⟩, he, g1, g2, ⟨fun b o v hv => ?_, fun b x hx => ?_⟩, g4, ⟨o1, o2, o3, o4, fun k hk hs => o5 k hk (by simp [blocks]) hs⟩⟩
  · rcases g3.1 b o v hv with h | h | h
    · exact .inl h
    · exact .inr h
    · simp [blocks] at h
  · rcases g3.2 b x hx with h | h | h
    · exact .inl h
    · exact .inr h
    · simp [blocks] at h

/-! ### Taking such chunks out of a list -/
def nthA : Nat → List Ch → Option (Abs × List Ch)
  | 0, .abs A :: r => some (A, r)
  | i + 1, c :: r => match nthA i r with
    | some (A, r') => some (A, c :: r')
    | none => none
  | _, _ => none
def pickA : List Nat → List Ch → Option (List Abs × List Ch)
  | [], c => some ([], c)
  | i :: is, c => match nthA i c with
    | some (A, c') => (match pickA is c' with
      | some (As, r) => some (A :: As, r)
      | none => none)
    | none => none
theorem nthA_perm : ∀ {i : Nat} {c r : List Ch} {A : Abs}, nthA i c = some (A, r) → c.Perm (.abs A :: r)
  | 0, c, r, A, h => by
    unfold nthA at h
    split at h
    · rename_i B r'
      simp only [Option.some.injEq, Prod.mk.injEq] at h
      obtain ⟨rfl, rfl⟩ := h
      exact .refl _
    · rename_i i h1 _; omega
    · cases h
  | i + 1, [], r, A, h => by simp [nthA] at h
  | i + 1, d :: c, r, A, h => by
    simp only [nthA] at h
    split at h
    · rename_i B r' hh
      simp only [Option.some.injEq, Prod.mk.injEq] at h
      obtain ⟨rfl, rfl⟩ := h
      exact ((nthA_perm hh).cons d).trans (.swap _ _ _)
    · cases h
theorem pickA_perm : ∀ {is : List Nat} {c r : List Ch} {As : List Abs}, pickA is c = some (As, r) → c.Perm (As.map .abs ++ r)
  | [], c, r, As, h => by
    simp only [pickA, Option.some.injEq, Prod.mk.injEq] at h
    obtain ⟨rfl, rfl⟩ := h
    exact .refl _
  | i :: is, c, r, As, h => by
    simp only [pickA] at h
    split at h
    · rename_i A c' h1
      split at h
      · rename_i Bs r' h2
        simp only [Option.some.injEq, Prod.mk.injEq] at h
        obtain ⟨rfl, rfl⟩ := h
        exact (nthA_perm h1).trans ((pickA_perm h2).cons _)
      · cases h
    · cases h

section
variable {P : Program} {T : Tab} {X : Ctx P T} {n : Nat} {e : Env} {st : St} {a : Act} {w : World} {ops : Array Oper} {K : St → Prop}

theorem split_pl {e : Env} {w : World} : ∀ {As : List Abs} {r : List Ch} {pl : List (Ch × List Nat)}, pl.map (·.1) = As.map Ch.abs ++ r → (∀ p ∈ pl, ChOK e w p.1 p.2) →
    ∃ pl2, pl = As.map (fun A => (Ch.abs A, A.bs)) ++ pl2 ∧ pl2.map (·.1) = r
  | [], r, pl, h, _ => ⟨pl, rfl, by simpa using h⟩
  | A :: As, r, [], h, _ => by simp at h
  | A :: As, r, p :: pl, h, hok => by
    simp only [List.map_cons, List.cons_append, List.cons.injEq] at h
    obtain ⟨pl2, h1, h2⟩ := split_pl h.2 (fun q hq => hok q (List.mem_cons_of_mem _ hq))
    have hp := hok p (List.mem_cons_self ..)
    rw [h.1] at hp
    refine ⟨pl2, ?_, h2⟩
    rw [h1]
    simp only [List.map_cons, List.cons_append]
    congr 1
    exact Prod.ext h.1 hp.1

theorem flat_abs (As : List Abs) : (As.map (fun A => (Ch.abs A, A.bs))).flatMap (·.2) = blocks As := by
  unfold blocks
  rw [List.flatMap_map]

/-- What is known of such chunks. -/
theorem HeapOK.absOK {As : List Abs} {r : List Ch} (h : HeapOK X e w (As.map Ch.abs ++ r)) : AbsOK e.G w As ∧ ∀ b ∈ blocks As, X.w0.heap.size ≤ b ∨ b ∈ X.bs := by
  obtain ⟨pl, h1, h2, h3, h4⟩ := h
  obtain ⟨pl2, rfl, h6⟩ := split_pl h1 h2
  rw [List.flatMap_append, flat_abs] at h3 h4
  refine ⟨⟨fun A hA => (h2 (.abs A, A.bs) (List.mem_append.2 (.inl (List.mem_map.2 ⟨A, hA, rfl⟩)))).2, (List.nodup_append.1 h3).1, fun b hb => ?_⟩, fun b hb => (h4 b (List.mem_append.2 (.inl hb))).2.1⟩
  obtain ⟨q1, q2, q3⟩ := h4 b (List.mem_append.2 (.inl hb))
  exact ⟨q1, q3⟩

/-- Such chunks are changed. -/
theorem HeapOK.swapAbs {As As' : List Abs} {r : List Ch} {G' : IM} {w' : World} (h : HeapOK X e w (As.map Ch.abs ++ r)) (hsz0 : X.w0.heap.size ≤ w.heap.size) (hG : IM.le e.G G')
    (hnew : NewAt e.G G' w.heap.size (blocks As)) (hok : AbsOK G' w' As') (hb : ∀ b ∈ blocks As', w.heap.size ≤ b ∨ b ∈ blocks As)
    (hsz : w.heap.size ≤ w'.heap.size) (hk : ∀ k, k < w.heap.size → k ∉ blocks As → e.G.still k → w'.heap[k]? = w.heap[k]?) : HeapOK X ⟨G', e.μ, e.hd⟩ w' (As'.map Ch.abs ++ r) := by
  obtain ⟨pl, h1, h2, h3, h4⟩ := h
  obtain ⟨pl2, rfl, h6⟩ := split_pl h1 h2
  rw [List.flatMap_append, flat_abs] at h3 h4
  obtain ⟨n1, n2, n3⟩ := List.nodup_append.1 h3
  refine ⟨As'.map (fun A => (Ch.abs A, A.bs)) ++ pl2, by simp [h6, Function.comp_def], ?_, ?_, ?_⟩
  · intro p hp
    rcases List.mem_append.1 hp with hp | hp
    · obtain ⟨A, hA, rfl⟩ := List.mem_map.1 hp
      exact ⟨rfl, hok.1 A hA⟩
    · refine ChOK.keep (e := e) (f := ⟨G', e.μ, e.hd⟩) hG p.1 (fun _ _ => ⟨rfl, rfl⟩) (fun b hbb => ?_) (h2 p (List.mem_append.2 (.inr hp)))
      have hbf : b ∈ pl2.flatMap (·.2) := List.mem_flatMap.2 ⟨p, hp, hbb⟩
      exact hk b (h4 b (List.mem_append.2 (.inr hbf))).1 (fun hin => n3 b hin b hbf rfl) (IM.free_still (h4 b (List.mem_append.2 (.inr hbf))).2.2)
  · rw [List.flatMap_append, flat_abs]
    refine List.nodup_append.2 ⟨hok.2.1, n2, ?_⟩
    rintro b hb1 b' hbf rfl
    rcases hb b hb1 with h | h
    · have := (h4 b (List.mem_append.2 (.inr hbf))).1; omega
    · exact n3 b h b hbf rfl
  · rw [List.flatMap_append, flat_abs]
    intro b hbb
    rcases List.mem_append.1 hbb with hbb | hbb
    · obtain ⟨q1, q2⟩ := hok.2.2 b hbb
      refine ⟨q1, ?_, q2⟩
      rcases hb b hbb with h | h
      · exact .inl (by omega)
      · exact (h4 b (List.mem_append.2 (.inl h))).2.1
    · obtain ⟨q1, q2, q3⟩ := h4 b (List.mem_append.2 (.inr hbb))
      exact ⟨by omega, q2, hnew.free q1 (fun h => n3 b h b hbb rfl) q3⟩

/-- The state behind a change of such chunks. -/
theorem Rel.swapAbs (r : Rel X n e st a w) {As As' : List Abs} {c : List Ch} {G' : IM} {w' : World} (hc : st.c.Perm (As.map Ch.abs ++ c)) (hG : IM.le e.G G') (him : ImOK G' w')
    (hnew : NewAt e.G G' w.heap.size (blocks As)) (hok : AbsOK G' w' As') (hb : ∀ b ∈ blocks As', w.heap.size ≤ b ∨ b ∈ blocks As)
    (ho : w'.os = w.os ∧ w'.tape = w.tape ∧ w'.output = w.output) (hsz : w.heap.size ≤ w'.heap.size) (hk : ∀ k, k < w.heap.size → k ∉ blocks As → e.G.still k → w'.heap[k]? = w.heap[k]?) :
    Rel X n ⟨G', e.μ, e.hd⟩ ⟨st.s, As'.map Ch.abs ++ c⟩ a w' := by
  have hh := r.heap.perm hc
  have hd := hh.absOK
  exact
    { defers := r.defers
      size := r.size
      slots := fun i x hx => by
        obtain ⟨v, q1, q2⟩ := r.slots i x hx
        exact ⟨v, q1, Rep.mono (e := e) (f := ⟨G', e.μ, e.hd⟩) hG x (fun _ _ => ⟨rfl, rfl⟩) q2⟩
      im := him.1
      mz := him.2
      heap := hh.swapAbs r.sz hG hnew hok hb hsz hk
      le := IM.le_trans r.le hG
      new := fun b o v hv => by
        rcases hnew.1 b o v hv with h | h | h
        · exact r.new b o v h
        · exact .inr (.inl (Nat.le_trans r.sz h))
        · exact .inr (hd.2 b h)
      newm := fun b x hv => by
        rcases hnew.2 b x hv with h | h | h
        · exact r.newm b x h
        · exact .inr (.inl (Nat.le_trans r.sz h))
        · exact .inr (hd.2 b h)
      os := ho.1.trans r.os
      tape := ho.2.1.trans r.tape
      output := ho.2.2.trans r.output
      sz := Nat.le_trans r.sz hsz
      keep := fun b hb1 hbs hs => by
        rw [hk b (Nat.lt_of_lt_of_le hb1 r.sz)]
        · exact r.keep b hb1 hbs hs
        · intro hin
          rcases hd.2 b hin with h | h
          · omega
          · exact hbs h
        · intro L hL
          rcases r.newm b _ hL with h | h | h
          · exact hs L h
          · omega
          · exact hbs h
      fix := r.fix }

/-! ### The body of such a function -/
/-- What must hold where such a body ends. -/
def EndsX (T : Tab) (rs : Array ResultVar) (post : AV → List Abs → Prop) : Exit → St → Prop
  | .normal, st => ∃ r cs rest, resA T st rs.toList = some r ∧ st.c.Perm (cs.map Ch.abs ++ rest) ∧ r.imm = true ∧ post r cs
  | .ret, st => ∃ r cs rest, resA T st rs.toList = some r ∧ st.c.Perm (cs.map Ch.abs ++ rest) ∧ r.imm = true ∧ post r cs
  | _, _ => False

theorem FnA.intro (ok : TabOK P T) (wide : P.follows .mixedOrders = true) {f : FuncId} {fn : Func} {c : Code} {args : List AV} {cs : List Abs} {post : AV → List Abs → Prop} (hf : P.funcs[f]? = some fn) (hb : fn.body = some c)
    (hn : (fn.name == "runtime.NumGoroutine") = false) (hargs : Nat.ble args.length fn.ntmps = true)
    (h : ∀ X : Ctx P T, SymC X fn.ntmps c ⟨enumA 0 args, cs.map Ch.abs⟩ (EndsX T fn.results post)) : FnA P f args cs post := by
  refine ⟨⟨fn, hf, by simp [hb], hn⟩, ?_⟩
  intro G w cargs him hrep hcs
  have hargs := Nat.le_of_ble_eq_true hargs
  refine calls_of_wp hf hb ?_
  let X : Ctx P T := ⟨ok, wide, w, G, blocks cs, fun _ => 0⟩
  let e : Env := ⟨G, fun _ => 0, fun _ => undef⟩
  have hheap : HeapOK X e w (cs.map Ch.abs) := by
    refine ⟨cs.map (fun A => (Ch.abs A, A.bs)), by simp [Function.comp_def], ?_, by rw [flat_abs]; exact hcs.2.1, ?_⟩
    · intro p hp
      obtain ⟨A, hA, rfl⟩ := List.mem_map.1 hp
      exact ⟨rfl, hcs.1 A hA⟩
    · rw [flat_abs]
      intro b hb
      exact ⟨(hcs.2.2 b hb).1, .inr hb, (hcs.2.2 b hb).2⟩
  have r : Rel X fn.ntmps e ⟨enumA 0 args, cs.map Ch.abs⟩ { tmps := cargs.toArray ++ Array.replicate (fn.ntmps - cargs.toArray.size) undef, defers := [] } w :=
    Rel.enter rfl rfl him (RepIT.toRep (e := e) args hrep) hargs hheap rfl
  refine Code.wp_mono (fun ex a' w' hc => ?_) (h X e _ w r)
  have fin : ∀ (e' : Env) (st' : St), Rel X fn.ntmps e' st' a' w' → (∃ r cs rest, resA T st' fn.results.toList = some r ∧ st'.c.Perm (cs.map Ch.abs ++ rest) ∧ r.imm = true ∧ post r cs) →
      a'.defers = [] ∧ ∃ v, (results fn a'.tmps).run P w' = .ok v w' ∧ (∃ r cr cs' G', post r cs' ∧ Ending.returned v = .returned cr ∧ RepI G' r cr ∧ IM.le G G' ∧
      NewAt G G' w.heap.size (blocks cs) ∧ ImOK G' w' ∧ AbsOK G' w' cs' ∧
      (∀ b ∈ blocks cs', w.heap.size ≤ b ∨ b ∈ blocks cs) ∧
      w'.os = w.os ∧ w'.tape = w.tape ∧ w'.output = w.output ∧ w.heap.size ≤ w'.heap.size ∧ ∀ k, k < w.heap.size → k ∉ blocks cs → G.still k → w'.heap[k]? = w.heap[k]?) := by
    intro e' st' hr ⟨x, cs', rest, h1, hk, h2, h3⟩
    obtain ⟨v, h5, h6⟩ := resA_sound hr h1
    obtain ⟨q1, q2⟩ := (hr.heap.perm hk).absOK
    refine ⟨hr.defers, v, h5, x, v, cs', e'.G, h3, rfl, Rep.toI x h2 h6, hr.le, ⟨hr.new, hr.newm⟩, ⟨hr.im, hr.mz⟩, q1, q2, hr.os, hr.tape, hr.output, hr.sz, fun k hk hnin hs => hr.keep k hk hnin hs⟩
  cases ex with
  | normal => obtain ⟨e', st', h1, h2⟩ := hc; exact fin e' st' h1 h2
  | ret => obtain ⟨e', st', h1, h2⟩ := hc; exact fin e' st' h1 h2
  | exit id => obtain ⟨e', st', h1, h2⟩ := hc; exact h2.elim
  | goto l => obtain ⟨e', st', h1, h2⟩ := hc; exact h2.elim
  | panic ch => exact hc.elim
  | outgrown => exact hc.elim

/-! ### Calls -/
theorem call_after {f : FuncId} {cargs : List Value} {avs : List AV} {cs : List Abs} {cr : List Ch} {post : AV → List Abs → Prop} {s : List (Nat × AV)} {c : List Ch} {dst : Nat} (hf : FnA P f avs cs post) (r : Rel X n e ⟨s, c⟩ a w)
    (h1 : RepIT e.G avs cargs) (hp : c.Perm (cs.map Ch.abs ++ cr)) (hd : Nat.blt dst n = true) {Q : Exit → Act → World → Prop} {rest : List Oper}
    (kk : ∀ x cs', post x cs' → SymO X n ops rest ⟨(dst, x) :: s, cs'.map Ch.abs ++ cr⟩ K) (hq : ∀ e' st' a' w', K st' → Rel X n e' st' a' w' → Q .normal a' w') :
    Calls P f cargs.toArray w fun en w' => ∃ cv, en = .returned cv ∧ wpList P ops Q rest (a.put (some dst) cv) w' := by
  have hd2 := (r.heap.perm hp).absOK
  refine (hf.2 e.G w cargs ⟨r.im, r.mz⟩ h1 hd2.1).mono ?_
  rintro en w' ⟨rv, cv, cs', G', hpost, rfl, g1, g2, g3, g4, g5, g6, o1, o2, o3, o4, o5⟩
  have r' := r.swapAbs (st := ⟨s, c⟩) hp g2 g4 g3 g5 g6 ⟨o1, o2, o3⟩ o4 o5
  exact ⟨cv, rfl, kk rv cs' hpost _ _ w' Q (r'.put (x := rv) (v := cv) hd (RepI.toRep (e := ⟨G', e.μ, e.hd⟩) rv g1)) hq⟩

/-- A call that may change memory at known addresses. -/
theorem O_callA (is : List Nat) {f : FuncId} {dst : Nat} {args : Array Operand} {tys : Array TypeId} {ty : TypeId} {pos : String} {aft : Array Edge} {gd : Option (Nat × Bool)} {rest : List Oper} {avs : List AV} {cs : List Abs} {cr : List Ch} {post : AV → List Abs → Prop}
    {s : List (Nat × AV)} {c : List Ch} (hf : FnA P f avs cs post) (hg : guardA ops ⟨s, c⟩ ⟨some dst, .call ⟨.value (.func f), args, tys⟩, ty, pos, aft, gd⟩ = some true) (ha : opds s args.toList = some avs) (himm : AV.imm.immL avs = true)
    (hp : pickA is c = some (cs, cr)) (hd : Nat.blt dst n = true)
    (k : ∀ r cs', post r cs' → SymO X n ops rest ⟨(dst, r) :: s, cs'.map Ch.abs ++ cr⟩ K) :
    SymO X n ops (⟨some dst, .call ⟨.value (.func f), args, tys⟩, ty, pos, aft, gd⟩ :: rest) ⟨s, c⟩ K := by
  intro e a w Q r hq
  unfold wpList
  rw [if_pos (guardA_sound r hg)]
  refine .inl ?_
  unfold Oper.wp
  rw [run_call hf.1 a.eval rfl w, Oper.upon_enter]
  have h1 := RepT.toI avs himm (opds_sound r ha)
  rw [map_eval]
  refine (call_after (ops := ops) (Q := Q) hf r h1 (pickA_perm hp) hd k hq).mono ?_
  rintro en w' ⟨cv, rfl, h⟩
  exact h

/-- A call of a function value that may change memory at known addresses. -/
theorem O_callAV {f : FuncId} {xo : Operand} {fv : AV} {caps : List AV} {dst : Nat} {args : Array Operand} {tys : Array TypeId} {ty : TypeId} {pos : String} {aft : Array Edge} {gd : Option (Nat × Bool)} {rest : List Oper} {avs : List AV} {cs : List Abs} {cr : List Ch} {post : AV → List Abs → Prop}
    {s : List (Nat × AV)} {c : List Ch} (hclo : IsClo fv f caps) (hfi : fv.imm = true) (hf : FnA P f (avs ++ caps) cs post) (hxo : opd s xo = some fv)
    (hg : guardA ops ⟨s, c⟩ ⟨some dst, .call ⟨.value xo, args, tys⟩, ty, pos, aft, gd⟩ = some true) (ha : opds s args.toList = some avs) (himm : AV.imm.immL avs = true)
    (hp : c.Perm (cs.map Ch.abs ++ cr)) (hd : Nat.blt dst n = true)
    (k : ∀ r cs', post r cs' → SymO X n ops rest ⟨(dst, r) :: s, cs'.map Ch.abs ++ cr⟩ K) :
    SymO X n ops (⟨some dst, .call ⟨.value xo, args, tys⟩, ty, pos, aft, gd⟩ :: rest) ⟨s, c⟩ K := by
  intro e a w Q r hq
  unfold wpList
  rw [if_pos (guardA_sound r hg)]
  refine .inl ?_
  unfold Oper.wp
  obtain ⟨vs, hfv, hvs⟩ := hclo e.G _ (Rep.toI fv hfi (opd_sound r hxo))
  rw [run_callV hf.1 a.eval hfv w, Oper.upon_enter]
  have h1 := RepIT.app (RepT.toI avs himm (opds_sound r ha)) hvs
  have harr : args.map a.eval ++ vs = (args.toList.map a.eval ++ vs.toList).toArray := by
    apply Array.ext'; simp
  rw [harr]
  refine (call_after (ops := ops) (Q := Q) hf r h1 hp hd k hq).mono ?_
  rintro en w' ⟨cv, rfl, h⟩
  exact h

end
end Go.Sy

/- The symbolic walk, part 27: reading and writing memory at known addresses; telling owned memory so; bytes of texts. -/
set_option linter.unusedSimpArgs false
set_option linter.unusedVariables false
namespace Go.Sy
open Go.RowKit

abbrev PT (b o : Nat) : AV := .v (.pointer (some ⟨b, o, none⟩))
abbrev HD (g n cc : Nat) : Value := .slice (some ⟨g, 0, none⟩) n cc

section
variable {P : Program} {T : Tab} {X : Ctx P T} {n : Nat} {e : Env} {st : St} {a : Act} {w : World} {ops : Array Oper} {K : St → Prop}

/-! ### Reading -/
def Reads (A : Abs) (b o : Nat) (cells : List AV) : Prop :=
  ∀ (G : IM) (w : World), A.ok G w → ∀ (j : Nat) (c : AV), cells[j]? = some c → ∃ z, w.cell? ⟨b, o + j, none⟩ = some z ∧ RepI G c z ∧ z.oneCell' = true

theorem reads_box {b : Nat} {t : TypeId} {cells : List AV} (o : Nat) : Reads (boxA b t cells) b o (cells.drop o) := by
  rintro G w ⟨arr, h1, h2⟩ j c hc
  rw [List.getElem?_drop] at hc
  obtain ⟨z, h3, h4, h5⟩ := h2.get _ c hc
  refine ⟨z, ?_, h4, h5⟩
  rw [cell_of_row w b (o + j) arr t (0, 0) h1]
  simpa using h3

theorem reads_vec {g m cc : Nat} {t : TypeId} {esz : Nat} {row : Nat → List AV} {o q j : Nat} (hq : q < m) (ho : o = q * esz + j) : Reads (vecA (HD g m cc) t esz m row) g o ((row q).drop j) := by
  rintro G w ⟨xs, h1, h2⟩ i c hc
  subst ho
  rw [List.getElem?_drop] at hc
  rcases h1.2 with ⟨hnil, hm⟩ | ⟨g', cap, cur, hsl, _, hg, hcap, hmax, hcs, htake⟩
  · cases hnil
  · simp only [HD, Value.slice.injEq, Option.some.injEq, Addr.mk.injEq, and_true, true_and] at hsl
    obtain ⟨rfl, _⟩ := hsl
    have z0 := h2 q hq
    obtain ⟨z, z1, z2, z3⟩ := z0.get _ c hc
    have hj : j + i < esz := by
      rcases Nat.lt_or_ge (j + i) esz with h | h
      · exact h
      · rw [List.getElem?_eq_none (by simp; omega)] at z1; cases z1
    have hlt : q * esz + (j + i) < m * esz := by
      have : (q + 1) * esz ≤ m * esz := Nat.mul_le_mul_right _ hq
      rw [Nat.add_mul] at this; omega
    refine ⟨z, ?_, z2, z3⟩
    rw [cell_of_row w g _ cur t (0, 0) hg]
    rw [List.getElem?_take, if_pos hj, List.getElem?_drop, ← htake, List.getElem?_take, if_pos hlt] at z1
    rw [Nat.add_assoc]
    simpa using z1

theorem HeapOK.nth {A : Abs} {p : Nat} {c r : List Ch} (h : HeapOK X e w c) (hp : nthA p c = some (A, r)) : A.ok e.G w ∧ (∀ b ∈ A.bs, b < w.heap.size ∧ (X.w0.heap.size ≤ b ∨ b ∈ X.bs) ∧ e.G.free b) ∧ A.bs.Nodup := by
  have hh := h.perm (nthA_perm hp)
  have := (HeapOK.absOK (As := [A]) (r := r) (by simpa using hh))
  obtain ⟨⟨h1, h2, h3⟩, h4⟩ := this
  have hb : blocks [A] = A.bs := by simp [blocks]
  rw [hb] at h2 h3 h4
  exact ⟨h1 A (by simp), fun b hbb => ⟨(h3 b hbb).1, h4 b hbb, (h3 b hbb).2⟩, h2⟩

/-- A load at a known address. -/
theorem O_loadP (p : Nat) {A : Abs} {cells : List AV} {t : TypeId} {i : TI} {x : Operand} {d b o : Nat} {av : AV} {ty : TypeId} {pos : String} {aft : Array Edge} {gd : Option (Nat × Bool)} {rest : List Oper} {s : List (Nat × AV)} {c cr : List Ch}
    (hR : Reads A b o cells) (hg : guardA ops ⟨s, c⟩ ⟨some d, .load t x, ty, pos, aft, gd⟩ = some true) (hx : opd s x = some (PT b o)) (hp : nthA p c = some (A, cr)) (hT : T t = some i) (hl : loadA i cells = some av) (hd : Nat.blt d n = true)
    (k : SymO X n ops rest ⟨(d, av) :: s, c⟩ K) : SymO X n ops (⟨some d, .load t x, ty, pos, aft, gd⟩ :: rest) ⟨s, c⟩ K := by
  intro e a w Q r hq
  unfold wpList
  rw [if_pos (guardA_sound r hg)]
  refine .inl ?_
  have h1 := opd_sound r hx
  simp only [Rep] at h1
  obtain ⟨hok, _⟩ := r.heap.nth hp
  have hrd : Readable e w b o cells := fun j c hc => by
    obtain ⟨z, z1, z2, z3⟩ := hR _ _ hok j c hc
    exact ⟨z, z1, RepI.toRep c z2, z3⟩
  obtain ⟨v, g4, g3⟩ := load_sound X.ok hT hrd hl
  have hrun : (execOp a.eval ⟨some d, .load t x, ty, pos, aft, gd⟩).run P w = .ok (.value v) w := by
    simp only [execOp, h1, Instr.loadAt, Instr.sureAddr, Sem.run_bind, Sem.run_pure, Result.andThen_ok, g3 w (SameAs.refl w)]
  unfold Oper.wp
  rw [hrun]
  exact k _ _ _ Q (r.put hd g4) hq

/-! ### Writing -/
def Writes (A : Abs) (b o : Nat) (x : AV) (A' : Abs) : Prop :=
  b ∈ A.bs ∧ A'.bs = A.bs ∧ ∀ (G : IM) (w : World) (v : Value), A.ok G w → RepI G x v → v.oneCell' = true →
    (w.cell? ⟨b, o, none⟩).isSome = true ∧ w.frozen? ⟨b, o, none⟩ = false ∧ A'.ok G (w.setCell ⟨b, o, none⟩ v)

theorem setCell_heap {w : World} {b o : Nat} {v : Value} {cur : Array Value} {t : TypeId} {fz : Nat × Nat} (h : w.heap[b]? = some (.cells cur t fz)) :
    (w.setCell ⟨b, o, none⟩ v).heap[b]? = some (.cells (cur.setIfInBounds o v) t fz) := by
  have hlt : b < w.heap.size := (Array.getElem?_eq_some_iff.1 h).1
  have hv : w.heap[b] = .cells cur t fz := (Array.getElem?_eq_some_iff.1 h).2
  simp [World.setCell, Array.getElem?_modify, h]
theorem setCell_other {w : World} {b o k : Nat} {v : Value} (h : k ≠ b) : (w.setCell ⟨b, o, none⟩ v).heap[k]? = w.heap[k]? := by
  simp [World.setCell, Array.getElem?_modify, Ne.symm h]
theorem setCell_size {w : World} {b o : Nat} {v : Value} : (w.setCell ⟨b, o, none⟩ v).heap.size = w.heap.size := by
  simp [World.setCell]

theorem writes_box {b : Nat} {t : TypeId} {cells : List AV} {o : Nat} {x : AV} (ho : o < cells.length) : Writes (boxA b t cells) b o x (boxA b t (cells.set o x)) := by
  refine ⟨by simp [boxA], rfl, ?_⟩
  rintro G w v ⟨arr, h1, h2⟩ hx hv
  have hl := RepIL.len h2
  have ho' : o < arr.size := by simp at hl; omega
  refine ⟨by simp [World.cell?, h1, ho'], by simp [World.frozen?, h1], arr.setIfInBounds o v, setCell_heap h1, ?_⟩
  refine RepIL.mk (by simpa using hl) (fun j c hc => ?_)
  rw [List.getElem?_set] at hc
  by_cases hj : o = j
  · subst hj
    rw [if_pos rfl, if_pos ho] at hc
    simp only [Option.some.injEq] at hc
    subst hc
    exact ⟨v, by simp [ho'], hx, hv⟩
  · rw [if_neg hj] at hc
    obtain ⟨z, z1, z2, z3⟩ := h2.get j c hc
    exact ⟨z, by simpa [hj] using z1, z2, z3⟩

theorem ownsRow_set {w : World} {g m cc : Nat} {t : TypeId} {esz : Nat} {xs : List Value} {o : Nat} {v : Value} (h : w.ownsRow 0 t esz (HD g m cc) m xs) (ho : o < m * esz) :
    (w.cell? ⟨g, o, none⟩).isSome = true ∧ w.frozen? ⟨g, o, none⟩ = false ∧ (w.setCell ⟨g, o, none⟩ v).ownsRow 0 t esz (HD g m cc) m (xs.set o v) := by
  rcases h.2 with ⟨hnil, hm⟩ | ⟨g', cap, cur, hsl, hbb, hg, hcap, hmax, hcs, htake⟩
  · cases hnil
  · simp only [HD, Value.slice.injEq, Option.some.injEq, Addr.mk.injEq, and_true, true_and] at hsl
    obtain ⟨rfl, rfl⟩ := hsl
    have hlt : o < cur.size := by
      rw [hcs]
      exact Nat.lt_of_lt_of_le ho (Nat.mul_le_mul_right _ hcap)
    refine ⟨by simp [World.cell?, hg, hlt], by simp [World.frozen?, hg], by simpa using h.1, .inr ⟨g, cc, cur.setIfInBounds o v, rfl, hbb, setCell_heap hg, hcap, hmax, by simpa using hcs, ?_⟩⟩
    rw [Array.toList_setIfInBounds, List.take_set, htake]

theorem rows_set {G : IM} {esz m : Nat} {row row' : Nat → List AV} {xs : List Value} {q j : Nat} {x : AV} {v : Value} (hl : xs.length = m * esz) (h : RowsL G esz m row xs) (hq : q < m) (hj : j < esz) (hx : RepI G x v) (hv : v.oneCell' = true)
    (hrow : ∀ i, i < m → row' i = if i = q then (row q).set j x else row i) : RowsL G esz m row' (xs.set (q * esz + j) v) := by
  intro i hi
  rw [hrow i hi]
  have hle : ∀ i, i < m → (i + 1) * esz ≤ m * esz := fun i hi => Nat.mul_le_mul_right _ hi
  by_cases hiq : i = q
  · subst hiq
    rw [if_pos rfl]
    have h0 := h i hi
    have hl0 := RepIL.len h0
    have hlen : ((xs.drop (i * esz)).take esz).length = esz := by
      simp
      have := hle i hi
      rw [Nat.add_mul] at this; omega
    refine RepIL.mk (by rw [List.length_set, ← hl0]; simp) (fun k c hc => ?_)
    have hd : ((xs.set (i * esz + j) v).drop (i * esz)).take esz = ((xs.drop (i * esz)).take esz).set j v := by
      rw [← List.take_set, List.drop_set]
      rw [if_neg (by omega)]
      congr 2; omega
    rw [hd]
    rw [List.getElem?_set] at hc
    rw [List.getElem?_set]
    by_cases hk : j = k
    · subst hk
      rw [if_pos rfl, if_pos (by rw [← hl0, hlen]; exact hj)] at hc
      simp only [Option.some.injEq] at hc
      subst hc
      rw [if_pos rfl, if_pos (by rw [hlen]; exact hj)]
      exact ⟨v, rfl, hx, hv⟩
    · rw [if_neg hk] at hc
      rw [if_neg hk]
      exact h0.get k c hc
  · rw [if_neg hiq]
    have hd : ((xs.set (q * esz + j) v).drop (i * esz)).take esz = (xs.drop (i * esz)).take esz := by
      rcases Nat.lt_or_gt_of_ne hiq with h | h
      · have : (i + 1) * esz ≤ q * esz := Nat.mul_le_mul_right _ h
        rw [Nat.add_mul] at this
        rw [List.drop_set, if_neg (by omega), List.take_set_of_le (by omega)]
      · have : (q + 1) * esz ≤ i * esz := Nat.mul_le_mul_right _ h
        rw [Nat.add_mul] at this
        rw [List.drop_set, if_pos (by omega)]
    rw [hd]
    exact h i hi

theorem writes_vec {g m cc : Nat} {t : TypeId} {esz : Nat} {row row' : Nat → List AV} {o q j : Nat} {x : AV} (hq : q < m) (hj : j < esz) (ho : o = q * esz + j) (hrow : ∀ i, i < m → row' i = if i = q then (row q).set j x else row i) :
    Writes (vecA (HD g m cc) t esz m row) g o x (vecA (HD g m cc) t esz m row') := by
  subst ho
  refine ⟨by simp [vecA, HD, Value.ownBlock], rfl, ?_⟩
  rintro G w v ⟨xs, h1, h2⟩ hx hv
  have hlt : q * esz + j < m * esz := by
    have : (q + 1) * esz ≤ m * esz := Nat.mul_le_mul_right _ hq
    rw [Nat.add_mul] at this; omega
  obtain ⟨k1, k2, k3⟩ := ownsRow_set (v := v) h1 hlt
  exact ⟨k1, k2, _, k3, rows_set h1.1 h2 hq hj hx hv hrow⟩

theorem cells_oneV {v : Value} (h : v.oneCell' = true) : v.cells = #[v] := by
  cases v <;> first | rfl | cases h

theorem run_store1 {ρ : Operand → Value} {t : TypeId} {by_ : Nat} {z : List Value} {dd : TD} {b o : Nat} {v : Value} {ad xo : Operand} {ty : TypeId} {pos : String} {aft : Array Edge} {gd : Option (Nat × Bool)} (hok : TabOK P T) (hT : T t = some ⟨1, by_, false, z, dd⟩)
    (h1 : ρ ad = .pointer (some ⟨b, o, none⟩)) (h2 : ρ xo = v) (hv : v.oneCell' = true) (hc : (w.cell? ⟨b, o, none⟩).isSome = true) (hf : w.frozen? ⟨b, o, none⟩ = false) :
    (execOp ρ ⟨none, .store t ad xo, ty, pos, aft, gd⟩).run P w = .ok .skip (w.setCell ⟨b, o, none⟩ v) := by
  have hs := run_storeCells_cells (P := P) b o [v] 0 w (fun j hj => by
      simp at hj; subst hj; simpa using hc) (fun j hj => by simp at hj; subst hj; simpa using hf) (fun u hu => by simp at hu; subst hu; exact hv)
  simp only [Nat.add_zero, World.setCells] at hs
  simp only [execOp, Instr.storeAt, h1, h2, Instr.sureAddr, Sem.run_bind, Sem.run_pure, Result.andThen_ok, storeVar, hok.size hT, cells_oneV hv]
  simp [hs]

/-- Memory at known addresses is turned. -/
theorem Rel.absTurn (r : Rel X n e st a w) {p : Nat} {A A' : Abs} {cr : List Ch} {w' : World} (hp : nthA p st.c = some (A, cr)) (hbs : A'.bs = A.bs) (hok : A'.ok e.G w') (hoth : ∀ b, b ∉ A.bs → w'.heap[b]? = w.heap[b]?)
    (ho : w'.os = w.os ∧ w'.tape = w.tape ∧ w'.output = w.output) (hsz : w'.heap.size = w.heap.size) : Rel X n e ⟨st.s, .abs A' :: cr⟩ a w' := by
  have hperm : st.c.Perm ([A].map Ch.abs ++ cr) := by simpa using nthA_perm hp
  obtain ⟨_, h2, h3⟩ := r.heap.nth hp
  have hbl : ∀ B : Abs, blocks [B] = B.bs := fun B => by simp [blocks]
  have := Rel.swapAbs (G' := e.G) (w' := w') (As := [A]) (As' := [A']) (c := cr) r hperm (IM.le_refl _) ⟨?_, ?_⟩ ⟨fun b o v h => .inl h, fun b x h => .inl h⟩ ⟨?_, ?_, ?_⟩ (fun k hk => .inr ?_) ho (by rw [hsz]; exact Nat.le_refl _) (fun k hk hnin _ => hoth k (by rw [hbl] at hnin; exact hnin))
  · simpa using this
  · intro k oo v' h
    have h1 := r.im k oo v' h
    simp only [World.cell?] at h1 ⊢
    rw [hoth k (fun hk => by rw [(h2 k hk).2.2.1 oo] at h; cases h)]
    exact h1
  · exact r.mzKeep (fun b hb hf => hoth b (fun hk => hf (h2 b hk).2.2))
  · intro B hB
    simp only [List.mem_singleton] at hB
    subst hB
    exact hok
  · rw [hbl, hbs]; exact h3
  · intro k hk
    rw [hbl, hbs] at hk
    obtain ⟨q1, q2, q3⟩ := h2 k hk
    exact ⟨by rw [hsz]; exact q1, q3⟩
  · rw [hbl, hbs] at hk; rw [hbl]; exact hk

theorem Rel.absWrite (r : Rel X n e ⟨st.s, st.c⟩ a w) {p : Nat} {A A' : Abs} {cr : List Ch} {b o : Nat} {v : Value} (hp : nthA p st.c = some (A, cr)) (hb : b ∈ A.bs) (hbs : A'.bs = A.bs) (hok : A'.ok e.G (w.setCell ⟨b, o, none⟩ v)) :
    Rel X n e ⟨st.s, .abs A' :: cr⟩ a (w.setCell ⟨b, o, none⟩ v) :=
  r.absTurn (st := ⟨st.s, st.c⟩) hp hbs hok (fun k hk => setCell_other (fun he => hk (by subst he; exact hb))) ⟨rfl, rfl, rfl⟩ setCell_size

/-- A store of one cell at a known address. -/
theorem O_storeP (p : Nat) {A A' : Abs} {t : TypeId} {by_ : Nat} {z : List Value} {dd : TD} {ad xo : Operand} {b o : Nat} {x : AV} {ty : TypeId} {pos : String} {aft : Array Edge} {rest : List Oper} {s : List (Nat × AV)} {c cr : List Ch}
    (hW : Writes A b o x A') (hT : T t = some ⟨1, by_, false, z, dd⟩) (hp : nthA p c = some (A, cr)) (had : opd s ad = some (PT b o)) (hx : opd s xo = some x) (hcb : x.cellB = true) (himm : x.imm = true)
    (k : SymO X n ops rest ⟨s, .abs A' :: cr⟩ K) : SymO X n ops (⟨none, .store t ad xo, ty, pos, aft, none⟩ :: rest) ⟨s, c⟩ K := by
  intro e a w Q r hq
  unfold wpList
  rw [if_pos (guardA_sound r (o := ⟨none, .store t ad xo, ty, pos, aft, none⟩) (b := true) rfl)]
  refine .inl ?_
  have h1 := opd_sound r had
  have h2 := opd_sound r hx
  simp only [Rep] at h1
  have hv := cellB_one h2 hcb
  obtain ⟨hok, _⟩ := r.heap.nth hp
  obtain ⟨w1, w2, w3⟩ := hW.2.2 _ _ _ hok (Rep.toI x himm h2) hv
  have hrun := run_store1 (w := w) (ρ := a.eval) (ty := ty) (pos := pos) (aft := aft) (gd := none) X.ok hT h1 rfl hv w1 w2
  unfold Oper.wp
  rw [hrun]
  exact k _ _ _ Q (r.absWrite (st := ⟨s, c⟩) hp hW.1 hW.2.1 w3) hq

/-- .. in a region whose order is drawn. -/
theorem S_storeP {base : List (Nat × AV)} {c : List Ch} {C : Bool → List Ch} {j0 : Nat} {done : Done} {A A' : Abs} {t : TypeId} {by_ : Nat} {z : List Value} {dd : TD} {ad xo : Operand} {b o : Nat} {x : AV} {ty : TypeId} {pos : String} {aft : Array Edge} {rest : List Oper}
    (hj : Nat.beq done.length j0 = true) (hW : Writes A b o x A') (hT : T t = some ⟨1, by_, false, z, dd⟩)
    (had : opd (availL done aft.toList base) ad = some (PT b o)) (hx : opd (availL done aft.toList base) xo = some x) (hcb : x.cellB = true) (himm : x.imm = true)
    (h0 : C false = .abs A :: c) (h1 : C true = .abs A' :: c)
    (kk : SymS X n ops base C j0 K rest (done ++ [(none, .bad)])) : SymS X n ops base C j0 K (⟨none, .store t ad xo, ty, pos, aft, none⟩ :: rest) done := by
  have hjj : (done.length == j0) = true := by
    have := Nat.eq_of_beq_eq_true hj
    simpa using this
  refine ⟨.bad, ?_, kk⟩
  rw [hjj]
  intro e a w S K Q r hS hk
  rw [h0] at r
  have hw : Region.wanted (⟨none, .store t ad xo, ty, pos, aft, none⟩ : Oper) (yielded ops a.tmps) = true := rfl
  rw [if_pos hw]
  refine .inl ?_
  have r' : Rel X n e ⟨availL done aft.toList base, .abs A :: c⟩ a w := r.less hS (fun h => h)
  have e1 := opd_sound r' had
  have e2 := opd_sound r' hx
  simp only [Rep] at e1
  have hv := cellB_one e2 hcb
  have hp : nthA 0 (.abs A :: c) = some (A, c) := rfl
  obtain ⟨hok, _⟩ := r.heap.nth hp
  obtain ⟨w1, w2, w3⟩ := hW.2.2 _ _ _ hok (Rep.toI x himm e2) hv
  have hrun := run_store1 (w := w) (ρ := a.eval) (ty := ty) (pos := pos) (aft := aft) (gd := none) X.ok hT e1 rfl hv w1 w2
  unfold Oper.wp
  rw [hrun]
  exact hk _ _ _ (by rw [h1]; exact r.absWrite (st := ⟨S, .abs A :: c⟩) hp hW.1 hW.2.1 w3)

/-- A call of a function value that changes memory, in a region whose order is drawn. -/
theorem S_callAV {base : List (Nat × AV)} {c : List Ch} {C : Bool → List Ch} {j0 : Nat} {done : Done} {cs cs1 : List Abs} {f : FuncId} {xo : Operand} {fv : AV} {caps : List AV} {dst : Nat} {args : Array Operand} {tys : Array TypeId} {ty : TypeId} {pos : String} {aft : Array Edge} {rest : List Oper} {avs : List AV} {x : AV}
    (hj : Nat.beq done.length j0 = true) (hclo : IsClo fv f caps) (hfi : fv.imm = true) (hf : FnA P f (avs ++ caps) cs (fun r cs' => r = x ∧ cs' = cs1)) (hxo : opd (availL done aft.toList base) xo = some fv)
    (ha : opds (availL done aft.toList base) args.toList = some avs) (himm : AV.imm.immL avs = true) (hd : Nat.blt dst n = true)
    (h0 : C false = cs.map Ch.abs ++ c) (h1 : C true = cs1.map Ch.abs ++ c)
    (kk : SymS X n ops base C j0 K rest (done ++ [(some dst, x)])) : SymS X n ops base C j0 K (⟨some dst, .call ⟨.value xo, args, tys⟩, ty, pos, aft, none⟩ :: rest) done := by
  have hjj : (done.length == j0) = true := by
    have := Nat.eq_of_beq_eq_true hj
    simpa using this
  refine ⟨x, ?_, kk⟩
  rw [hjj]
  intro e a w S K Q r hS hk
  rw [h0] at r
  have hw : Region.wanted (⟨some dst, .call ⟨.value xo, args, tys⟩, ty, pos, aft, none⟩ : Oper) (yielded ops a.tmps) = true := rfl
  rw [if_pos hw]
  refine .inl ?_
  have r' : Rel X n e ⟨availL done aft.toList base, cs.map Ch.abs ++ c⟩ a w := r.less hS (fun h => h)
  unfold Oper.wp
  obtain ⟨vs, hfv, hvs⟩ := hclo e.G _ (Rep.toI fv hfi (opd_sound r' hxo))
  rw [run_callV hf.1 a.eval hfv w, Oper.upon_enter]
  have h2 := RepIT.app (RepT.toI avs himm (opds_sound r' ha)) hvs
  have harr : args.map a.eval ++ vs = (args.toList.map a.eval ++ vs.toList).toArray := by
    apply Array.ext'; simp
  rw [harr]
  have hd2 := r.heap.absOK
  refine (hf.2 e.G w _ ⟨r.im, r.mz⟩ h2 hd2.1).mono ?_
  rintro en w' ⟨rv, cv, cs', G', ⟨rfl, rfl⟩, rfl, g1, g2, g3, g4, g5, g6, o1, o2, o3, o4, o5⟩
  have r2 := r.swapAbs (st := ⟨S, cs.map Ch.abs ++ c⟩) (List.Perm.refl _) g2 g4 g3 g5 g6 ⟨o1, o2, o3⟩ o4 o5
  exact hk _ _ _ (by rw [h1]; exact r2.put (x := rv) (v := cv) hd (RepI.toRep (e := ⟨G', e.μ, e.hd⟩) rv g1))

/-! ### Owned memory, told so -/
theorem HeapOK.retell {c c' : Ch} {r : List Ch} (h : HeapOK X e w (c :: r)) (hc : ∀ bs, ChOK e w c bs → ChOK e w c' bs) : HeapOK X e w (c' :: r) := by
  obtain ⟨pl, h1, h2, h3, h4⟩ := h
  cases pl with
  | nil => simp at h1
  | cons p pl =>
    simp only [List.map_cons, List.cons.injEq] at h1
    have hp := h2 p (List.mem_cons_self ..)
    rw [h1.1] at hp
    refine ⟨(c', p.2) :: pl, by simp [h1.2], ?_, by simpa using h3, by simpa using h4⟩
    intro q hq
    rcases List.mem_cons.1 hq with rfl | hq
    · exact hc _ hp
    · exact h2 q (List.mem_cons_of_mem _ hq)

theorem Rel.boxAbs {s : List (Nat × AV)} {c cr : List Ch} (r : Rel X n e ⟨s, c⟩ a w) {i k kk o : Nat} {t : TypeId} {cells : List AV} (hi : get s i = some (.bp k o)) (hk : takeCh k c = some (.box kk t cells, cr)) (himm : AV.imm.immL cells = true) :
    ∃ b, Rel X n e ⟨(i, PT b o) :: s, .abs (boxA b t cells) :: cr⟩ a w := by
  have hkk : kk = k := kid_of_take hk
  subst hkk
  obtain ⟨v, h1, h2⟩ := r.slots i _ hi
  simp only [Rep] at h2
  subst h2
  refine ⟨e.μ kk, { r with slots := ?_, heap := ?_ }⟩
  · intro j x hx
    rw [get_cons] at hx
    by_cases hij : i = j
    · subst hij
      simp only [if_true, Option.some.injEq] at hx
      subst hx
      exact ⟨_, h1, by simp only [Rep]⟩
    · rw [if_neg hij] at hx
      exact r.slots j x hx
  · refine HeapOK.retell (r.heap.perm (takeCh_perm hk)) ?_
    rintro bs ⟨rfl, arr, g1, g2⟩
    exact ⟨rfl, arr, g1, RepL.toI cells himm g2⟩

theorem Rel.vecAbs {s : List (Nat × AV)} {c cr : List Ch} (r : Rel X n e ⟨s, c⟩ a w) {i k kk : Nat} {t : TypeId} {esz m : Nat} {row : Nat → List AV} (hi : get s i = some (.own k)) (hk : takeCh k c = some (.vec kk t esz m row, cr)) :
    (m = 0 ∧ Rel X n e ⟨(i, .v (.slice none 0 0)) :: s, cr⟩ a w) ∨ ∃ g cc, Rel X n e ⟨(i, .v (HD g m cc)) :: s, .abs (vecA (HD g m cc) t esz m row) :: cr⟩ a w := by
  have hkk : kk = k := kid_of_take hk
  subst hkk
  obtain ⟨v, h1, h2⟩ := r.slots i _ hi
  simp only [Rep] at h2
  obtain ⟨rfl, _⟩ := h2
  have hh := r.heap.perm (takeCh_perm hk)
  have slots : ∀ x, e.hd kk = x → ∀ j y, get ((i, .v x) :: s) j = some y → ∃ v, a.tmps[j]? = some v ∧ Rep e y v := by
    intro x hx0 j y hx
    rw [get_cons] at hx
    by_cases hij : i = j
    · subst hij
      simp only [if_true, Option.some.injEq] at hx
      subst hx
      exact ⟨_, h1, by simp only [Rep]; exact hx0⟩
    · rw [if_neg hij] at hx
      exact r.slots j y hx
  obtain ⟨bs, ⟨hbs, xs, g1, g2⟩, _, hgood⟩ := hh.head
  rcases g1.2 with ⟨hnil, hm⟩ | ⟨g, cap, cur, hsl, _⟩
  · exact .inl ⟨hm, { r with slots := slots _ hnil, heap := hh.drop }⟩
  · refine .inr ⟨g, cap, { r with slots := slots _ hsl, heap := ?_ }⟩
    refine HeapOK.retell hh ?_
    rintro bs' ⟨rfl, xs', k1, k2⟩
    rw [hsl] at k1 ⊢
    exact ⟨rfl, xs', k1, k2⟩

theorem C_absb {Q : Exit → St → Prop} {cd : Code} {s : List (Nat × AV)} {c cr : List Ch} (i : Nat) {k kk o : Nat} {t : TypeId} {cells : List AV} (hi : get s i = some (.bp k o)) (hk : takeCh k c = some (.box kk t cells, cr)) (himm : AV.imm.immL cells = true)
    (h : ∀ b, SymC X n cd ⟨(i, PT b o) :: s, .abs (boxA b t cells) :: cr⟩ Q) : SymC X n cd ⟨s, c⟩ Q := fun e a w r => by
  obtain ⟨b, r'⟩ := r.boxAbs hi hk himm
  exact h b e a w r'
theorem O_absb {l : List Oper} {s : List (Nat × AV)} {c cr : List Ch} (i : Nat) {k kk o : Nat} {t : TypeId} {cells : List AV} (hi : get s i = some (.bp k o)) (hk : takeCh k c = some (.box kk t cells, cr)) (himm : AV.imm.immL cells = true)
    (h : ∀ b, SymO X n ops l ⟨(i, PT b o) :: s, .abs (boxA b t cells) :: cr⟩ K) : SymO X n ops l ⟨s, c⟩ K := fun e a w Q r => by
  obtain ⟨b, r'⟩ := r.boxAbs hi hk himm
  exact h b e a w Q r'
theorem C_absv {Q : Exit → St → Prop} {cd : Code} {s : List (Nat × AV)} {c cr : List Ch} (i : Nat) {k kk : Nat} {t : TypeId} {esz m : Nat} {row : Nat → List AV} (hi : get s i = some (.own k)) (hk : takeCh k c = some (.vec kk t esz m row, cr))
    (h0 : m = 0 → SymC X n cd ⟨(i, .v (.slice none 0 0)) :: s, cr⟩ Q) (h : ∀ g cc, SymC X n cd ⟨(i, .v (HD g m cc)) :: s, .abs (vecA (HD g m cc) t esz m row) :: cr⟩ Q) : SymC X n cd ⟨s, c⟩ Q := fun e a w r => by
  rcases r.vecAbs hi hk with ⟨hm, r'⟩ | ⟨g, cc, r'⟩
  · exact h0 hm e a w r'
  · exact h g cc e a w r'
theorem O_absv {l : List Oper} {s : List (Nat × AV)} {c cr : List Ch} (i : Nat) {k kk : Nat} {t : TypeId} {esz m : Nat} {row : Nat → List AV} (hi : get s i = some (.own k)) (hk : takeCh k c = some (.vec kk t esz m row, cr))
    (h0 : m = 0 → SymO X n ops l ⟨(i, .v (.slice none 0 0)) :: s, cr⟩ K) (h : ∀ g cc, SymO X n ops l ⟨(i, .v (HD g m cc)) :: s, .abs (vecA (HD g m cc) t esz m row) :: cr⟩ K) : SymO X n ops l ⟨s, c⟩ K := fun e a w Q r => by
  rcases r.vecAbs hi hk with ⟨hm, r'⟩ | ⟨g, cc, r'⟩
  · exact h0 hm e a w Q r'
  · exact h g cc e a w Q r'

/-- Cells at a known block are given up: from now on they are read alone. -/
theorem Le.freezev {s : List (Nat × AV)} {c cr : List Ch} (i p : Nat) {g m cc : Nat} {t : TypeId} {esz : Nat} {row : Nat → List AV} (hi : get s i = some (.v (HD g m cc))) (hp : nthA p c = some (vecA (HD g m cc) t esz m row, cr)) :
    Le X n ⟨s, c⟩ ⟨(i, .sl m esz row) :: s, cr⟩ := by
  intro e a w r
  have hh := r.heap.perm (nthA_perm hp)
  obtain ⟨⟨xs, g1, g2⟩, hgood, _⟩ := r.heap.nth hp
  obtain ⟨v, h1, h2⟩ := r.slots i _ hi
  simp only [Rep] at h2
  subst h2
  have hGg : e.G.free g := (hgood g (by simp [vecA, HD, Value.ownBlock])).2.2
  rcases g1.2 with ⟨hnil, hm⟩ | ⟨g', cap, cur, hsl, _, hg, hcap, hmax, hcs, htake⟩
  · cases hnil
  simp only [HD, Value.slice.injEq, Option.some.injEq, Addr.mk.injEq, and_true, true_and] at hsl
  obtain ⟨rfl, rfl⟩ := hsl
  let G' : IM := ⟨fun b o => if b = g ∧ o < m * esz then cur[o]? else e.G b o, e.G.m⟩
  have hle : IM.le e.G G' := by
    refine ⟨?_, fun _ _ h => h⟩
    intro b o v hv
    show (if b = g ∧ o < m * esz then cur[o]? else e.G b o) = some v
    rw [if_neg]
    · exact hv
    · rintro ⟨rfl, _⟩; rw [hGg.1 o] at hv; cases hv
  have hnew : ∀ b o v, G' b o = some v → e.G b o = some v ∨ (b = g ∧ cur[o]? = some v) := by
    intro b o v hv
    have hv' : (if b = g ∧ o < m * esz then cur[o]? else e.G b o) = some v := hv
    split at hv'
    · rename_i hc; exact .inr ⟨hc.1, hv'⟩
    · exact .inl hv'
  refine ⟨{ e with G := G' }, { r with slots := ?sl, heap := ?hp, im := ?im, mz := ?mz, newm := r.newm, le := IM.le_trans r.le hle, new := ?nw }⟩
  case sl =>
    intro j x hx
    rw [get_cons] at hx
    by_cases hij : i = j
    · subst hij
      simp only [if_true, Option.some.injEq] at hx
      subst hx
      refine ⟨_, h1, ?_⟩
      simp only [Rep, RepI]
      refine ⟨some ⟨g, 0, none⟩, cc, rfl, hcap, .inr ⟨g, 0, rfl, fun q hq => CellsAt.mk (fun j c hc => ?_)⟩⟩
      obtain ⟨z, z1, z2, z3⟩ := (g2 q hq).get j c hc
      have hj : j < esz := by
        rcases Nat.lt_or_ge j esz with h | h
        · exact h
        · rw [List.getElem?_eq_none (by simp; omega)] at z1; cases z1
      have hlt : q * esz + j < m * esz := by
        have : (q + 1) * esz ≤ m * esz := Nat.mul_le_mul_right _ hq
        rw [Nat.add_mul] at this; omega
      rw [List.getElem?_take, if_pos hj, List.getElem?_drop, ← htake, List.getElem?_take, if_pos hlt] at z1
      refine ⟨z, ?_, RepI.mono hle _ z2, z3⟩
      show (if g = g ∧ 0 + q * esz + j < m * esz then cur[0 + q * esz + j]? else e.G g (0 + q * esz + j)) = some z
      rw [Nat.zero_add, if_pos ⟨rfl, hlt⟩]
      simpa using z1
    · rw [if_neg hij] at hx
      obtain ⟨v, q1, q2⟩ := r.slots j x hx
      exact ⟨v, q1, Rep.mono (e := e) (f := { e with G := G' }) hle x (fun q _ => ⟨rfl, rfl⟩) q2⟩
  case hp =>
    obtain ⟨pl, p1, p2, p3, p4⟩ := hh
    cases pl with
    | nil => simp at p1
    | cons p pl =>
      simp only [List.map_cons, List.cons.injEq] at p1
      simp only [List.flatMap_cons] at p3 p4
      have hp := p2 p (List.mem_cons_self ..)
      rw [p1.1] at hp
      have hpb : p.2 = [g] := by rw [hp.1]; rfl
      obtain ⟨q1, q2, q3⟩ := List.nodup_append.1 p3
      refine ⟨pl, p1.2, fun q hq => ChOK.keep (e := e) (f := { e with G := G' }) hle q.1 (fun j _ => ⟨rfl, rfl⟩) (fun b _ => rfl) (p2 q (List.mem_cons_of_mem _ hq)), q2, fun b hb => ?_⟩
      obtain ⟨s1, s2, s3⟩ := p4 b (List.mem_append.2 (.inr hb))
      refine ⟨s1, s2, fun o => ?_, s3.2⟩
      show G' b o = none
      cases hg : G' b o with
      | none => rfl
      | some v =>
        rcases hnew b o v hg with h | h
        · rw [s3.1 o] at h; cases h
        · exact absurd rfl (q3 b (by rw [hpb, h.1]; simp) b hb)
  case im =>
    intro b o v hv
    rcases hnew b o v hv with h | ⟨rfl, h⟩
    · exact r.im b o v h
    · rw [cell_of_row w b o cur t (0, 0) hg]; exact h
  case mz =>
    intro b x hx
    refine (r.mz b x hx).keep (H := G') hle rfl (fun o v hv => ?_)
    rcases hnew b o v hv with h | ⟨rfl, h⟩
    · exact ⟨v, h⟩
    · rw [hGg.2] at hx; cases hx
  case nw =>
    intro b o v hv
    rcases hnew b o v hv with h | ⟨rfl, h⟩
    · exact r.new b o v h
    · exact .inr (hgood b (by simp [vecA, HD, Value.ownBlock])).2.1

/-- A store into an owned slice. -/
theorem O_storeE {t tv : TypeId} {by_ : Nat} {z : List Value} {dd : TD} {ad xo : Operand} {k kk q esz j m : Nat} {row row' : Nat → List AV} {x : AV} {ty : TypeId} {pos : String} {aft : Array Edge} {rest : List Oper} {s : List (Nat × AV)} {c cr : List Ch}
    (hT : T t = some ⟨1, by_, false, z, dd⟩) (hk : takeCh k c = some (.vec kk tv esz m row, cr)) (had : opd s ad = some (.ep k q esz j)) (hx : opd s xo = some x) (hcb : x.cellB = true) (himm : x.imm = true)
    (hq0 : q < m) (hj : j < esz) (hrow : ∀ i, i < m → row' i = if i = q then (row q).set j x else row i)
    (kx : SymO X n ops rest ⟨s, .vec k tv esz m row' :: cr⟩ K) : SymO X n ops (⟨none, .store t ad xo, ty, pos, aft, none⟩ :: rest) ⟨s, c⟩ K := by
  intro e a w Q r hq
  have hkk : kk = k := kid_of_take hk
  subst hkk
  unfold wpList
  rw [if_pos (guardA_sound r (o := ⟨none, .store t ad xo, ty, pos, aft, none⟩) (b := true) rfl)]
  refine .inl ?_
  have h1 := opd_sound r had
  have h2 := opd_sound r hx
  simp only [Rep] at h1
  have hv := cellB_one h2 hcb
  have hh := r.heap.perm (takeCh_perm hk)
  obtain ⟨bs, ⟨hbs, xs, g1, g2⟩, _, hgood⟩ := hh.head
  rcases g1.2 with ⟨hnil, hm⟩ | ⟨g, cap, cur, hsl, _⟩
  · omega
  have hW := writes_vec (g := g) (m := m) (cc := cap) (t := tv) (esz := esz) (row := row) (row' := row') (x := x) hq0 hj rfl hrow
  have hb0 : (e.hd kk).ownBlock.getD 0 = g := by rw [hsl]; rfl
  rw [hb0] at h1
  have hre : HeapOK X e w (.abs (vecA (HD g m cap) tv esz m row) :: cr) := by
    refine HeapOK.retell hh ?_
    rintro bs' ⟨rfl, xs', k1, k2⟩
    rw [hsl] at k1 ⊢
    exact ⟨rfl, xs', k1, k2⟩
  have r1 : Rel X n e ⟨s, .abs (vecA (HD g m cap) tv esz m row) :: cr⟩ a w := { r with slots := r.slots, heap := hre }
  have hp : nthA 0 (.abs (vecA (HD g m cap) tv esz m row) :: cr) = some (vecA (HD g m cap) tv esz m row, cr) := rfl
  obtain ⟨hok, _⟩ := r1.heap.nth hp
  obtain ⟨w1, w2, w3⟩ := hW.2.2 _ _ _ hok (Rep.toI x himm h2) hv
  have hrun := run_store1 (w := w) (ρ := a.eval) (ty := ty) (pos := pos) (aft := aft) (gd := none) X.ok hT h1 rfl hv w1 w2
  unfold Oper.wp
  rw [hrun]
  have r2 := r1.absWrite (st := ⟨s, .abs (vecA (HD g m cap) tv esz m row) :: cr⟩) (v := a.eval xo) hp hW.1 hW.2.1 w3
  refine kx _ _ _ Q { r2 with slots := r2.slots, heap := ?_ } hq
  refine HeapOK.retell r2.heap ?_
  rintro bs' ⟨rfl, xs', k1, k2⟩
  refine ⟨by rw [hsl]; rfl, xs', ?_, k2⟩
  rw [hsl]; exact k1

/-! ### Bytes of a text -/
def bytA (g : Nat) (t : TypeId) (l : List UInt8) : Abs where
  bs := [g]
  ok := fun _ w => ∃ cur : Array Value, w.heap[g]? = some (.cells cur t (cur.size, cur.size + 1)) ∧ l.length ≤ cur.size ∧ ∀ i (_ : i < l.length), cur[i]? = some (.int .u8 (l[i].toNat : Int))
  keep := by
    rintro G H w w' hG hb ⟨cur, h1, h2, h3⟩
    exact ⟨cur, by rw [hb g (by simp)]; exact h1, h2, h3⟩

theorem writes_byt {g o : Nat} {t : TypeId} {l : List UInt8} {y : UInt8} (ho : o < l.length) : Writes (bytA g t l) g o (.v (.int .u8 (y.toNat : Int))) (bytA g t (l.set o y)) := by
  refine ⟨by simp [bytA], rfl, ?_⟩
  rintro G w v ⟨cur, h1, h2, h3⟩ hx hv
  simp only [RepI] at hx
  subst hx
  have ho' : o < cur.size := by omega
  refine ⟨by simp [World.cell?, h1, ho'], ?_, cur.setIfInBounds o (.int .u8 (y.toNat : Int)), ?_, by simpa using h2, fun i hi => ?_⟩
  · simp [World.frozen?, h1]; omega
  · have := setCell_heap (o := o) (v := .int .u8 (y.toNat : Int)) h1
    simpa using this
  · simp only [List.length_set] at hi
    by_cases hio : o = i
    · subst hio
      simp [ho', List.getElem_set]
    · rw [Array.getElem?_setIfInBounds_ne hio, List.getElem_set_ne hio]
      exact h3 i hi

theorem O_toBytes {src dst' : TypeId} {x : Operand} {d : Nat} {ty : TypeId} {pos : String} {aft : Array Edge} {rest : List Oper} {l : List UInt8} {s : List (Nat × AV)} {c : List Ch} {el : Nat} {s1 s2 s3 s4 s5 s6 : Nat} {g1 g2 g3 : Bool} {z1 z2 z3 : List Value}
    (t1 : T src = some ⟨s1, s2, g1, z1, .str⟩) (t2 : T dst' = some ⟨s3, s4, g2, z2, .slice el⟩) (t3 : T el = some ⟨s5, s6, g3, z3, .int .u8⟩) (hx : opd s x = some (.s l)) (hd : Nat.blt d n = true)
    (h : ∀ g cc, SymO X n ops rest ⟨(d, .v (HD g l.length cc)) :: s, .abs (bytA g el l) :: c⟩ K) : SymO X n ops (⟨some d, .convert src dst' x, ty, pos, aft, none⟩ :: rest) ⟨s, c⟩ K := by
  intro e a w Q r hq
  unfold wpList
  rw [if_pos (guardA_sound r (o := ⟨some d, .convert src dst' x, ty, pos, aft, none⟩) (b := true) rfl)]
  refine .inl ?_
  have h1 := opd_sound r hx
  simp only [Rep, S] at h1
  obtain ⟨d1, e1, _, e2⟩ := (X.ok _ _ t1).desc
  obtain ⟨d2, e3, _, e4⟩ := (X.ok _ _ t2).desc
  obtain ⟨d3, e5, _, e6⟩ := (X.ok _ _ t3).desc
  simp only [TDOK] at e2 e4 e6
  subst e2 e4 e6
  have hrun := run_bytes_of_string (P := P) w src dst' el ⟨l.toArray⟩ e1 e3 e5
  have hsz : (ByteArray.mk l.toArray).size = l.length := len_S l
  rw [hsz] at hrun
  unfold Oper.wp
  have hrun2 : (execOp a.eval ⟨some d, .convert src dst' x, ty, pos, aft, none⟩).run P w = .ok (.value (HD w.heap.size l.length (grownCap w l.length 0 el)))
      (w.drew.alloc (.cells (bytesRow ⟨l.toArray⟩ (grownCap w l.length 0 el)) el ((bytesRow ⟨l.toArray⟩ (grownCap w l.length 0 el)).size, (bytesRow ⟨l.toArray⟩ (grownCap w l.length 0 el)).size + 1))) := by
    simp only [execOp, h1, Sem.run_bind, hrun, Result.andThen_ok, Sem.run_pure]
  rw [hrun2]
  have hold : ∀ o b, b < w.heap.size → (w.drew.alloc o).heap[b]? = w.heap[b]? := fun o b hb => Go.heap_alloc_old w.drew o hb
  have hlen : l.length ≤ (bytesRow ⟨l.toArray⟩ (grownCap w l.length 0 el)).size := by
    simp [bytesRow]
  have hsz2 : ∀ o, (w.drew.alloc o).heap.size = w.heap.size + 1 := fun o => by
    show (w.heap.push o).size = _
    simp
  have hget : ∀ i (_ : i < l.length), (bytesRow ⟨l.toArray⟩ (grownCap w l.length 0 el))[i]? = some (.int .u8 (l[i].toNat : Int)) := fun i hi => by
    rw [bytesRow, Array.getElem?_append_left (by simpa using hi)]
    simp [hi]
  refine h w.heap.size (grownCap w l.length 0 el) e _ _ Q (Rel.put (st := ⟨s, .abs (bytA w.heap.size el l) :: c⟩) ?_ hd (by simp only [Rep])) hq
  exact
    { defers := r.defers
      size := r.size
      slots := r.slots
      im := fun b o v hv => by
        have h1 := r.im b o v hv
        simp only [World.cell?] at h1 ⊢
        rw [hold _ b (r.glt b o v hv)]
        exact h1
      heap := by
        refine HeapOK.push r.heap (IM.le_refl _) (fun _ _ _ _ => ⟨rfl, rfl⟩) (fun b hb => hold _ b hb) (bs' := [w.heap.size]) ⟨rfl, _, Go.heap_alloc_new w.drew _, hlen, hget⟩ (by simp) (by simp) ?_ (by rw [hsz2]; omega) (fun b _ h => h)
        · intro b hb
          simp only [List.mem_singleton] at hb
          subst hb
          exact ⟨by rw [hsz2]; omega, .inl r.sz, r.free (Nat.le_refl _)⟩
      mz := r.mzKeep (fun b hb _ => hold _ b hb)
      newm := r.newm
      le := r.le
      new := r.new
      os := r.os
      tape := r.tape
      output := r.output
      sz := by have := r.sz; rw [hsz2]; omega
      keep := fun b hb hbs hs => by rw [hold _ b (by have := r.sz; omega)]; exact r.keep b hb hbs hs
      fix := r.fix }

/-- The text of such bytes. -/
theorem O_ofBytes (p : Nat) {src dst' : TypeId} {x : Operand} {d : Nat} {ty : TypeId} {pos : String} {aft : Array Edge} {rest : List Oper} {l : List UInt8} {g cc m : Nat} {s : List (Nat × AV)} {c cr : List Ch} {el : Nat} {s1 s2 s3 s4 s5 s6 : Nat} {g1 g2 g3 : Bool} {z1 z2 z3 : List Value}
    (t1 : T src = some ⟨s1, s2, g1, z1, .slice el⟩) (t2 : T dst' = some ⟨s3, s4, g2, z2, .str⟩) (t3 : T el = some ⟨s5, s6, g3, z3, .int .u8⟩) (hx : opd s x = some (.v (HD g m cc))) (hp : nthA p c = some (bytA g el l, cr)) (hm : m = l.length) (hd : Nat.blt d n = true)
    (h : SymO X n ops rest ⟨(d, .s l) :: s, c⟩ K) : SymO X n ops (⟨some d, .convert src dst' x, ty, pos, aft, none⟩ :: rest) ⟨s, c⟩ K := by
  subst hm
  intro e a w Q r hq
  unfold wpList
  rw [if_pos (guardA_sound r (o := ⟨some d, .convert src dst' x, ty, pos, aft, none⟩) (b := true) rfl)]
  refine .inl ?_
  have h1 := opd_sound r hx
  simp only [Rep] at h1
  obtain ⟨⟨cur, k1, k2, k3⟩, _⟩ := r.heap.nth hp
  obtain ⟨d1, e1, _, e2⟩ := (X.ok _ _ t1).desc
  obtain ⟨d2, e3, _, e4⟩ := (X.ok _ _ t2).desc
  obtain ⟨d3, e5, _, e6⟩ := (X.ok _ _ t3).desc
  simp only [TDOK] at e2 e4 e6
  subst e2 e4 e6
  have hrun := run_convert_bytes_back (P := P) w src dst' el ⟨g, 0, none⟩ cc l e1 e5 e3 (fun j hj => by
    have hadd : (⟨g, 0, none⟩ : Addr).add j = ⟨g, 0 + j, none⟩ := by unfold Addr.add; split <;> simp_all
    rw [hadd, Nat.zero_add]
    simp only [World.cell?, k1]
    exact k3 j hj)
  unfold Oper.wp
  have hrun2 : (execOp a.eval ⟨some d, .convert src dst' x, ty, pos, aft, none⟩).run P w = .ok (.value (S l)) w := by
    simp only [execOp, h1, Sem.run_bind, hrun, Result.andThen_ok, Sem.run_pure, S]
  rw [hrun2]
  exact h e _ w Q (r.put hd Rep_s) hq

end
end Go.Sy

/- The symbolic walk, part 28: several pieces of memory as one; pieces dropped; headers that are grown; nil tests of slices; structs that are the same. -/
set_option linter.unusedSimpArgs false
set_option linter.unusedVariables false
namespace Go.Sy
open Go.RowKit

/-- Several pieces as one. -/
def packA (cs : List Abs) : Abs where
  bs := blocks cs
  ok := fun G w => ∀ A ∈ cs, A.ok G w
  keep := by
    intro G H w w' hG hb h A hA
    exact A.keep hG (fun b hbb => hb b (List.mem_flatMap.2 ⟨A, hA, hbb⟩)) (h A hA)

theorem blocks_pack (cs : List Abs) : blocks [packA cs] = blocks cs := by simp [blocks, packA]
theorem absOK_pack {G : IM} {w : World} {cs : List Abs} : AbsOK G w [packA cs] ↔ AbsOK G w cs := by
  unfold AbsOK
  rw [blocks_pack]
  simp [packA]

theorem FnA.unpackArg {P : Program} {f : FuncId} {args : List AV} {cs : List Abs} {post : AV → List Abs → Prop} (h : FnA P f args [packA cs] post) : FnA P f args cs post := by
  refine ⟨h.1, fun G w c h1 h2 h3 => ?_⟩
  have := h.2 G w c h1 h2 (absOK_pack.2 h3)
  rwa [blocks_pack] at this
theorem FnA.packArg {P : Program} {f : FuncId} {args : List AV} {cs : List Abs} {post : AV → List Abs → Prop} (h : FnA P f args cs post) : FnA P f args [packA cs] post := by
  refine ⟨h.1, fun G w c h1 h2 h3 => ?_⟩
  have := h.2 G w c h1 h2 (absOK_pack.1 h3)
  rwa [← blocks_pack] at this
theorem FnA.packRes {P : Program} {f : FuncId} {args : List AV} {cs : List Abs} {post : AV → List Abs → Prop} (h : FnA P f args cs post) : FnA P f args cs (fun r cs' => ∃ cs'', post r cs'' ∧ cs' = [packA cs'']) := by
  refine ⟨h.1, fun G w c h1 h2 h3 => (h.2 G w c h1 h2 h3).mono ?_⟩
  rintro e w' ⟨r, cr, cs', G', k1, k2, k3, k4, k5, k6, k7, k8, k9⟩
  exact ⟨r, cr, [packA cs'], G', ⟨cs', k1, rfl⟩, k2, k3, k4, k5, k6, absOK_pack.2 k7, by rw [blocks_pack]; exact k8, k9⟩
theorem FnA.unpackRes {P : Program} {f : FuncId} {args : List AV} {cs : List Abs} {post : AV → List Abs → Prop} (h : FnA P f args cs (fun r cs' => ∃ cs'', post r cs'' ∧ cs' = [packA cs''])) : FnA P f args cs post := by
  refine ⟨h.1, fun G w c h1 h2 h3 => (h.2 G w c h1 h2 h3).mono ?_⟩
  rintro e w' ⟨r, cr, cs', G', ⟨cs'', k1, rfl⟩, k2, k3, k4, k5, k6, k7, k8, k9⟩
  exact ⟨r, cr, cs'', G', k1, k2, k3, k4, k5, k6, absOK_pack.1 k7, by rw [blocks_pack] at k8; exact k8, k9⟩

/-- Arguments, told in other words. -/
theorem FnP.argConv {P : Program} {f : FuncId} {args args' : List AV} {post : AV → Prop} (h : FnP P f args post) (hc : ∀ G c, RepIT G args' c → RepIT G args c) : FnP P f args' post :=
  ⟨h.1, fun G w c h1 h2 => h.2 G w c h1 (hc G c h2)⟩
theorem FnA.argConv {P : Program} {f : FuncId} {args args' : List AV} {cs : List Abs} {post : AV → List Abs → Prop} (h : FnA P f args cs post) (hc : ∀ G c, RepIT G args' c → RepIT G args c) : FnA P f args' cs post :=
  ⟨h.1, fun G w c h1 h2 => h.2 G w c h1 (hc G c h2)⟩
theorem repI_nil {G : IM} {esz : Nat} {row : Nat → List AV} {y : Value} (h : RepI G (.v (.slice none 0 0)) y) : RepI G (.sl 0 esz row) y := by
  simp only [RepI] at h ⊢
  exact ⟨none, 0, h, Nat.le_refl _, by simp⟩

section
variable {P : Program} {T : Tab} {X : Ctx P T} {n : Nat} {e : Env} {st : St} {a : Act} {w : World} {ops : Array Oper} {K : St → Prop}

/-- Chunks are given up. -/
theorem Le.perm {s s2 : List (Nat × AV)} {c c2 : List Ch} (cr : List Ch) (hs : subS s2 s) (hc : c.Perm (cr ++ c2)) : Le X n ⟨s, c⟩ ⟨s2, c2⟩ := by
  intro e a w r
  refine ⟨e, r.less (fun i x h => subS_get hs i x h) (fun h => ?_)⟩
  have h2 := h.perm hc
  clear hc
  induction cr with
  | nil => exact h2
  | cons d cr ih => exact ih h2.drop

/-- The header of a slice is grown from here on. -/
theorem Le.ownv {s : List (Nat × AV)} {c cr : List Ch} (i p d : Nat) {h : Value} {t : TypeId} {esz m : Nat} {row : Nat → List AV} (hi : get s i = some (.v h)) (hp : nthA p c = some (vecA h t esz m row, cr)) (hf : freshS d s = true) (hc : freshC d cr = true) :
    Le X n ⟨s, c⟩ ⟨(i, .own d) :: s, .vec d t esz m row :: cr⟩ := by
  intro e a w r
  have hh := r.heap.perm (nthA_perm hp)
  have hnod : ∀ {x : AV}, x.no d = true → ∀ j, x.no j = false → j ≠ d := fun hx j hj he => by subst he; rw [hx] at hj; cases hj
  have hid : ∀ (k : Nat), k ≠ d → upd e.hd d h k = e.hd k := fun k hk => by simp [upd, hk]
  obtain ⟨⟨xs0, g10, g20⟩, _⟩ := r.heap.nth hp
  have hsl : ∃ aa nn cc, h = .slice aa nn cc := by
    rcases g10.2 with ⟨h, _⟩ | ⟨g, cap, cur, h, _⟩
    · exact ⟨_, _, _, h⟩
    · exact ⟨_, _, _, h⟩
  refine ⟨{ e with hd := upd e.hd d h }, { r with slots := ?_, heap := ?_ }⟩
  · intro j x hx
    rw [get_cons] at hx
    by_cases hij : i = j
    · subst hij
      simp only [if_true, Option.some.injEq] at hx
      subst hx
      obtain ⟨v, h1, h2⟩ := r.slots i _ hi
      simp only [Rep] at h2
      subst h2
      exact ⟨_, h1, by simp [Rep, upd]; exact hsl⟩
    · rw [if_neg hij] at hx
      obtain ⟨v, h1, h2⟩ := r.slots j x hx
      exact ⟨v, h1, Rep.mono (e := e) (f := { e with hd := upd e.hd d h }) (IM.le_refl _) x (fun q hq => ⟨rfl, hid q (hnod (freshS_get hf j x hx) q hq)⟩) h2⟩
  · obtain ⟨pl, p1, p2, p3, p4⟩ := hh
    cases pl with
    | nil => simp at p1
    | cons q pl =>
      simp only [List.map_cons, List.cons.injEq] at p1
      have hq := p2 q (List.mem_cons_self ..)
      rw [p1.1] at hq
      refine ⟨(.vec d t esz m row, q.2) :: pl, by simp [p1.2], ?_, by simpa using p3, by simpa using p4⟩
      intro q' hq'
      rcases List.mem_cons.1 hq' with rfl | hqm
      · obtain ⟨hb, xs, g1, g2⟩ := hq
        refine ⟨by rw [hb]; simp [upd, vecA], xs, ?_, g2⟩
        simp only [upd, if_true]
        exact g1
      · refine ChOK.keep (e := e) (f := { e with hd := upd e.hd d h }) (IM.le_refl _) q'.1 (fun j hj => ⟨rfl, hid j ?_⟩) (fun _ _ => rfl) (p2 q' (List.mem_cons_of_mem _ hqm))
        intro he; subst he
        rw [freshC_mem hc q'.1 (by rw [← p1.2]; exact List.mem_map.2 ⟨q', hqm, rfl⟩)] at hj; cases hj

/-- Nothing is owned of a nil slice. -/
theorem Le.addnil {s : List (Nat × AV)} {c : List Ch} (t : TypeId) (esz : Nat) (row : Nat → List AV) : Le X n ⟨s, c⟩ ⟨s, .abs (vecA (.slice none 0 0) t esz 0 row) :: c⟩ := by
  intro e a w r
  refine ⟨e, { r with heap := ?_ }⟩
  exact HeapOK.push r.heap (IM.le_refl _) (fun _ _ _ _ => ⟨rfl, rfl⟩) (fun b hb => rfl) (bs' := []) ⟨by simp [vecA, Value.ownBlock], [], World.ownsRow_nil _ _ _ _, fun i hi => by omega⟩ (by simp) (by simp) (by simp) (Nat.le_refl _) (fun b _ h => h)

/-- .. of whatever header. -/
theorem Le.freezeh {s : List (Nat × AV)} {c cr : List Ch} (i p : Nat) {h : Value} {m : Nat} {t : TypeId} {esz : Nat} {row : Nat → List AV} (hi : get s i = some (.v h)) (hp : nthA p c = some (vecA h t esz m row, cr)) :
    Le X n ⟨s, c⟩ ⟨(i, .sl m esz row) :: s, cr⟩ := by
  intro e a w r
  obtain ⟨⟨xs, g1, g2⟩, _⟩ := r.heap.nth hp
  rcases g1.2 with ⟨rfl, hm⟩ | ⟨g, cap, cur, rfl, _⟩
  · refine ⟨e, { r with slots := ?_, heap := (r.heap.perm (nthA_perm hp)).drop }⟩
    intro j x hx
    rw [get_cons] at hx
    by_cases hij : i = j
    · subst hij
      simp only [if_true, Option.some.injEq] at hx
      subst hx
      obtain ⟨v, h1, h2⟩ := r.slots i _ hi
      simp only [Rep] at h2
      subst h2
      exact ⟨_, h1, by simp only [Rep, RepI]; exact ⟨none, 0, by rw [hm], by omega, .inl hm⟩⟩
    · rw [if_neg hij] at hx
      exact r.slots j x hx
  · exact Le.freezev i p hi hp e a w r

/-- The header of such memory: nil, or a row's. -/
theorem C_header {Q : Exit → St → Prop} {cd : Code} {s : List (Nat × AV)} {c cr : List Ch} (p : Nat) {aa : Option Addr} {m m2 cc : Nat} {t : TypeId} {esz : Nat} {row : Nat → List AV} (hp : nthA p c = some (vecA (.slice aa m2 cc) t esz m row, cr))
    (h0 : aa = none → m = 0 → m2 = 0 → cc = 0 → SymC X n cd ⟨s, c⟩ Q) (h : ∀ g, aa = some ⟨g, 0, none⟩ → m2 = m → SymC X n cd ⟨s, c⟩ Q) : SymC X n cd ⟨s, c⟩ Q := by
  intro e a w r
  obtain ⟨⟨xs, g1, g2⟩, _⟩ := r.heap.nth hp
  rcases g1.2 with ⟨hn, hm⟩ | ⟨g, cap, cur, hs, _⟩
  · simp only [Value.slice.injEq] at hn
    exact h0 hn.1 hm hn.2.1 hn.2.2 e a w r
  · simp only [Value.slice.injEq] at hs
    exact h g hs.1 hs.2.1 e a w r

theorem run_equalIn_slicenil {t el : TypeId} (h : P.underlying t = some (.slice el)) (aa : Option Addr) (k cc : Nat) (w : World) (d : Nat) :
    ∃ b, (Op.equalIn (d + 1) t (.slice aa k cc) (.slice none 0 0)).run P w = .ok b w ∧ (b = true → aa = none) := by
  cases aa with
  | none => exact ⟨_, by simp [Op.equalIn, run_underlying h]; rfl, fun _ => rfl⟩
  | some x => exact ⟨false, by simp [Op.equalIn, run_underlying h], fun hb => by cases hb⟩
theorem run_equal_slicenil {t el : TypeId} (h : P.underlying t = some (.slice el)) (aa : Option Addr) (k cc : Nat) (w : World) :
    ∃ b, (Op.equal t (.slice aa k cc) (.slice none 0 0)).run P w = .ok b w ∧ (b = true → aa = none) :=
  run_equalIn_slicenil h aa k cc w 9999

/-- Is a slice nil? -/
theorem O_nilsl {t el : TypeId} {y : Operand} {d u m esz : Nat} {row : Nat → List AV} {ty : TypeId} {pos : String} {aft : Array Edge} {gd : Option (Nat × Bool)} {rest : List Oper} {s : List (Nat × AV)} {c : List Ch} (hP : P.underlying t = some (.slice el))
    (hg : guardA ops ⟨s, c⟩ ⟨some d, .binOp .eql t y (.const (.slice none 0 0)) u, ty, pos, aft, gd⟩ = some true) (hy : opd s y = some (.sl m esz row)) (hd : Nat.blt d n = true)
    (kk : ∀ b, (b = true → m = 0) → SymO X n ops rest ⟨(d, B b) :: s, c⟩ K) : SymO X n ops (⟨some d, .binOp .eql t y (.const (.slice none 0 0)) u, ty, pos, aft, gd⟩ :: rest) ⟨s, c⟩ K := by
  intro e a w Q r hq
  unfold wpList
  rw [if_pos (guardA_sound r hg)]
  refine .inl ?_
  have h1 := opd_sound r hy
  simp only [Rep, RepI] at h1
  obtain ⟨aa, cc, h1, h3, h4⟩ := h1
  obtain ⟨b, hb, hbn⟩ := run_equal_slicenil hP aa m cc w
  have hrun : (execOp a.eval ⟨some d, .binOp .eql t y (.const (.slice none 0 0)) u, ty, pos, aft, gd⟩).run P w = .ok (.value (.bool b)) w := by
    have h2 : a.eval (.const (.slice none 0 0)) = .slice none 0 0 := rfl
    simp only [execOp, h1, h2]
    simp [eqGuard, binOp, hb]
  unfold Oper.wp
  rw [hrun]
  refine kk b (fun hbt => ?_) _ _ _ Q (r.put hd (by simp [Rep])) hq
  rcases h4 with h4 | ⟨b', o, h4, _⟩
  · exact h4
  · rw [hbn hbt] at h4; cases h4

end
end Go.Sy

/- The symbolic walk, part 29: an empty slice literal. -/
set_option linter.unusedSimpArgs false
set_option linter.unusedVariables false
namespace Go.Sy
open Go.RowKit

section
variable {P : Program} {T : Tab} {X : Ctx P T} {n : Nat} {e : Env} {st : St} {a : Act} {w : World} {ops : Array Oper} {K : St → Prop}

/-- An empty slice literal. -/
theorem O_empty {t el esz by_ sz0 b0 : Nat} {ag0 ag1 : Bool} {z0 z1 : List Value} {d1 : TD} (row : Nat → List AV) {d : Nat} {ty : TypeId} {pos : String} {aft : Array Edge} {rest : List Oper} {s : List (Nat × AV)} {c : List Ch}
    (hTs : T t = some ⟨sz0, b0, ag0, z0, .slice el⟩) (hTe : T el = some ⟨esz, by_, ag1, z1, d1⟩) (hd : Nat.blt d n = true) (hf : freshS d s = true) (hc : freshC d c = true)
    (k : SymO X n ops rest ⟨(d, .own d) :: s, .vec d el esz 0 row :: c⟩ K) : SymO X n ops (⟨some d, .buildSlice t 0 #[], ty, pos, aft, none⟩ :: rest) ⟨s, c⟩ K := by
  intro e a w Q r hq
  unfold wpList
  rw [if_pos (guardA_sound r (o := ⟨some d, .buildSlice t 0 #[], ty, pos, aft, none⟩) (b := true) rfl)]
  refine .inl ?_
  obtain ⟨dd, e1, _, e3⟩ := (X.ok _ _ hTs).desc
  simp only [TDOK] at e3
  subst e3
  have hrun : (execOp a.eval ⟨some d, .buildSlice t 0 #[], ty, pos, aft, none⟩).run P w = .ok (.value (.slice (some ⟨w.heap.size, 0, none⟩) 0 0)) (w.alloc (.cells #[] el)) := by
    simp [execOp, Instr.buildSlice, run_underlying e1, X.ok.size hTe, Instr.fill, newRow]
    congr 2
    apply Array.ext'
    simp
  unfold Oper.wp
  rw [hrun]
  exact k _ _ _ Q (r.newvec (st := ⟨s, c⟩) (m := 0) (esz := esz) (row := row) (arr := #[]) hd hf hc (by simp) (Nat.zero_le _) (fun i hi => by omega)) hq

end
end Go.Sy

/- The symbolic walk, part 30: regions whose order is drawn and that append once. -/
set_option linter.unusedSimpArgs false
set_option linter.unusedVariables false
namespace Go.Sy
open Go.RowKit

section
variable {P : Program} {T : Tab} {X : Ctx P T} {n : Nat} {e : Env} {st : St} {a : Act} {w : World} {ops : Array Oper} {K : St → Prop}

/-- append(s, x...): s owned (or made so), x owned too, or read-only. The rows of the outcome may be said in other words. -/
theorem O_append2 {dst : Nat} {so_ xo : Operand} {t ty : TypeId} {pos : String} {aft : Array Edge} {rest : List Oper} {s s2 : List (Nat × AV)} {c r1 : List Ch} {k : Nat} {el esz m m2 m3 : Nat} {row row2 row3 : Nat → List AV} {by_ : Nat} {sz0 b0 : Nat} {ag0 ag1 : Bool} {z0 z1 : List Value} {d1 : TD}
    (hTs : T t = some ⟨sz0, b0, ag0, z0, .slice el⟩) (hTe : T el = some ⟨esz, by_, ag1, z1, d1⟩) (hpos : Nat.blt 0 esz = true)
    (hso : opd s so_ = some (.own k)) (hk : takeCh k c = some (.vec k el esz m row, r1))
    (hsrc : ∀ e a w, Rel X n e ⟨s, c⟩ a w → (∃ ad cc news, a.eval xo = .slice (some ad) m2 cc ∧ news.length = m2 * esz ∧ (∀ (j : Nat) (u : Value), news[j]? = some u → w.cell? (ad.add j) = some u) ∧ (∀ u ∈ news, u.oneCell' = true) ∧ RowsL e.G esz m2 row2 news) ∨
      (m2 = 0 ∧ ∃ cc, a.eval xo = .slice none 0 cc))
    (hd : Nat.blt dst n = true) (hs2 : ∀ i x, get s2 i = some x → get s i = some x) (hf : freshS dst s2 = true) (hfc : freshC dst r1 = true)
    (hlen : (m + m2) * by_ ≤ 140737488355328) (hlen2 : m + m2 ≤ maxLen)
    (hm3 : m3 = m + m2) (hrow3 : ∀ i, i < m3 → appRow m row row2 i = row3 i)
    (h : SymO X n ops rest ⟨(dst, .own dst) :: s2, .vec dst el esz m3 row3 :: r1⟩ K) :
    SymO X n ops (⟨some dst, .call ⟨.builtin .append, #[so_, xo], #[t, t]⟩, ty, pos, aft, none⟩ :: rest) ⟨s, c⟩ K := by
  subst hm3
  intro e a w Q r hq
  obtain ⟨pi, z, i1, i2, i3, i4, i5, i6, i7⟩ := (X.ok _ _ hTe).info
  obtain ⟨dd, e1, _, e3⟩ := (X.ok _ _ hTs).desc
  simp only [TDOK] at e3
  subst e3
  have hso' := opd_sound r hso
  simp only [Rep] at hso'
  obtain ⟨hso', _⟩ := hso'
  have hh := r.heap.perm (takeCh_perm hk)
  obtain ⟨bs, ⟨hbs, xs, g1, g2⟩, _, hgood⟩ := hh.head
  have hzs : z.cells.size = esz := by
    have : z.cells.toList.length = esz := by rw [i5]; exact i7
    simpa using this
  have hpos' : 0 < esz := by have := hpos; simp [Nat.blt] at this; omega
  have hold : ∀ b, (e.hd k).ownBlock = some b → b < w.heap.size ∧ (X.w0.heap.size ≤ b ∨ b ∈ X.bs) ∧ e.G.free b := fun b hb => hgood b (by rw [hbs, hb]; simp)
  have hdis : ∀ b, (e.hd k).ownBlock = some b → ∀ pl : List (Ch × List Nat), pl.map (·.1) = r1 → (∀ p ∈ pl, ChOK e w p.1 p.2) → b ∉ pl.flatMap (·.2) := by
    intro b hb pl hpl hok hin
    obtain ⟨pl', p1, p2, p3, p4⟩ := hh
    cases pl' with
    | nil => simp at p1
    | cons p pl' =>
      simp only [List.map_cons, List.cons.injEq] at p1
      simp only [List.flatMap_cons] at p3
      have hp := p2 p (List.mem_cons_self ..)
      rw [p1.1] at hp
      have heq : pl' = pl := by
        have key : ∀ (l1 l2 : List (Ch × List Nat)), l1.map (·.1) = l2.map (·.1) → (∀ p ∈ l1, ChOK e w p.1 p.2) → (∀ p ∈ l2, ChOK e w p.1 p.2) → l1 = l2 := by
          intro l1
          induction l1 with
          | nil => intro l2 h _ _; cases l2 with
            | nil => rfl
            | cons _ _ => simp at h
          | cons q l1 ih =>
            intro l2 h h1 h2
            cases l2 with
            | nil => simp at h
            | cons q2 l2 =>
              simp only [List.map_cons, List.cons.injEq] at h
              have e1 := h1 q (List.mem_cons_self ..)
              have e2 := h2 q2 (List.mem_cons_self ..)
              rw [← h.1] at e2
              have : q.2 = q2.2 := by
                cases hc : q.1 with
                | box k T cells => rw [hc] at e1 e2; rw [e1.1, e2.1]
                | vec k T esz n row => rw [hc] at e1 e2; rw [e1.1, e2.1]
                | obj k o => rw [hc] at e1 e2; rw [e1.1, e2.1]
                | mapc k ks xs => rw [hc] at e1 e2; rw [e1.1, e2.1]
                | abs A => rw [hc] at e1 e2; rw [e1.1, e2.1]
              rw [ih l2 h.2 (fun p hp => h1 p (List.mem_cons_of_mem _ hp)) (fun p hp => h2 p (List.mem_cons_of_mem _ hp))]
              congr 1
              exact Prod.ext h.1 this
        exact key pl' pl (by rw [p1.2, hpl]) (fun p hp => p2 p (List.mem_cons_of_mem _ hp)) hok
      subst heq
      have := (List.nodup_append.1 p3).2.2 b (by rw [hp.1, hb]; simp) b hin
      exact this rfl
  have hrowsOut : ∀ {news : List Value}, RowsL e.G esz m2 row2 news → RowsL e.G esz (m + m2) row3 (xs ++ news) := fun hn i hi => by
    rw [← hrow3 i hi]; exact rows_app g1.1 g2 hn i hi
  rcases hsrc e a w r with ⟨ad, cc, news, hx, hl, hnews, h1, hrn⟩ | ⟨hm2, cc, hx⟩
  · obtain ⟨v', w', hr, q2, q3, q4⟩ := run_append_own (P := P) w 0 t ty el pi z esz by_ e1 i1 i4 i2 i3 hzs hpos' (e.hd k) m xs g1 ad m2 cc news hl hnews h1 hlen2 hlen (Nat.zero_le _)
    unfold wpList
    rw [if_pos (by simp [Region.wanted])]
    refine .inl ?_
    unfold Oper.wp
    have hrun : (execOp a.eval ⟨some dst, .call ⟨.builtin .append, #[so_, xo], #[t, t]⟩, ty, pos, aft, none⟩).run P w = .ok (.value v') w' := by
      simp only [execOp, resolve, invoke, builtin, Sem.run_bind, Sem.run_pure, Result.andThen_ok, List.map_toArray, List.map_cons, List.map_nil, hso', hx, hr]
    rw [hrun]
    have hblk : ∀ b, v'.ownBlock = some b → b < w'.heap.size ∧ (some b = (e.hd k).ownBlock ∨ w.heap.size ≤ b) := by
      intro b hb
      refine ⟨(q2.lt b hb).2, ?_⟩
      simp only at i2 i3
      subst i2 i3
      exact append_block t ty el pi z e1 i1 i4 (e.hd k) m xs g1 ad m2 cc news hl hnews h1 hlen2 hlen hr b hb
    have r2 := r.vec (d := dst) (w' := w') (v' := v') (t := el) (esz := esz) (m := m + m2) (row := row3) (xs := xs ++ news) (s := s2) (c := r1) (c' := r1) (e.hd k).ownBlock hd
      (fun i x hi => hs2 i x hi) hf hfc hh.drop hold hdis q2 (hrowsOut hrn) q3 hblk
    exact h _ _ w' Q r2 hq
  · subst hm2
    have hrun0 := append_none t ty el pi e1 i1 (e.hd k) m xs g1 cc
    unfold wpList
    rw [if_pos (by simp [Region.wanted])]
    refine .inl ?_
    unfold Oper.wp
    have hrun : (execOp a.eval ⟨some dst, .call ⟨.builtin .append, #[so_, xo], #[t, t]⟩, ty, pos, aft, none⟩).run P w = .ok (.value (e.hd k)) w := by
      simp only [execOp, resolve, invoke, builtin, Sem.run_bind, Sem.run_pure, Result.andThen_ok, List.map_toArray, List.map_cons, List.map_nil, hso', hx, hrun0]
    rw [hrun]
    have hrn : RowsL e.G esz 0 row2 ([] : List Value) := fun i hi => by omega
    have r2 := r.vec (d := dst) (w' := w) (v' := e.hd k) (t := el) (esz := esz) (m := m + 0) (row := row3) (xs := xs ++ []) (s := s2) (c := r1) (c' := r1) (e.hd k).ownBlock hd
      (fun i x hi => hs2 i x hi) hf hfc hh.drop hold hdis (by simpa using g1) (hrowsOut hrn) ⟨rfl, rfl, rfl, Nat.le_refl _, fun _ _ _ => rfl⟩ (fun b hb => ⟨(hold b hb).1, .inl hb.symm⟩)
    exact h _ _ w Q r2 hq
/-- A slice literal in a region whose order is drawn: the step. -/
theorem stepD_bsl {c : List Ch} {o : Oper} {Si : List (Nat × AV)} {el esz len : Nat} {cs : List AV} (hg : guardA ops ⟨Si, c⟩ o = some true) (hd : dstOK n o.dst = true) (hb : bslA T ⟨Si, c⟩ o.op = some (el, esz, len, cs)) : StepD X n ops Si c o (.sl len esz (chunkRow esz cs)) := by
  intro e a w S K' Q r hS hk
  have r' : Rel X n e ⟨Si, c⟩ a w := r.less hS (fun h => h)
  rw [if_pos (guardA_sound r' hg)]
  obtain ⟨arr, b1, b2, b3, b4⟩ := bslA_sound r' hb
  refine .inl ?_
  unfold Oper.wp
  rw [b4 w]
  let G' : IM := ⟨fun b oo => if b = w.heap.size then arr.toList[oo]? else e.G b oo, e.G.m⟩
  have hlt : ∀ b o v, e.G b o = some v → b < w.heap.size := fun b o v h => Go.block_lt_of_cell (r.im b o v h)
  have hle : IM.le e.G G' := by
    refine ⟨?_, fun _ _ h => h⟩
    intro b o v hv
    show (if b = w.heap.size then arr.toList[o]? else e.G b o) = some v
    rw [if_neg (by have := hlt b o v hv; omega)]
    exact hv
  have hnew : (w.alloc (.cells arr el)).heap[w.heap.size]? = some (.cells arr el (0, 0)) := Go.heap_alloc_new w _
  have him : ImOK G' (w.alloc (.cells arr el)) := by
    refine ⟨?_, fun b x hx => (r.mz b x hx).keep (H := G') hle (Go.heap_alloc_old w _ (r.mz b x hx).lt) (fun o v hv => ⟨v, by
      have hv' : (if b = w.heap.size then arr.toList[o]? else e.G b o) = some v := hv
      rw [if_neg (by have := (r.mz b x hx).lt; omega)] at hv'
      exact hv'⟩)⟩
    intro b o v hv
    have hv' : (if b = w.heap.size then arr.toList[o]? else e.G b o) = some v := hv
    split at hv'
    · rename_i hb; subst hb
      rw [cell_of_row _ _ o arr el (0, 0) hnew]
      simpa using hv'
    · have h1 := r.im b o v hv'
      simp only [World.cell?] at h1 ⊢
      rw [Go.heap_alloc_old w _ (hlt b o v hv')]
      exact h1
  have r2 := r.after hle ⟨fun b o v hv => by
    have hv' : (if b = w.heap.size then arr.toList[o]? else e.G b o) = some v := hv
    split at hv'
    · rename_i hb; exact .inr (by omega)
    · exact .inl hv', fun _ _ h => .inl h⟩ him ⟨rfl, rfl, rfl, by simp, fun b hb _ => Go.heap_alloc_old w _ hb⟩
  refine hk _ _ _ (putOK r2 hd ?_)
  simp only [Rep, RepI]
  refine ⟨_, len, rfl, Nat.le_refl _, .inr ⟨w.heap.size, 0, rfl, fun q hq => CellsAt.mk (fun j x hx => ?_)⟩⟩
  obtain ⟨z, z1, z2, z3⟩ := (b3 q hq).get j x hx
  have hj : j < esz := by
    rcases Nat.lt_or_ge j esz with h | h
    · exact h
    · rw [List.getElem?_eq_none (by simp; omega)] at z1; cases z1
  refine ⟨z, ?_, RepI.mono hle x z2, z3⟩
  show (if w.heap.size = w.heap.size then arr.toList[0 + q * esz + j]? else _) = some z
  rw [if_pos rfl, Nat.zero_add]
  rw [List.getElem?_take, if_pos hj, List.getElem?_drop] at z1
  exact z1

def StepE {P : Program} {T : Tab} (X : Ctx P T) (n : Nat) (ops : Array Oper) (d0 : Nat) (Si : List (Nat × AV)) (C : Bool → List Ch) (store : Bool) (o : Oper) (x : AV) : Prop :=
  match store with
  | false => ∀ fl, StepD X n ops Si (C fl) o x
  | true => ∀ e a w S (K : Act → World → Prop) (Q : Exit → Act → World → Prop), Rel X n e ⟨S, C false⟩ a w → (∀ k y, get Si k = some y → get S k = some y) → freshS d0 S = true →
      (∀ e' a' w', Rel X n e' ⟨putS o.dst x S, C true⟩ a' w' → K a' w') →
      if Region.wanted o (yielded ops a.tmps) then o.wp P a w K Q ∨ (o.asks P a w ∧ LetsOut Q) else K (a.put o.dst undef) w

/-- What is known ahead of an operation: one slot may be read ahead of the operation that puts another value there. -/
def bas2 (base : List (Nat × AV)) (i1 d1 : Nat) (x1 : AV) (i : Nat) : List (Nat × AV) :=
  match Nat.beq i i1 with
  | true => (d1, x1) :: base
  | false => base

theorem any_of_E {base : List (Nat × AV)} {C : Bool → List Ch} {j0 d0 i1 j1 d1 : Nat} {x1 : AV} {D : Done} {Q : Exit → Act → World → Prop} (hj : j0 < ops.size) (hD : D.length = ops.size)
    (hstep : ∀ i o, ops[i]? = some o → ∃ x, D[i]? = some (o.dst, x) ∧ StepE X n ops d0 (availL (D.take i) o.after.toList (bas2 base i1 d1 x1 i)) C (i == j0) o x)
    (hearly : ∃ o, ops[j1]? = some o ∧ o.dst = some d1 ∧ ∃ e ∈ o.after, Region.binds .any e = true ∧ e.on = i1)
    (hedge : ∀ i o, ops[i]? = some o → ∀ e ∈ o.after, Region.binds .any e = true → e.on < i)
    (hdist : ∀ (i j : Nat) o o' d, ops[i]? = some o → ops[j]? = some o' → o.dst = some d → o'.dst = some d → i = j)
    (hbase : ∀ (i : Nat) o d, ops[i]? = some o → o.dst = some d → get base d = none)
    (hfr : ∀ (i : Nat) o d x, ops[i]? = some o → D[i]? = some (d, x) → i ≠ j0 → x.no d0 = true ∨ ∃ e ∈ o.after, Region.binds .any e = true ∧ e.on = j0)
    (hfin : ∀ e a w, Rel X n e ⟨finS base D, C true⟩ a w → Q .normal a w) :
    ∀ (fuel : Nat) (listed : Array Bool) (a : Act) (w : World) (e : Env) (S : List (Nat × AV)), listed.size = ops.size → listed.toList.count false = fuel → Rel X n e ⟨S, C (listed.getD j0 false)⟩ a w →
      (∀ k y, get base k = some y → get S k = some y) → (∀ (i : Nat) d x, listed.getD i false = true → D[i]? = some (some d, x) → get S d = some x) → (listed.getD j0 false = false → freshS d0 S = true) →
      ((listed.getD j1 false = false → get S d1 = some x1) ∧ (listed.getD j1 false = true → listed.getD i1 false = true)) →
      wpAny P .any ops Q fuel listed a w := by
  have progress : ∀ (listed : Array Bool), listed.size = ops.size → Region.ready .any ops listed = [] → ∀ i, i < ops.size → listed.getD i false = true := by
    intro listed hsz hr i
    induction i using Nat.strongRecOn with
    | ind i ih =>
      intro hi
      cases hl : listed.getD i true with
      | true =>
        have : i < listed.size := by omega
        simp [this] at hl ⊢
        exact hl
      | false =>
        exfalso
        have hmem : i ∈ Region.ready .any ops listed := by
          rw [mem_ready]
          refine ⟨hl, ops[i], by simp [hi], fun e he hb => ih e.on (hedge i ops[i] (by simp [hi]) e he hb) ?_⟩
          have := hedge i ops[i] (by simp [hi]) e he hb
          omega
        rw [hr] at hmem
        cases hmem
  have final : ∀ (listed : Array Bool) a w e S, listed.size = ops.size → Region.ready .any ops listed = [] → Rel X n e ⟨S, C (listed.getD j0 false)⟩ a w →
      (∀ k y, get base k = some y → get S k = some y) → (∀ (i : Nat) d x, listed.getD i false = true → D[i]? = some (some d, x) → get S d = some x) → Q .normal a w := by
    intro listed a w e S hsz hr r hb hs
    rw [progress listed hsz hr j0 hj] at r
    refine hfin e a w (r.less (fun k y hk => ?_) id)
    rcases finS_get hk with ⟨i, hi⟩ | h
    · have hlt : i < D.length := by
        rcases Nat.lt_or_ge i D.length with h | h
        · exact h
        · rw [List.getElem?_eq_none h] at hi; cases hi
      exact hs i k y (progress listed hsz hr i (by omega)) hi
    · exact hb k y h
  intro fuel
  induction fuel with
  | zero =>
    intro listed a w e S hsz hc r hb hs hfS hear
    have hall : ∀ i, i < listed.size → listed.getD i true = true := by
      intro i hi
      cases hl : listed.getD i true with
      | true => rfl
      | false =>
        exfalso
        have : false ∈ listed.toList := by
          simp [hi] at hl
          exact List.mem_iff_getElem.2 ⟨i, by simpa using hi, by simpa using hl⟩
        have := List.count_pos_iff.2 this
        omega
    have hr : Region.ready .any ops listed = [] := by
      cases hrr : Region.ready .any ops listed with
      | nil => rfl
      | cons j js =>
        exfalso
        have hm : j ∈ Region.ready .any ops listed := by rw [hrr]; simp
        rw [mem_ready] at hm
        obtain ⟨h0, o, ho, _⟩ := hm
        have hlt : j < ops.size := (Array.getElem?_eq_some_iff.1 ho).1
        rw [hall j (by omega)] at h0
        cases h0
    exact ⟨hr, final listed a w e S hsz hr r hb hs⟩
  | succ fuel ih =>
    intro listed a w e S hsz hc r hb hs hfS hear
    refine ⟨fun hr => final listed a w e S hsz hr r hb hs, fun i hi => ?_⟩
    rw [mem_ready] at hi
    obtain ⟨h0, o, ho, hpre⟩ := hi
    have hlt : i < ops.size := (Array.getElem?_eq_some_iff.1 ho).1
    have hlf : listed.toList[i]? = some false := by
      have : i < listed.size := by omega
      simp [this] at h0 ⊢
      exact h0
    obtain ⟨x, hx, hst⟩ := hstep i o ho
    unfold wpOp
    simp only [ho]
    have hil : listed.getD i false = false := by
      have : i < listed.size := by omega
      simp [this] at h0 ⊢
      exact h0
    have hav : ∀ k y, get (availL (D.take i) o.after.toList (bas2 base i1 d1 x1 i)) k = some y → get S k = some y := by
      intro k y hk
      rcases availL_get hk with ⟨ed, h1, h2, h3⟩ | h
      · have h4 : D[ed.on]? = some (some k, y) := by
          rw [List.getElem?_take] at h3
          split at h3
          · exact h3
          · cases h3
        exact hs ed.on k y (hpre ed (by simpa using h1) h2) h4
      · unfold bas2 at h
        split at h
        · rename_i hi1
          have hi1 := Nat.eq_of_beq_eq_true hi1
          rw [get_cons] at h
          by_cases hk1 : d1 = k
          · rw [if_pos hk1] at h
            simp only [Option.some.injEq] at h
            subst h hk1
            refine hear.1 ?_
            cases hj1 : listed.getD j1 false with
            | false => rfl
            | true =>
              have := hear.2 hj1
              rw [← hi1, hil] at this; cases this
          · rw [if_neg hk1] at h
            exact hb k y h
        · exact hb k y h
    have hgo : (∀ e' a' w', Rel X n e' ⟨putS o.dst x S, C ((listed.setIfInBounds i true).getD j0 false)⟩ a' w' → wpAny P .any ops Q fuel (listed.setIfInBounds i true) a' w') →
        (if Region.wanted o (yielded ops a.tmps) then o.wp P a w (wpAny P .any ops Q fuel (listed.setIfInBounds i true)) Q ∨ (o.asks P a w ∧ LetsOut Q) else wpAny P .any ops Q fuel (listed.setIfInBounds i true) (a.put o.dst undef) w) := by
      intro hk
      cases hij : (i == j0) with
      | false =>
        rw [hij] at hst
        have hne : i ≠ j0 := by simpa using hij
        refine hst (listed.getD j0 false) e a w S _ Q r hav (fun e' a' w' r' => hk e' a' w' ?_)
        rw [getD_set_ne false hne]
        exact r'
      | true =>
        rw [hij] at hst
        have he : i = j0 := by simpa using hij
        have hf : listed.getD j0 false = false := by
          rw [← he]
          have : i < listed.size := by omega
          simp [this] at h0 ⊢
          exact h0
        rw [hf] at r
        refine hst e a w S _ Q r hav (hfS hf) (fun e' a' w' r' => hk e' a' w' ?_)
        have ht : (listed.setIfInBounds i true).getD j0 false = true := by
          rw [← he]
          have : i < listed.size := by omega
          simp [this]
        rw [ht]
        exact r'
    refine hgo (fun e' a' w' r' => ?_)
    · refine ih (listed.setIfInBounds i true) a' w' e' _ (by simpa using hsz) ?_ r' (fun k y hk => ?_) (fun j d y hj hy => ?_) (fun hl => ?_) ⟨fun hl => ?_, fun hl => ?_⟩
      · rw [Array.toList_setIfInBounds]
        have hlt' : i < listed.toList.length := by simpa using (by omega : i < listed.size)
        have hg : listed.toList[i] = false := by
          have := List.getElem?_eq_getElem hlt'
          rw [hlf] at this
          simpa using this.symm
        rw [List.count_set hlt', hg, hc]
        simp
      · cases hd : o.dst with
        | none => exact hb k y hk
        | some d =>
          simp only [putS]
          rw [get_cons]
          by_cases h : d = k
          · subst h
            rw [hbase i o d ho hd] at hk
            cases hk
          · rw [if_neg h]; exact hb k y hk
      · by_cases hji : j = i
        · subst hji
          rw [hx] at hy
          simp only [Option.some.injEq, Prod.mk.injEq] at hy
          rw [hy.1, hy.2]
          simp only [putS]
          rw [get_cons, if_pos rfl]
        · rw [getD_set_ne false (Ne.symm hji)] at hj
          have hold := hs j d y hj hy
          cases hd : o.dst with
          | none => exact hold
          | some d' =>
            simp only [putS]
            rw [get_cons]
            by_cases h : d' = d
            · exfalso
              subst h
              have hjl : j < ops.size := by
                rw [← hD]
                rcases Nat.lt_or_ge j D.length with h | h
                · exact h
                · rw [List.getElem?_eq_none h] at hy; cases hy
              obtain ⟨x', hx', _⟩ := hstep j ops[j] (by simp [hjl])
              rw [hx'] at hy
              simp only [Option.some.injEq, Prod.mk.injEq] at hy
              exact hji (hdist j i ops[j] o d' (by simp [hjl]) ho hy.1 hd)
            · rw [if_neg h]; exact hold
      · by_cases hij : i = j0
        · exfalso
          subst hij
          have : i < listed.size := by omega
          simp [this] at hl
        · rw [getD_set_ne false hij] at hl
          have h1 := hfS hl
          have h2 : x.no d0 = true := by
            rcases hfr i o o.dst x ho hx hij with h | ⟨ed, q1, q2, q3⟩
            · exact h
            · have := hpre ed q1 q2
              rw [q3, hl] at this; cases this
          cases hd : o.dst with
          | none => exact h1
          | some d =>
            simp only [putS, freshS, h1, h2, Bool.and_self]
      · obtain ⟨oj, hoj, hdj, _⟩ := hearly
        by_cases hij : i = j1
        · exfalso
          subst hij
          have : i < listed.size := by omega
          simp [this] at hl
        · rw [getD_set_ne false hij] at hl
          have h1 := hear.1 hl
          cases hd : o.dst with
          | none => exact h1
          | some d =>
            simp only [putS]
            rw [get_cons, if_neg (fun he => hij (hdist i j1 o oj d1 ho hoj (by rw [hd, he]) hdj))]
            exact h1
      · obtain ⟨oj, hoj, hdj, ed, hed1, hed2, hed3⟩ := hearly
        by_cases hij : i = j1
        · subst hij
          rw [ho] at hoj
          simp only [Option.some.injEq] at hoj
          subst hoj
          have h1 := hpre ed hed1 hed2
          rw [hed3] at h1
          by_cases hi1 : i = i1
          · subst hi1
            rw [hil] at h1; cases h1
          · rw [getD_set_ne false hi1]; exact h1
        · rw [getD_set_ne false hij] at hl
          have h1 := hear.2 hl
          by_cases hi1 : i = i1
          · subst hi1
            rw [hil] at h1; cases h1
          · rw [getD_set_ne false hi1]; exact h1


/-- The ways through the list: the j0-th operation is the store. -/
def chkE (d0 j0 : Nat) : Nat → List Oper → Done → Bool
  | _, _, [] => true
  | _, [], _ :: _ => false
  | i, o :: ops, (_, x) :: r => (Nat.beq i j0 || x.no d0 || o.after.toList.any (fun e => Region.binds .any e && Nat.beq e.on j0)) && chkE d0 j0 (i + 1) ops r
theorem chkE_get {d0 j0 : Nat} : ∀ {i : Nat} {l : List Oper} {D : Done}, chkE d0 j0 i l D = true → ∀ (k : Nat) o d x, l[k]? = some o → D[k]? = some (d, x) → i + k ≠ j0 → x.no d0 = true ∨ ∃ e ∈ o.after, Region.binds .any e = true ∧ e.on = j0
  | i, _, [], _, k, o, d, x, _, h, _ => by simp at h
  | i, [], _ :: _, _, k, o, d, x, h, _, _ => by simp at h
  | i, o' :: l, (d', x') :: r, hc, k, o, d, x, ho, h, hne => by
    simp only [chkE, Bool.and_eq_true, Bool.or_eq_true] at hc
    cases k with
    | zero =>
      simp only [List.getElem?_cons_zero, Option.some.injEq, Prod.mk.injEq] at h ho
      obtain ⟨_, rfl⟩ := h
      subst ho
      rcases hc.1 with (h1 | h1) | h1
      · exact absurd (Nat.eq_of_beq_eq_true h1) (by simpa using hne)
      · exact .inl h1
      · simp only [List.any_eq_true, Bool.and_eq_true] at h1
        obtain ⟨e, h2, h3, h4⟩ := h1
        exact .inr ⟨e, by simpa using h2, h3, Nat.eq_of_beq_eq_true h4⟩
    | succ k => exact chkE_get hc.2 k o d x (by simpa using ho) (by simpa using h) (by omega)

def SymE {P : Program} {T : Tab} (X : Ctx P T) (n : Nat) (ops : Array Oper) (d0 : Nat) (base : List (Nat × AV)) (i1 d1 : Nat) (x1 : AV) (C : Bool → List Ch) (j0 : Nat) (K : St → Prop) : List Oper → Done → Prop
  | [], done => chkE d0 j0 0 ops.toList done = true ∧ K ⟨finS base done, C true⟩
  | o :: rest, done => ∃ x, StepE X n ops d0 (availL done o.after.toList (bas2 base i1 d1 x1 done.length)) C (done.length == j0) o x ∧ SymE X n ops d0 base i1 d1 x1 C j0 K rest (done ++ [(o.dst, x)])

theorem SymE.plan {base : List (Nat × AV)} {C : Bool → List Ch} {j0 d0 i1 d1 : Nat} {x1 : AV} : ∀ {l : List Oper} {done : Done}, SymE X n ops d0 base i1 d1 x1 C j0 K l done →
    ∃ D : Done, done <+: D ∧ D.length = done.length + l.length ∧ (chkE d0 j0 0 ops.toList D = true ∧ K ⟨finS base D, C true⟩) ∧
      ∀ i o, l[i]? = some o → ∃ x, D[done.length + i]? = some (o.dst, x) ∧ StepE X n ops d0 (availL (D.take (done.length + i)) o.after.toList (bas2 base i1 d1 x1 (done.length + i))) C (done.length + i == j0) o x
  | [], done, h => ⟨done, List.prefix_refl _, by simp, h, fun i o hi => by simp at hi⟩
  | o :: rest, done, h => by
    obtain ⟨x, h1, h2⟩ := h
    obtain ⟨D, hp, hl, hK, hs⟩ := SymE.plan h2
    have hp' : done <+: D := (List.prefix_append done _).trans hp
    refine ⟨D, hp', by simp at hl ⊢; omega, hK, fun i o' hi => ?_⟩
    cases i with
    | zero =>
      simp only [List.getElem?_cons_zero, Option.some.injEq] at hi
      subst hi
      refine ⟨x, ?_, ?_⟩
      · obtain ⟨t, rfl⟩ := hp
        simp
      · obtain ⟨t, rfl⟩ := hp'
        simpa using h1
    | succ i =>
      obtain ⟨y, g1, g2⟩ := hs i o' (by simpa using hi)
      refine ⟨y, ?_, ?_⟩
      · simpa [Nat.add_assoc, Nat.add_comm 1 i] using g1
      · simpa [Nat.add_assoc, Nat.add_comm 1 i] using g2

def earlyB (ops : Array Oper) (j1 i1 d1 : Nat) : Bool :=
  match ops[j1]? with
  | some o => (match o.dst with
    | some d => Nat.beq d d1
    | none => false) && o.after.toList.any (fun e => Region.binds .any e && Nat.beq e.on i1)
  | none => false
theorem earlyB_spec {ops : Array Oper} {j1 i1 d1 : Nat} (h : earlyB ops j1 i1 d1 = true) : ∃ o, ops[j1]? = some o ∧ o.dst = some d1 ∧ ∃ e ∈ o.after, Region.binds .any e = true ∧ e.on = i1 := by
  unfold earlyB at h
  split at h
  · rename_i o ho
    simp only [Bool.and_eq_true, List.any_eq_true] at h
    obtain ⟨h1, e, h2, h3, h4⟩ := h
    refine ⟨o, ho, ?_, e, by simpa using h2, h3, Nat.eq_of_beq_eq_true h4⟩
    split at h1
    · rename_i d hd; rw [hd, Nat.eq_of_beq_eq_true h1]
    · cases h1
  · cases h

theorem C_drawE {id : Nat} {Q : Exit → St → Prop} {s base : List (Nat × AV)} (C : Bool → List Ch) (j0 d0 i1 j1 d1 : Nat) {x1 : AV} (hx1 : get s d1 = some x1) (hear : earlyB ops j1 i1 d1 = true) (hfb : freshS d0 ((d1, x1) :: base) = true) (hj : Nat.blt j0 ops.size = true) (hb : eraseD ops.toList s = some base) (hchk : chkD base 0 [] ops.toList = true)
    (h : SymE X n ops d0 base i1 d1 x1 C j0 (fun s => Q .normal s) ops.toList []) : SymC X n (.region id ops true) ⟨s, C false⟩ Q := by
  intro e a w r
  have hbs : ∀ k y, get base k = some y → get s k = some y := fun k y hk => eraseD_get hb hk
  obtain ⟨D, _, hl, hK, hs⟩ := h.plan
  obtain ⟨c1, c2⟩ := chkD_spec hchk
  have hbel : Below w.heap.size w { w with drawn := w.drawn + 1 } := ⟨rfl, rfl, rfl, Nat.le_refl _, fun _ _ => rfl⟩
  refine wp_region_any X.wide ?_
  have hjs : j1 < ops.size := by
    obtain ⟨o, ho, _⟩ := earlyB_spec hear
    exact (Array.getElem?_eq_some_iff.1 ho).1
  have hb1 : get base d1 = none := by
    obtain ⟨o, ho, hd, _⟩ := earlyB_spec hear
    exact ((c1 j1 o (by simpa using ho)).2 d1 hd).1
  have hbs2 : ∀ k y, get ((d1, x1) :: base) k = some y → get s k = some y := fun k y hk => by
    rw [get_cons] at hk
    by_cases h : d1 = k
    · subst h
      rw [if_pos rfl] at hk
      rw [hx1, ← hk]
    · rw [if_neg h] at hk; exact hbs k y hk
  have hf0 : ∀ j : Nat, (Array.replicate ops.size false).getD j false = false := fun j => by
    rcases Nat.lt_or_ge j ops.size with h | h
    · simp [h]
    · simp [Nat.not_lt.2 h]
  refine any_of_E (X := X) (n := n) (base := base) (C := C) (j0 := j0) (d0 := d0) (i1 := i1) (j1 := j1) (d1 := d1) (x1 := x1) (D := D) (by have := hj; simp [Nat.blt] at this; omega) (by simpa using hl) (fun i o ho => ?_) (earlyB_spec hear) (fun i o ho => ?_) (fun i j o o' d hi hj => c2 i j o o' d (by simpa using hi) (by simpa using hj)) (fun i o d ho hd => ((c1 i o (by simpa using ho)).2 d hd).1)
    (fun i o d x ho hi hne => chkE_get hK.1 i o d x (by simpa using ho) hi (by simpa using hne)) (fun e a w r => ⟨e, _, r, hK.2⟩) _ _ a _ e ((d1, x1) :: base) (by simp) (by simp) ?_ (fun k y hk => ?_) (fun i d x hi => ?_) (fun _ => hfb) ⟨fun _ => by rw [get_cons, if_pos rfl], fun hl => by rw [hf0] at hl; cases hl⟩
  · have := hs i o (by simpa using ho)
    simpa using this
  · simpa using (c1 i o (by simpa using ho)).1
  · have h1 : (Array.replicate ops.size false).getD j0 false = false := by
      rcases Nat.lt_or_ge j0 ops.size with h | h
      · simp [h]
      · simp [Nat.not_lt.2 h]
    rw [h1]
    exact (r.below hbel).less hbs2 (fun h => h)
  · rw [get_cons]
    by_cases h : d1 = k
    · subst h; rw [hb1] at hk; cases hk
    · rw [if_neg h]; exact hk
  · rcases Nat.lt_or_ge i ops.size with h | h
    · simp [h] at hi
    · simp [Nat.not_lt.2 h] at hi


theorem wp_otherQ {o : Oper} {K : Act → World → Prop} {Q Q' : Exit → Act → World → Prop} (hp : ∀ ch, Q' (.panic ch) = Q (.panic ch)) (ho : Q' .outgrown = Q .outgrown) (h : o.wp P a w K Q') : o.wp P a w K Q := by
  have hL : LetsOut Q' → LetsOut Q := fun ⟨a, w, h⟩ => ⟨a, w, by rw [← ho]; exact h⟩
  unfold Oper.wp at *
  generalize (execOp a.eval o).run P w = r at *
  cases r with
  | ok nx w' =>
    cases nx <;> simp only [Oper.upon] at h ⊢ <;>
      first
        | exact h
        | exact Calls.mono h (fun e w'' he => by
            cases e with
            | returned v => exact he
            | panicked ch =>
              have h1 : Q' (.panic ch) a w'' := he
              rw [hp] at h1; exact h1
            | outgrown => exact hL he)
  | halt x w' => cases x <;> simp only [Oper.upon] at h ⊢ <;> first | exact h | (rw [← hp]; exact h) | exact hL h

/-- The one operation that changes memory, as it is walked alone. -/
theorem E_of_O {d0 : Nat} {Si : List (Nat × AV)} {C : Bool → List Ch} {o : Oper} {x : AV}
    (h : ∀ S, (∀ k y, get Si k = some y → get S k = some y) → freshS d0 S = true → SymO X n ops [o] ⟨S, C false⟩ (fun st => st = ⟨putS o.dst x S, C true⟩)) : StepE X n ops d0 Si C true o x := by
  intro e a w S K Q r hS hf hk
  have h1 := h S hS hf e a w (fun ex a w => match ex with
    | .normal => K a w
    | ex => Q ex a w) r (fun e' st' a' w' he hr => by subst he; exact hk e' a' w' hr)
  unfold wpList at h1
  split
  · rename_i hw
    rw [if_pos hw] at h1
    rcases h1 with h1 | ⟨h1, a1, w1, h2⟩
    · exact .inl (wp_otherQ (fun _ => rfl) rfl h1)
    · exact .inr ⟨h1, a1, w1, h2⟩
  · rename_i hw
    rw [if_neg hw] at h1
    exact h1

theorem opd_sub {s S : List (Nat × AV)} (h : ∀ k y, get s k = some y → get S k = some y) {o : Operand} {x : AV} (ho : opd s o = some x) : opd S o = some x := by
  cases o with
  | tmp t => exact h t x ho
  | const c =>
    have hc : opd s (.const c) = opd S (.const c) := by cases c <;> first | rfl | (rename_i b; cases b; rename_i d; cases d; rfl)
    rw [← hc]; exact ho
  | func f => exact ho
  | global g => exact ho

def stepEV {P : Program} {T : Tab} (X : Ctx P T) (n : Nat) (ops : Array Oper) (d0 : Nat) (base : List (Nat × AV)) (i1 d1 : Nat) (x1 : AV) (C : Bool → List Ch) (j0 : Nat) (K : St → Prop) : List Oper → Done → Option Prop
  | [], done => (match chkE d0 j0 0 ops.toList done with
    | true => normG (finS base done) fun s => some (K ⟨s, C true⟩)
    | false => none)
  | o :: rest, done => normG (availL done o.after.toList (bas2 base i1 d1 x1 done.length)) fun Si => match Nat.beq done.length j0, dstOK n o.dst, o.guard, valA T ⟨Si, []⟩ o.op with
    | false, true, none, some (vc, x) => normA x fun x => normG (done ++ [(o.dst, x)]) fun done => some (vc ∧ SymE X n ops d0 base i1 d1 x1 C j0 K rest done)
    | _, _, _, _ => none

/-- An operation of such a region that leaves memory alone, and reads none that is owned. -/
theorem se {d0 i1 d1 : Nat} {x1 : AV} {base : List (Nat × AV)} {C : Bool → List Ch} {j0 : Nat} {l : List Oper} {done : Done} {p : Prop} (h : stepEV X n ops d0 base i1 d1 x1 C j0 K l done = some p) (hp : p) : SymE X n ops d0 base i1 d1 x1 C j0 K l done := by
  cases l with
  | nil =>
    simp only [stepEV] at h
    split at h
    · rename_i hc
      simp only [normG_eq, Option.some.injEq] at h
      subst h
      exact ⟨hc, hp⟩
    · cases h
  | cons o rest =>
    simp only [stepEV, normG_eq, normA_eq] at h
    split at h
    · rename_i vc x hj hd hg hv
      simp only [Option.some.injEq] at h
      subst h
      have hjj : (done.length == j0) = false := by
        have := beq_ne hj
        simpa using this
      refine ⟨x, ?_, hp.2⟩
      rw [hjj]
      intro fl e a w S K Q r hS hk
      have r' : Rel X n e ⟨availL done o.after.toList (bas2 base i1 d1 x1 done.length), []⟩ a w := r.less hS (fun _ => ⟨[], rfl, by simp, by simp, by simp⟩)
      have hw : Region.wanted o (yielded ops a.tmps) = true := by unfold Region.wanted; rw [hg]
      rw [if_pos hw]
      obtain ⟨v, h2, h1⟩ := valA_sound r' hv hp.1
      refine .inl ?_
      unfold Oper.wp
      rw [h1]
      exact hk _ _ _ (putOK r hd h2)
    · cases h

/-- A slice literal in such a region: it is read alone. -/
theorem E_bsl {d0 i1 d1 : Nat} {x1 : AV} {base : List (Nat × AV)} {C : Bool → List Ch} {j0 : Nat} {o : Oper} {rest : List Oper} {done : Done} {el esz len : Nat} {cs : List AV}
    (hj : Nat.beq done.length j0 = false) (hg : o.guard = none) (hd : dstOK n o.dst = true) (hb : bslA T ⟨availL done o.after.toList (bas2 base i1 d1 x1 done.length), []⟩ o.op = some (el, esz, len, cs))
    (kk : SymE X n ops d0 base i1 d1 x1 C j0 K rest (done ++ [(o.dst, .sl len esz (chunkRow esz cs))])) : SymE X n ops d0 base i1 d1 x1 C j0 K (o :: rest) done := by
  have hjj : (done.length == j0) = false := by
    have := beq_ne hj
    simpa using this
  refine ⟨_, ?_, kk⟩
  rw [hjj]
  intro fl
  refine stepD_bsl (el := el) (c := C fl) ?_ hd ?_
  · unfold guardA; rw [hg]
  · have : ∀ c c', bslA T ⟨availL done o.after.toList (bas2 base i1 d1 x1 done.length), c⟩ o.op = bslA T ⟨availL done o.after.toList (bas2 base i1 d1 x1 done.length), c'⟩ o.op := fun c c' => by
      unfold bslA; rfl
    rw [this (C fl) []]; exact hb

/-- The append of such a region: a typed list grows by one. -/
theorem E_push {α : Type} [Inhabited α] (cells : α → List AV) (l : List α) (x : α) {base : List (Nat × AV)} {i1 d1 : Nat} {x1 : AV} {C : Bool → List Ch} {j0 dst k : Nat} {so_ xo : Operand} {t ty : TypeId} {pos : String} {aft : Array Edge} {rest : List Oper} {done : Done} {r1 : List Ch} {el esz : Nat} {row2 : Nat → List AV} (by_ : Nat) {sz0 b0 : Nat} {ag0 ag1 : Bool} {z0 z1 : List Value} {dd1 : TD}
    (hj : Nat.beq done.length j0 = true)
    (hTs : T t = some ⟨sz0, b0, ag0, z0, .slice el⟩) (hTe : T el = some ⟨esz, by_, ag1, z1, dd1⟩) (hpos : Nat.blt 0 esz = true)
    (hso : opd (availL done aft.toList (bas2 base i1 d1 x1 done.length)) so_ = some (.own k)) (hk : takeCh k (C false) = some (VEC k el esz cells l, r1))
    (hxo : opd (availL done aft.toList (bas2 base i1 d1 x1 done.length)) xo = some (.sl 1 esz row2)) (hx : row2 0 = cells x) (hxl : (cells x).length = esz)
    (hd : Nat.blt dst n = true) (hfc : freshC dst r1 = true)
    (hlen : (l.length + 1) * by_ ≤ 140737488355328) (hlen2 : l.length + 1 ≤ maxLen) (h1 : C true = VEC dst el esz cells (l ++ [x]) :: r1)
    (kk : SymE X n ops dst base i1 d1 x1 C j0 K rest (done ++ [(some dst, .own dst)])) :
    SymE X n ops dst base i1 d1 x1 C j0 K (⟨some dst, .call ⟨.builtin .append, #[so_, xo], #[t, t]⟩, ty, pos, aft, none⟩ :: rest) done := by
  have hjj : (done.length == j0) = true := by
    have := Nat.eq_of_beq_eq_true hj
    simpa using this
  refine ⟨.own dst, ?_, kk⟩
  rw [hjj]
  refine E_of_O (fun S hS hf => ?_)
  have hr2 : ∀ i, i < 1 → (row2 i).length = esz := fun i hi => by
    obtain rfl : i = 0 := by omega
    rw [hx]; exact hxl
  refine O_append2 (m3 := (l ++ [x]).length) (row3 := fun i => cells ((l ++ [x]).getD i default)) (m2 := 1) (row2 := row2) (s2 := S) hTs hTe hpos (opd_sub hS hso) hk (src_sl (opd_sub hS hxo) hr2) hd (fun _ _ h => h) hf hfc hlen hlen2 (by simp) (fun i hi => ?_) ?_
  · simp only [List.length_append, List.length_singleton] at hi
    unfold appRow
    by_cases h : i < l.length
    · rw [if_pos h]
      simp only [getD_snoc_lt h]
    · rw [if_neg h]
      obtain rfl : i = l.length := by omega
      rw [Nat.sub_self, hx]
      simp only [getD_snoc_eq]
  · refine O_nil ?_
    rw [h1]
    rfl
end
end Go.Sy

/- The symbolic walk, part 32: what code computes, as plain functions that may fail; loops as iterations; nil slices told as empty ones. -/
set_option linter.unusedSimpArgs false
set_option linter.unusedVariables false
set_option linter.unusedSectionVars false
namespace Go.Sy
open Go.RowKit

/-! ### Plain functions that may fail -/
theorem cT {α : Type} {b : Bool} {x y : Option α} {r : α} (hb : b = true) (h : cond b x y = some r) : x = some r := by subst hb; exact h
theorem cF {α : Type} {b : Bool} {x y : Option α} {r : α} (hb : b = false) (h : cond b x y = some r) : y = some r := by subst hb; exact h
/-- A test of what must hold. -/
def chk {α : Type} (p : Prop) [Decidable p] (x : Option α) : Option α := if p then x else none
theorem gT {α : Type} {p : Prop} [Decidable p] {x : Option α} {r : α} (h : chk p x = some r) : p ∧ x = some r := by
  unfold chk at h
  split at h
  · rename_i hp; exact ⟨hp, h⟩
  · cases h
theorem chk_pos {α : Type} {p : Prop} [Decidable p] {x : Option α} (hp : p) : chk p x = x := if_pos hp
theorem bT {α β : Type} {x : Option α} {f : α → Option β} {r : β} (h : x.bind f = some r) : ∃ a, x = some a ∧ f a = some r := by
  cases x with
  | none => cases h
  | some a => exact ⟨a, rfl, h⟩

def iterN {S R : Type} (body : S → Option (S ⊕ R)) : Nat → S → Option R
  | 0, _ => none
  | n + 1, s => match body s with
    | none => none
    | some (.inl s') => iterN body n s'
    | some (.inr r) => some r

theorem iterN_det {S R : Type} {body : S → Option (S ⊕ R)} : ∀ {n m : Nat} {s : S} {r q : R}, iterN body n s = some r → iterN body m s = some q → r = q
  | 0, _, _, _, _, h, _ => by cases h
  | _ + 1, 0, _, _, _, _, h => by cases h
  | n + 1, m + 1, s, r, q, h, k => by
    simp only [iterN] at h k
    cases hb : body s with
    | none => rw [hb] at h; cases h
    | some z =>
      rw [hb] at h k
      cases z with
      | inl s' => exact iterN_det h k
      | inr x => cases h; cases k; rfl

/-- A loop's outcome, if it comes to one. -/
noncomputable def Iter {S R : Type} (body : S → Option (S ⊕ R)) (s : S) : Option R :=
  open Classical in if h : ∃ n r, iterN body n s = some r then some h.choose_spec.choose else none

theorem Iter_iff {S R : Type} {body : S → Option (S ⊕ R)} {s : S} {r : R} : Iter body s = some r ↔ ∃ n, iterN body n s = some r := by
  unfold Iter
  constructor
  · intro h
    split at h
    · rename_i hh
      cases h
      exact ⟨_, hh.choose_spec.choose_spec⟩
    · cases h
  · rintro ⟨n, h⟩
    rw [dif_pos ⟨n, r, h⟩]
    exact congrArg some (iterN_det (Exists.choose_spec (Exists.choose_spec (⟨n, r, h⟩ : ∃ n r, iterN body n s = some r))) h)

theorem Iter_next {S R : Type} {body : S → Option (S ⊕ R)} {s s' : S} (h : body s = some (.inl s')) : Iter body s = Iter body s' := by
  have key : ∀ r, Iter body s = some r ↔ Iter body s' = some r := fun r => by
    rw [Iter_iff, Iter_iff]
    constructor
    · rintro ⟨n, hn⟩
      cases n with
      | zero => cases hn
      | succ n => simp only [iterN, h] at hn; exact ⟨n, hn⟩
    · rintro ⟨n, hn⟩
      exact ⟨n + 1, by simp only [iterN, h]; exact hn⟩
  cases hs : Iter body s with
  | some r => exact ((key r).1 hs).symm
  | none =>
    cases hs' : Iter body s' with
    | none => rfl
    | some r => rw [(key r).2 hs'] at hs; cases hs

theorem Iter_end {S R : Type} {body : S → Option (S ⊕ R)} {s : S} {r : R} (h : body s = some (.inr r)) : Iter body s = some r :=
  Iter_iff.2 ⟨1, by simp only [iterN, h]⟩

section
variable {P : Program} {T : Tab} {X : Ctx P T} {n : Nat} {e : Env} {st : St} {a : Act} {w : World} {ops : Array Oper} {K : St → Prop}

/-- A loop that computes an iteration. -/
theorem C_iter {S R : Type} {Q : Exit → St → Prop} {c : Code} {body : S → Option (S ⊕ R)} {s0 : S} {out : R} (f : S → St) (hi : Iter body s0 = some out) (h0 : Le X n st (f s0))
    (round : ∀ s y, body s = some y → (∀ r, y = .inr r → r = out) → SymC X n c (f s) (fun ex s2 => match ex with
      | .normal => ∃ s', y = .inl s' ∧ Le X n s2 (f s')
      | ex => Q ex s2)) : SymC X n (.loop c) st Q := by
  obtain ⟨m, hm⟩ := Iter_iff.1 hi
  refine C_loop (fun p : Nat × S => f p.2) (fun p => iterN body p.1 p.2 = some out) (fun p => p.1) (m, s0) hm h0 ?_
  rintro ⟨k, s⟩ hk
  cases k with
  | zero => cases hk
  | succ k =>
    cases hb : body s with
    | none => simp only [iterN, hb] at hk; cases hk
    | some y =>
      have hk' := hk
      simp only [iterN, hb] at hk'
      refine (round s y hb (fun r hr => ?_)).mono (fun ex s2 h => ?_)
      · subst hr
        simp only [Option.some.injEq] at hk'
        exact hk'
      · cases ex with
        | normal =>
          obtain ⟨s', rfl, hle⟩ := h
          exact ⟨(k, s'), hk', Nat.lt_succ_self _, hle⟩
        | exit id => exact h
        | goto l => exact h
        | ret => exact h
        | panic ch => exact h
        | outgrown => exact h

/-! ### Nil slices told as empty ones -/
abbrev NIL : AV := .v (.slice none 0 0)
/-- What is one is the other: the same, a nil slice told as an empty one, or rows that are the same where they count. -/
inductive subA : AV → AV → Prop
  | refl {x : AV} : subA x x
  | nil {esz : Nat} {row : Nat → List AV} : subA NIL (.sl 0 esz row)
  | row {m esz : Nat} {r1 r2 : Nat → List AV} : (∀ i, i < m → r1 i = r2 i) → subA (.sl m esz r1) (.sl m esz r2)
inductive subAL : List AV → List AV → Prop
  | nil : subAL [] []
  | cons {x y : AV} {xs ys : List AV} : subA x y → subAL xs ys → subAL (x :: xs) (y :: ys)
theorem subA_R {e : Env} {x y : AV} (h : subA x y) {v : Value} (r : Rep e x v) : Rep e y v := by
  cases h with
  | refl => exact r
  | nil => exact Rep.nilsl r
  | row h => exact Rep.slrow h r
theorem subA_I {G : IM} {x y : AV} (h : subA x y) {v : Value} (r : RepI G x v) : RepI G y v := by
  cases h with
  | refl => exact r
  | nil => exact repI_nil r
  | row h => exact Rep.slrow (e := ⟨G, fun _ => 0, fun _ => undef⟩) h r
theorem subAL_L {e : Env} {xs ys : List AV} (h : subAL xs ys) : ∀ {vs : List Value}, RepL e xs vs → RepL e ys vs := by
  induction h with
  | nil => intro vs r; exact r
  | cons h _ ih =>
    intro vs r
    simp only [RepL] at r ⊢
    obtain ⟨z, zs, e1, r1, r2, r3⟩ := r
    exact ⟨z, zs, e1, subA_R h r1, r2, ih r3⟩
theorem subAL_agg {e : Env} {xs ys : List AV} (h : subAL xs ys) (v : Value) (r : Rep e (.agg xs) v) : Rep e (.agg ys) v := by
  simp only [Rep] at r ⊢
  obtain ⟨zs, e1, r⟩ := r
  exact ⟨zs, e1, subAL_L h r⟩

/-- A slot that holds a struct: told anew. -/
theorem Le.agg {s : List (Nat × AV)} {c : List Ch} (i : Nat) {xs : List AV} (ys : List AV) (hi : get s i = some (.agg xs)) (h : subAL xs ys) : Le X n ⟨s, c⟩ ⟨(i, .agg ys) :: s, c⟩ :=
  Le.conv i hi (fun e v r => subAL_agg h v r)
/-- A slot: told anew. -/
theorem Le.one {s : List (Nat × AV)} {c : List Ch} (i : Nat) {x : AV} (y : AV) (hi : get s i = some x) (h : subA x y) : Le X n ⟨s, c⟩ ⟨(i, y) :: s, c⟩ :=
  Le.conv i hi (fun e v r => subA_R h r)
/-- A box: told anew. -/
theorem Le.boxsub {s : List (Nat × AV)} {c rest : List Ch} (k : Nat) {kk : Nat} {t : TypeId} {xs : List AV} (ys : List AV) (hk : takeCh k c = some (.box kk t xs, rest)) (h : subAL xs ys) : Le X n ⟨s, c⟩ ⟨s, .box kk t ys :: rest⟩ := by
  intro e a w r
  have hp := takeCh_perm hk
  refine ⟨e, { r with slots := r.slots, heap := ?_ }⟩
  refine HeapOK.retell (r.heap.perm hp) (fun bs hc => ?_)
  obtain ⟨h1, arr, h2, h3⟩ := hc
  exact ⟨h1, arr, h2, subAL_L h h3⟩
/-- A slice literal, told as a typed list. -/
theorem Le.lit {α : Type} [Inhabited α] {s : List (Nat × AV)} {c rest : List Ch} (i : Nat) {k t esz m : Nat} {row : Nat → List AV} (cells : α → List AV) (l : List α) (hi : get s i = some (.own k)) (hk : takeCh k c = some (.vec k t esz m row, rest))
    (hm : m = l.length) (h : ∀ j, j < m → row j = cells (l.getD j default)) : Le X n ⟨s, c⟩ ⟨(i, SL esz cells l) :: s, rest⟩ := by
  subst hm
  have h1 := Le.freeze (P := P) (T := T) (X := X) (n := n) (i := i) hi hk
  have h2 : Le X n ⟨(i, .sl l.length esz row) :: s, rest⟩ ⟨(i, SL esz cells l) :: (i, .sl l.length esz row) :: s, rest⟩ :=
    Le.conv i (by rw [get_cons, if_pos rfl]) (fun e v r => Rep.slrow (row2 := fun j => cells (l.getD j default)) h r)
  refine (h1.trans h2).trans (fun e a w r => ⟨e, r.less (fun k y hk => ?_) id⟩)
  simp only [get_cons] at hk ⊢
  by_cases hik : i = k
  · rw [if_pos hik] at hk ⊢; exact hk
  · rw [if_neg hik] at hk ⊢; rw [if_neg hik]; exact hk

/-- One operation of a drawn region whose value is told otherwise. -/
theorem sdw {base : List (Nat × AV)} {c : List Ch} {o : Oper} {rest : List Oper} {done : Done} {x : AV} (y : AV) (hg : guardA ops ⟨availL done o.after.toList base, c⟩ o = some true) (hd : dstOK n o.dst = true)
    (hs : still T ⟨availL done o.after.toList base, c⟩ o.op = some x) (hsub : subA x y) (h : SymD X n ops base c K rest (done ++ [(o.dst, y)])) : SymD X n ops base c K (o :: rest) done :=
  D_val y hg hd (fun e a w r => by
    obtain ⟨v, h1, h2⟩ := still_sound r hs
    exact ⟨v, subA_R hsub h1, fun w' hw => h2 w' hw⟩) h
/-- A test in a drawn region whose outcome is not known: both ways. -/
theorem D_case {base : List (Nat × AV)} {c : List Ch} {l : List Oper} {done : Done} (i : Nat) {d : Option Nat} {b : Bool} (hi : done[i]? = some (d, .v (.bool b)))
    (ht : b = true → normG (done.set i (d, .v (.bool true))) (fun done => SymD X n ops base c K l done))
    (hf : b = false → normG (done.set i (d, .v (.bool false))) (fun done => SymD X n ops base c K l done)) : SymD X n ops base c K l done := by
  have key : done.set i (d, .v (.bool b)) = done := by
    apply List.ext_getElem?
    intro j
    rw [List.getElem?_set]
    split
    · rename_i h; subst h
      split
      · exact hi.symm
      · rename_i h; rw [List.getElem?_eq_none (by omega)] at hi; cases hi
    · rfl
  cases hb : b with
  | true => have := ht hb; rw [normG_eq] at this; rw [hb] at key; rwa [key] at this
  | false => have := hf hb; rw [normG_eq] at this; rw [hb] at key; rwa [key] at this
/-- What comes behind begins from a state told once. -/
theorem C_join {Q : Exit → St → Prop} {c : Code} (s2 : St) (h1 : SymC X n c st (fun ex s => match ex with
      | .normal => Le X n s s2
      | ex => Q ex s)) (h2 : ∀ s, Le X n s s2 → Q .normal s) : SymC X n c st Q := by
  refine h1.mono (fun ex s h => ?_)
  cases ex with
  | normal => exact h2 s h
  | exit id => exact h
  | goto l => exact h
  | ret => exact h
  | panic ch => exact h
  | outgrown => exact h
/-- The same, and what is known besides. -/
theorem C_joinP {Q : Exit → St → Prop} {c : Code} (s2 : St) (p : Prop) (h1 : SymC X n c st (fun ex s => match ex with
      | .normal => Le X n s s2 ∧ p
      | ex => Q ex s)) (h2 : ∀ s, Le X n s s2 → p → Q .normal s) : SymC X n c st Q := by
  refine h1.mono (fun ex s h => ?_)
  cases ex with
  | normal => exact h2 s h.1 h.2
  | exit id => exact h
  | goto l => exact h
  | ret => exact h
  | panic ch => exact h
  | outgrown => exact h
end
end Go.Sy
