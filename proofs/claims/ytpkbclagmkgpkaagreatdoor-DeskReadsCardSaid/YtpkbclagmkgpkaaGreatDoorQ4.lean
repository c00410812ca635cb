/- The symbolic walk, part 26: owned memory at known addresses; contracts that get such memory and give it back changed. -/
import Derived.Test.YtpkbclagmkgpkaaGreatDoorQ3
import Derived.Laws.IdiomCopy
import Derived.Laws.IdiomStrings
import Derived.ArgAppend
set_option linter.unusedSimpArgs false
set_option linter.unusedVariables false
namespace Go.Sy
open Go.RowKit

def boxA (b : Nat) (T : TypeId) (cells : List AV) : Abs where
  bs := [b]
  ok := fun G w => ∃ arr, w.heap[b]? = some (.cells arr T (0, 0)) ∧ RepIL G cells arr.toList
  keep := by
    rintro G H w w' hG hb ⟨arr, h1, h2⟩
    exact ⟨arr, by rw [hb b (by simp)]; exact h1, RepIL.mono hG cells h2⟩

def vecA (h : Value) (T : TypeId) (esz n : Nat) (row : Nat → List AV) : Abs where
  bs := h.ownBlock.toList
  ok := fun G w => ∃ xs, w.ownsRow 0 T esz h n xs ∧ RowsL G esz n row xs
  keep := by
    rintro G H w w' hG hb ⟨xs, h1, h2⟩
    exact ⟨xs, ownsRow_of_blocks h1 (fun b hbb => hb b (by simp [hbb])), h2.mono hG⟩

def blocks (cs : List Abs) : List Nat := cs.flatMap Abs.bs

def AbsOK (G : IM) (w : World) (cs : List Abs) : Prop :=
  (∀ A ∈ cs, A.ok G w) ∧ (blocks cs).Nodup ∧ ∀ b ∈ blocks cs, b < w.heap.size ∧ G.free b

def NewAt (G G' : IM) (N : Nat) (bs : List Nat) : Prop := (∀ b o v, G' b o = some v → G b o = some v ∨ N ≤ b ∨ b ∈ bs) ∧ ∀ b x, G'.m b = some x → G.m b = some x ∨ N ≤ b ∨ b ∈ bs
theorem NewAt.of {G G' : IM} {N : Nat} (bs : List Nat) (h : NewIn G G' N) : NewAt G G' N bs := ⟨fun b o v hv => (h.1 b o v hv).imp id .inl, fun b x hx => (h.2 b x hx).imp id .inl⟩
theorem NewAt.free {G G' : IM} {N b : Nat} {bs : List Nat} (h : NewAt G G' N bs) (hb : b < N) (hn : b ∉ bs) (hf : G.free b) : G'.free b := by
  refine ⟨fun o => ?_, ?_⟩
  · cases hg : G' b o with
    | none => rfl
    | some v =>
      rcases h.1 b o v hg with k | k | k
      · rw [hf.1 o] at k; cases k
      · omega
      · exact absurd k hn
  · cases hg : G'.m b with
    | none => rfl
    | some v =>
      rcases h.2 b v hg with k | k | k
      · rw [hf.2] at k; cases k
      · omega
      · exact absurd k hn

def FnA (P : Program) (f : FuncId) (args : List AV) (cs : List Abs) (post : AV → List Abs → Prop) : Prop :=
  Callable P f ∧ ∀ (G : IM) (w : World) (cargs : List Value), ImOK G w → RepIT G args cargs → AbsOK G w cs →
    Calls P f cargs.toArray w fun en w' => ∃ r cr cs' G', post r cs' ∧ en = .returned cr ∧ RepI G' r cr ∧ IM.le G G' ∧
      NewAt G G' w.heap.size (blocks cs) ∧ ImOK G' w' ∧ AbsOK G' w' cs' ∧
      (∀ b ∈ blocks cs', w.heap.size ≤ b ∨ b ∈ blocks cs) ∧
      w'.os = w.os ∧ w'.tape = w.tape ∧ w'.output = w.output ∧ w.heap.size ≤ w'.heap.size ∧ ∀ k, k < w.heap.size → k ∉ blocks cs → G.still k → w'.heap[k]? = w.heap[k]?

theorem AbsOK.keep {G H : IM} {w w' : World} {cs : List Abs} (h : AbsOK G w cs) (hG : IM.le G H) (hb : ∀ b, b ∈ blocks cs → w'.heap[b]? = w.heap[b]?) (hs : w.heap.size ≤ w'.heap.size)
    (hn : ∀ b, b < w.heap.size → b ∈ blocks cs → G.free b → H.free b) : AbsOK H w' cs := by
  refine ⟨fun A hA => A.keep hG (fun b hbb => hb b (List.mem_flatMap.2 ⟨A, hA, hbb⟩)) (h.1 A hA), h.2.1, fun b hbb => ?_⟩
  obtain ⟨h1, h2⟩ := h.2.2 b hbb
  exact ⟨by omega, hn b h1 hbb h2⟩

theorem FnP.toA {P : Program} {f : FuncId} {args : List AV} {post : AV → Prop} (h : FnP P f args post) (cs : List Abs) : FnA P f args cs (fun r cs' => post r ∧ cs' = cs) := by
  refine ⟨h.1, fun G w c h1 h2 h3 => (h.2 G w c h1 h2).mono ?_⟩
  rintro e w' ⟨r, cr, G', hp, he, g1, g2, g3, g4, g5⟩
  refine ⟨r, cr, cs, G', ⟨hp, rfl⟩, he, g1, g2, .of _ g3, g4, h3.keep g2 (fun b hb => g5.block b (h3.2.2 b hb).1 (IM.free_still (h3.2.2 b hb).2)) g5.size (fun b hb _ hf => g3.free hb hf), fun b hb => .inr hb, g5.os, g5.tape, g5.output, g5.size, fun k hk _ hs => g5.block k hk hs⟩

def nthA : Nat → List Ch → Option (Abs × List Ch)
  | 0, .abs A :: r => some (A, r)
  | i + 1, c :: r => match nthA i r with
    | some (A, r') => some (A, c :: r')
    | none => none
  | _, _ => none
def pickA : List Nat → List Ch → Option (List Abs × List Ch)
  | [], c => some ([], c)
  | i :: is, c => match nthA i c with
    | some (A, c') => (match pickA is c' with
      | some (As, r) => some (A :: As, r)
      | none => none)
    | none => none
theorem nthA_perm : ∀ {i : Nat} {c r : List Ch} {A : Abs}, nthA i c = some (A, r) → c.Perm (.abs A :: r)
  | 0, c, r, A, h => by
    unfold nthA at h
    split at h
    · rename_i B r'
      simp only [Option.some.injEq, Prod.mk.injEq] at h
      obtain ⟨rfl, rfl⟩ := h
      exact .refl _
    · rename_i i h1 _; omega
    · cases h
  | i + 1, [], r, A, h => by simp [nthA] at h
  | i + 1, d :: c, r, A, h => by
    simp only [nthA] at h
    split at h
    · rename_i B r' hh
      simp only [Option.some.injEq, Prod.mk.injEq] at h
      obtain ⟨rfl, rfl⟩ := h
      exact ((nthA_perm hh).cons d).trans (.swap _ _ _)
    · cases h
theorem pickA_perm : ∀ {is : List Nat} {c r : List Ch} {As : List Abs}, pickA is c = some (As, r) → c.Perm (As.map .abs ++ r)
  | [], c, r, As, h => by
    simp only [pickA, Option.some.injEq, Prod.mk.injEq] at h
    obtain ⟨rfl, rfl⟩ := h
    exact .refl _
  | i :: is, c, r, As, h => by
    simp only [pickA] at h
    split at h
    · rename_i A c' h1
      split at h
      · rename_i Bs r' h2
        simp only [Option.some.injEq, Prod.mk.injEq] at h
        obtain ⟨rfl, rfl⟩ := h
        exact (nthA_perm h1).trans ((pickA_perm h2).cons _)
      · cases h
    · cases h

section
variable {P : Program} {T : Tab} {X : Ctx P T} {n : Nat} {e : Env} {st : St} {a : Act} {w : World} {ops : Array Oper} {K : St → Prop}

theorem split_pl {e : Env} {w : World} : ∀ {As : List Abs} {r : List Ch} {pl : List (Ch × List Nat)}, pl.map (·.1) = As.map Ch.abs ++ r → (∀ p ∈ pl, ChOK e w p.1 p.2) →
    ∃ pl2, pl = As.map (fun A => (Ch.abs A, A.bs)) ++ pl2 ∧ pl2.map (·.1) = r
  | [], r, pl, h, _ => ⟨pl, rfl, by simpa using h⟩
  | A :: As, r, [], h, _ => by simp at h
  | A :: As, r, p :: pl, h, hok => by
    simp only [List.map_cons, List.cons_append, List.cons.injEq] at h
    obtain ⟨pl2, h1, h2⟩ := split_pl h.2 (fun q hq => hok q (List.mem_cons_of_mem _ hq))
    have hp := hok p (List.mem_cons_self ..)
    rw [h.1] at hp
    refine ⟨pl2, ?_, h2⟩
    rw [h1]
    simp only [List.map_cons, List.cons_append]
    congr 1
    exact Prod.ext h.1 hp.1

theorem flat_abs (As : List Abs) : (As.map (fun A => (Ch.abs A, A.bs))).flatMap (·.2) = blocks As := by
  unfold blocks
  rw [List.flatMap_map]

theorem HeapOK.absOK {As : List Abs} {r : List Ch} (h : HeapOK X e w (As.map Ch.abs ++ r)) : AbsOK e.G w As ∧ ∀ b ∈ blocks As, X.w0.heap.size ≤ b ∨ b ∈ X.bs := by
  obtain ⟨pl, h1, h2, h3, h4⟩ := h
  obtain ⟨pl2, rfl, h6⟩ := split_pl h1 h2
  rw [List.flatMap_append, flat_abs] at h3 h4
  refine ⟨⟨fun A hA => (h2 (.abs A, A.bs) (List.mem_append.2 (.inl (List.mem_map.2 ⟨A, hA, rfl⟩)))).2, (List.nodup_append.1 h3).1, fun b hb => ?_⟩, fun b hb => (h4 b (List.mem_append.2 (.inl hb))).2.1⟩
  obtain ⟨q1, q2, q3⟩ := h4 b (List.mem_append.2 (.inl hb))
  exact ⟨q1, q3⟩

theorem HeapOK.swapAbs {As As' : List Abs} {r : List Ch} {G' : IM} {w' : World} (h : HeapOK X e w (As.map Ch.abs ++ r)) (hsz0 : X.w0.heap.size ≤ w.heap.size) (hG : IM.le e.G G')
    (hnew : NewAt e.G G' w.heap.size (blocks As)) (hok : AbsOK G' w' As') (hb : ∀ b ∈ blocks As', w.heap.size ≤ b ∨ b ∈ blocks As)
    (hsz : w.heap.size ≤ w'.heap.size) (hk : ∀ k, k < w.heap.size → k ∉ blocks As → e.G.still k → w'.heap[k]? = w.heap[k]?) : HeapOK X ⟨G', e.μ, e.hd⟩ w' (As'.map Ch.abs ++ r) := by
  obtain ⟨pl, h1, h2, h3, h4⟩ := h
  obtain ⟨pl2, rfl, h6⟩ := split_pl h1 h2
  rw [List.flatMap_append, flat_abs] at h3 h4
  obtain ⟨n1, n2, n3⟩ := List.nodup_append.1 h3
  refine ⟨As'.map (fun A => (Ch.abs A, A.bs)) ++ pl2, by simp [h6, Function.comp_def], ?_, ?_, ?_⟩
  · intro p hp
    rcases List.mem_append.1 hp with hp | hp
    · obtain ⟨A, hA, rfl⟩ := List.mem_map.1 hp
      exact ⟨rfl, hok.1 A hA⟩
    · refine ChOK.keep (e := e) (f := ⟨G', e.μ, e.hd⟩) hG p.1 (fun _ _ => ⟨rfl, rfl⟩) (fun b hbb => ?_) (h2 p (List.mem_append.2 (.inr hp)))
      have hbf : b ∈ pl2.flatMap (·.2) := List.mem_flatMap.2 ⟨p, hp, hbb⟩
      exact hk b (h4 b (List.mem_append.2 (.inr hbf))).1 (fun hin => n3 b hin b hbf rfl) (IM.free_still (h4 b (List.mem_append.2 (.inr hbf))).2.2)
  · rw [List.flatMap_append, flat_abs]
    refine List.nodup_append.2 ⟨hok.2.1, n2, ?_⟩
    rintro b hb1 b' hbf rfl
    rcases hb b hb1 with h | h
    · have := (h4 b (List.mem_append.2 (.inr hbf))).1; omega
    · exact n3 b h b hbf rfl
  · rw [List.flatMap_append, flat_abs]
    intro b hbb
    rcases List.mem_append.1 hbb with hbb | hbb
    · obtain ⟨q1, q2⟩ := hok.2.2 b hbb
      refine ⟨q1, ?_, q2⟩
      rcases hb b hbb with h | h
      · exact .inl (by omega)
      · exact (h4 b (List.mem_append.2 (.inl h))).2.1
    · obtain ⟨q1, q2, q3⟩ := h4 b (List.mem_append.2 (.inr hbb))
      exact ⟨by omega, q2, hnew.free q1 (fun h => n3 b h b hbb rfl) q3⟩

theorem Rel.swapAbs (r : Rel X n e st a w) {As As' : List Abs} {c : List Ch} {G' : IM} {w' : World} (hc : st.c.Perm (As.map Ch.abs ++ c)) (hG : IM.le e.G G') (him : ImOK G' w')
    (hnew : NewAt e.G G' w.heap.size (blocks As)) (hok : AbsOK G' w' As') (hb : ∀ b ∈ blocks As', w.heap.size ≤ b ∨ b ∈ blocks As)
    (ho : w'.os = w.os ∧ w'.tape = w.tape ∧ w'.output = w.output) (hsz : w.heap.size ≤ w'.heap.size) (hk : ∀ k, k < w.heap.size → k ∉ blocks As → e.G.still k → w'.heap[k]? = w.heap[k]?) :
    Rel X n ⟨G', e.μ, e.hd⟩ ⟨st.s, As'.map Ch.abs ++ c⟩ a w' := by
  have hh := r.heap.perm hc
  have hd := hh.absOK
  exact
    { defers := r.defers
      size := r.size
      slots := fun i x hx => by
        obtain ⟨v, q1, q2⟩ := r.slots i x hx
        exact ⟨v, q1, Rep.mono (e := e) (f := ⟨G', e.μ, e.hd⟩) hG x (fun _ _ => ⟨rfl, rfl⟩) q2⟩
      im := him.1
      mz := him.2
      heap := hh.swapAbs r.sz hG hnew hok hb hsz hk
      le := IM.le_trans r.le hG
      new := fun b o v hv => by
        rcases hnew.1 b o v hv with h | h | h
        · exact r.new b o v h
        · exact .inr (.inl (Nat.le_trans r.sz h))
        · exact .inr (hd.2 b h)
      newm := fun b x hv => by
        rcases hnew.2 b x hv with h | h | h
        · exact r.newm b x h
        · exact .inr (.inl (Nat.le_trans r.sz h))
        · exact .inr (hd.2 b h)
      os := ho.1.trans r.os
      tape := ho.2.1.trans r.tape
      output := ho.2.2.trans r.output
      sz := Nat.le_trans r.sz hsz
      keep := fun b hb1 hbs hs => by
        rw [hk b (Nat.lt_of_lt_of_le hb1 r.sz)]
        · exact r.keep b hb1 hbs hs
        · intro hin
          rcases hd.2 b hin with h | h
          · omega
          · exact hbs h
        · intro L hL
          rcases r.newm b _ hL with h | h | h
          · exact hs L h
          · omega
          · exact hbs h
      fix := r.fix }

def EndsX (T : Tab) (rs : Array ResultVar) (post : AV → List Abs → Prop) : Exit → St → Prop
  | .normal, st => ∃ r cs rest, resA T st rs.toList = some r ∧ st.c.Perm (cs.map Ch.abs ++ rest) ∧ r.imm = true ∧ post r cs
  | .ret, st => ∃ r cs rest, resA T st rs.toList = some r ∧ st.c.Perm (cs.map Ch.abs ++ rest) ∧ r.imm = true ∧ post r cs
  | _, _ => False

theorem FnA.intro (ok : TabOK P T) (wide : P.follows .mixedOrders = true) {f : FuncId} {fn : Func} {c : Code} {args : List AV} {cs : List Abs} {post : AV → List Abs → Prop} (hf : P.funcs[f]? = some fn) (hb : fn.body = some c)
    (hn : (fn.name == "runtime.NumGoroutine") = false) (hargs : Nat.ble args.length fn.ntmps = true)
    (h : ∀ X : Ctx P T, SymC X fn.ntmps c ⟨enumA 0 args, cs.map Ch.abs⟩ (EndsX T fn.results post)) : FnA P f args cs post := by
  refine ⟨⟨fn, hf, by simp [hb], hn⟩, ?_⟩
  intro G w cargs him hrep hcs
  have hargs := Nat.le_of_ble_eq_true hargs
  refine calls_of_wp hf hb ?_
  let X : Ctx P T := ⟨ok, wide, w, G, blocks cs, fun _ => 0, fun _ _ _ => False, []⟩
  let e : Env := ⟨G, fun _ => 0, fun _ => undef⟩
  have hheap : HeapOK X e w (cs.map Ch.abs) := by
    refine ⟨cs.map (fun A => (Ch.abs A, A.bs)), by simp [Function.comp_def], ?_, by rw [flat_abs]; exact hcs.2.1, ?_⟩
    · intro p hp
      obtain ⟨A, hA, rfl⟩ := List.mem_map.1 hp
      exact ⟨rfl, hcs.1 A hA⟩
    · rw [flat_abs]
      intro b hb
      exact ⟨(hcs.2.2 b hb).1, .inr hb, (hcs.2.2 b hb).2⟩
  have r : Rel X fn.ntmps e ⟨enumA 0 args, cs.map Ch.abs⟩ { tmps := cargs.toArray ++ Array.replicate (fn.ntmps - cargs.toArray.size) undef, defers := [] } w :=
    Rel.enter rfl rfl him (RepIT.toRep (e := e) args hrep) hargs hheap rfl
  refine Code.wp_mono (fun ex a' w' hc => ?_) (h X e _ w r)
  have fin : ∀ (e' : Env) (st' : St), Rel X fn.ntmps e' st' a' w' → (∃ r cs rest, resA T st' fn.results.toList = some r ∧ st'.c.Perm (cs.map Ch.abs ++ rest) ∧ r.imm = true ∧ post r cs) →
      a'.defers = [] ∧ ∃ v, (results fn a'.tmps).run P w' = .ok v w' ∧ (∃ r cr cs' G', post r cs' ∧ Ending.returned v = .returned cr ∧ RepI G' r cr ∧ IM.le G G' ∧
      NewAt G G' w.heap.size (blocks cs) ∧ ImOK G' w' ∧ AbsOK G' w' cs' ∧
      (∀ b ∈ blocks cs', w.heap.size ≤ b ∨ b ∈ blocks cs) ∧
      w'.os = w.os ∧ w'.tape = w.tape ∧ w'.output = w.output ∧ w.heap.size ≤ w'.heap.size ∧ ∀ k, k < w.heap.size → k ∉ blocks cs → G.still k → w'.heap[k]? = w.heap[k]?) := by
    intro e' st' hr ⟨x, cs', rest, h1, hk, h2, h3⟩
    obtain ⟨v, h5, h6⟩ := resA_sound hr h1
    obtain ⟨q1, q2⟩ := (hr.heap.perm hk).absOK
    refine ⟨hr.defers, v, h5, x, v, cs', e'.G, h3, rfl, Rep.toI x h2 h6, hr.le, ⟨hr.new, hr.newm⟩, ⟨hr.im, hr.mz⟩, q1, q2, hr.os, hr.tape, hr.output, hr.sz, fun k hk hnin hs => hr.keep k hk hnin hs⟩
  cases ex with
  | normal => obtain ⟨e', st', h1, h2⟩ := hc; exact fin e' st' h1 h2
  | ret => obtain ⟨e', st', h1, h2⟩ := hc; exact fin e' st' h1 h2
  | exit id => obtain ⟨e', st', h1, h2⟩ := hc; exact h2.elim
  | goto l => obtain ⟨e', st', h1, h2⟩ := hc; exact h2.elim
  | panic ch => exact hc.2.elim
  | outgrown => exact hc.elim

theorem call_after {f : FuncId} {cargs : List Value} {avs : List AV} {cs : List Abs} {cr : List Ch} {post : AV → List Abs → Prop} {s : List (Nat × AV)} {c : List Ch} {dst : Nat} (hf : FnA P f avs cs post) (r : Rel X n e ⟨s, c⟩ a w)
    (h1 : RepIT e.G avs cargs) (hp : c.Perm (cs.map Ch.abs ++ cr)) (hd : Nat.blt dst n = true) {Q : QX X} {rest : List Oper}
    (kk : ∀ x cs', post x cs' → SymO X n ops rest ⟨(dst, x) :: s, cs'.map Ch.abs ++ cr⟩ K) (hq : ∀ e' st' a' w', K st' → Rel X n e' st' a' w' → Q .normal a' w') :
    Calls P f cargs.toArray w fun en w' => ∃ cv, en = .returned cv ∧ wpList P ops Q rest (a.put (some dst) cv) w' := by
  have hd2 := (r.heap.perm hp).absOK
  refine (hf.2 e.G w cargs ⟨r.im, r.mz⟩ h1 hd2.1).mono ?_
  rintro en w' ⟨rv, cv, cs', G', hpost, rfl, g1, g2, g3, g4, g5, g6, o1, o2, o3, o4, o5⟩
  have r' := r.swapAbs (st := ⟨s, c⟩) hp g2 g4 g3 g5 g6 ⟨o1, o2, o3⟩ o4 o5
  exact ⟨cv, rfl, kk rv cs' hpost _ _ w' Q (r'.put (x := rv) (v := cv) hd (RepI.toRep (e := ⟨G', e.μ, e.hd⟩) rv g1)) hq⟩

theorem O_callA (is : List Nat) {f : FuncId} {dst : Nat} {args : Array Operand} {tys : Array TypeId} {ty : TypeId} {pos : String} {aft : Array Edge} {gd : Option (Nat × Bool)} {rest : List Oper} {avs : List AV} {cs : List Abs} {cr : List Ch} {post : AV → List Abs → Prop}
    {s : List (Nat × AV)} {c : List Ch} (hf : FnA P f avs cs post) (hg : guardA ops ⟨s, c⟩ ⟨some dst, .call ⟨.value (.func f), args, tys⟩, ty, pos, aft, gd⟩ = some true) (ha : opds s args.toList = some avs) (himm : AV.imm.immL avs = true)
    (hp : pickA is c = some (cs, cr)) (hd : Nat.blt dst n = true)
    (k : ∀ r cs', post r cs' → SymO X n ops rest ⟨(dst, r) :: s, cs'.map Ch.abs ++ cr⟩ K) :
    SymO X n ops (⟨some dst, .call ⟨.value (.func f), args, tys⟩, ty, pos, aft, gd⟩ :: rest) ⟨s, c⟩ K := by
  intro e a w Q r hq
  unfold wpList
  rw [if_pos (guardA_sound r hg)]
  refine .inl ?_
  unfold Oper.wp
  rw [run_call hf.1 a.eval rfl w, Oper.upon_enter]
  have h1 := RepT.toI avs himm (opds_sound r ha)
  rw [map_eval]
  refine (call_after (ops := ops) (Q := Q) hf r h1 (pickA_perm hp) hd k hq).mono ?_
  rintro en w' ⟨cv, rfl, h⟩
  exact h

end
end Go.Sy

namespace Go.Sy
open Go.RowKit

abbrev PT (b o : Nat) : AV := .v (.pointer (some ⟨b, o, none⟩))
abbrev HD (g n cc : Nat) : Value := .slice (some ⟨g, 0, none⟩) n cc

section
variable {P : Program} {T : Tab} {X : Ctx P T} {n : Nat} {e : Env} {st : St} {a : Act} {w : World} {ops : Array Oper} {K : St → Prop}

def Reads (A : Abs) (b o : Nat) (cells : List AV) : Prop :=
  ∀ (G : IM) (w : World), A.ok G w → ∀ (j : Nat) (c : AV), cells[j]? = some c → ∃ z, w.cell? ⟨b, o + j, none⟩ = some z ∧ RepI G c z ∧ z.oneCell' = true

theorem reads_box {b : Nat} {t : TypeId} {cells : List AV} (o : Nat) : Reads (boxA b t cells) b o (cells.drop o) := by
  rintro G w ⟨arr, h1, h2⟩ j c hc
  rw [List.getElem?_drop] at hc
  obtain ⟨z, h3, h4, h5⟩ := h2.get _ c hc
  refine ⟨z, ?_, h4, h5⟩
  rw [cell_of_row w b (o + j) arr t (0, 0) h1]
  simpa using h3

theorem reads_vec {g m cc : Nat} {t : TypeId} {esz : Nat} {row : Nat → List AV} {o q j : Nat} (hq : q < m) (ho : o = q * esz + j) : Reads (vecA (HD g m cc) t esz m row) g o ((row q).drop j) := by
  rintro G w ⟨xs, h1, h2⟩ i c hc
  subst ho
  rw [List.getElem?_drop] at hc
  rcases h1.2 with ⟨hnil, hm⟩ | ⟨g', cap, cur, hsl, _, hg, hcap, hmax, hcs, htake⟩
  · cases hnil
  · simp only [HD, Value.slice.injEq, Option.some.injEq, Addr.mk.injEq, and_true, true_and] at hsl
    obtain ⟨rfl, _⟩ := hsl
    have z0 := h2 q hq
    obtain ⟨z, z1, z2, z3⟩ := z0.get _ c hc
    have hj : j + i < esz := by
      rcases Nat.lt_or_ge (j + i) esz with h | h
      · exact h
      · rw [List.getElem?_eq_none (by simp; omega)] at z1; cases z1
    have hlt : q * esz + (j + i) < m * esz := by
      have : (q + 1) * esz ≤ m * esz := Nat.mul_le_mul_right _ hq
      rw [Nat.add_mul] at this; omega
    refine ⟨z, ?_, z2, z3⟩
    rw [cell_of_row w g _ cur t (0, 0) hg]
    rw [List.getElem?_take, if_pos hj, List.getElem?_drop, ← htake, List.getElem?_take, if_pos hlt] at z1
    rw [Nat.add_assoc]
    simpa using z1

theorem HeapOK.nth {A : Abs} {p : Nat} {c r : List Ch} (h : HeapOK X e w c) (hp : nthA p c = some (A, r)) : A.ok e.G w ∧ (∀ b ∈ A.bs, b < w.heap.size ∧ (X.w0.heap.size ≤ b ∨ b ∈ X.bs) ∧ e.G.free b) ∧ A.bs.Nodup := by
  have hh := h.perm (nthA_perm hp)
  have := (HeapOK.absOK (As := [A]) (r := r) (by simpa using hh))
  obtain ⟨⟨h1, h2, h3⟩, h4⟩ := this
  have hb : blocks [A] = A.bs := by simp [blocks]
  rw [hb] at h2 h3 h4
  exact ⟨h1 A (by simp), fun b hbb => ⟨(h3 b hbb).1, h4 b hbb, (h3 b hbb).2⟩, h2⟩

theorem O_loadP (p : Nat) {A : Abs} {cells : List AV} {t : TypeId} {i : TI} {x : Operand} {d b o : Nat} {av : AV} {ty : TypeId} {pos : String} {aft : Array Edge} {gd : Option (Nat × Bool)} {rest : List Oper} {s : List (Nat × AV)} {c cr : List Ch}
    (hR : Reads A b o cells) (hg : guardA ops ⟨s, c⟩ ⟨some d, .load t x, ty, pos, aft, gd⟩ = some true) (hx : opd s x = some (PT b o)) (hp : nthA p c = some (A, cr)) (hT : T t = some i) (hl : loadA i cells = some av) (hd : Nat.blt d n = true)
    (k : SymO X n ops rest ⟨(d, av) :: s, c⟩ K) : SymO X n ops (⟨some d, .load t x, ty, pos, aft, gd⟩ :: rest) ⟨s, c⟩ K := by
  intro e a w Q r hq
  unfold wpList
  rw [if_pos (guardA_sound r hg)]
  refine .inl ?_
  have h1 := opd_sound r hx
  simp only [Rep] at h1
  obtain ⟨hok, _⟩ := r.heap.nth hp
  have hrd : Readable e w b o cells := fun j c hc => by
    obtain ⟨z, z1, z2, z3⟩ := hR _ _ hok j c hc
    exact ⟨z, z1, RepI.toRep c z2, z3⟩
  obtain ⟨v, g4, g3⟩ := load_sound X.ok hT hrd hl
  have hrun : (execOp a.eval ⟨some d, .load t x, ty, pos, aft, gd⟩).run P w = .ok (.value v) w := by
    simp only [execOp, h1, Instr.loadAt, Instr.sureAddr, Sem.run_bind, Sem.run_pure, Result.andThen_ok, g3 w (SameAs.refl w)]
  unfold Oper.wp
  rw [hrun]
  exact k _ _ _ Q (r.put hd g4) hq

def Writes (A : Abs) (b o : Nat) (x : AV) (A' : Abs) : Prop :=
  b ∈ A.bs ∧ A'.bs = A.bs ∧ ∀ (G : IM) (w : World) (v : Value), A.ok G w → RepI G x v → v.oneCell' = true →
    (w.cell? ⟨b, o, none⟩).isSome = true ∧ w.frozen? ⟨b, o, none⟩ = false ∧ A'.ok G (w.setCell ⟨b, o, none⟩ v)

theorem setCell_heap {w : World} {b o : Nat} {v : Value} {cur : Array Value} {t : TypeId} {fz : Nat × Nat} (h : w.heap[b]? = some (.cells cur t fz)) :
    (w.setCell ⟨b, o, none⟩ v).heap[b]? = some (.cells (cur.setIfInBounds o v) t fz) := by
  have hlt : b < w.heap.size := (Array.getElem?_eq_some_iff.1 h).1
  have hv : w.heap[b] = .cells cur t fz := (Array.getElem?_eq_some_iff.1 h).2
  simp [World.setCell, Array.getElem?_modify, h]
theorem setCell_other {w : World} {b o k : Nat} {v : Value} (h : k ≠ b) : (w.setCell ⟨b, o, none⟩ v).heap[k]? = w.heap[k]? := by
  simp [World.setCell, Array.getElem?_modify, Ne.symm h]
theorem setCell_size {w : World} {b o : Nat} {v : Value} : (w.setCell ⟨b, o, none⟩ v).heap.size = w.heap.size := by
  simp [World.setCell]

theorem writes_box {b : Nat} {t : TypeId} {cells : List AV} {o : Nat} {x : AV} (ho : o < cells.length) : Writes (boxA b t cells) b o x (boxA b t (cells.set o x)) := by
  refine ⟨by simp [boxA], rfl, ?_⟩
  rintro G w v ⟨arr, h1, h2⟩ hx hv
  have hl := RepIL.len h2
  have ho' : o < arr.size := by simp at hl; omega
  refine ⟨by simp [World.cell?, h1, ho'], by simp [World.frozen?, h1], arr.setIfInBounds o v, setCell_heap h1, ?_⟩
  refine RepIL.mk (by simpa using hl) (fun j c hc => ?_)
  rw [List.getElem?_set] at hc
  by_cases hj : o = j
  · subst hj
    rw [if_pos rfl, if_pos ho] at hc
    simp only [Option.some.injEq] at hc
    subst hc
    exact ⟨v, by simp [ho'], hx, hv⟩
  · rw [if_neg hj] at hc
    obtain ⟨z, z1, z2, z3⟩ := h2.get j c hc
    exact ⟨z, by simpa [hj] using z1, z2, z3⟩

theorem cells_oneV {v : Value} (h : v.oneCell' = true) : v.cells = #[v] := by
  cases v <;> first | rfl | cases h

theorem run_store1 {ρ : Operand → Value} {t : TypeId} {by_ : Nat} {z : List Value} {dd : TD} {b o : Nat} {v : Value} {ad xo : Operand} {ty : TypeId} {pos : String} {aft : Array Edge} {gd : Option (Nat × Bool)} (hok : TabOK P T) (hT : T t = some ⟨1, by_, false, z, dd⟩)
    (h1 : ρ ad = .pointer (some ⟨b, o, none⟩)) (h2 : ρ xo = v) (hv : v.oneCell' = true) (hc : (w.cell? ⟨b, o, none⟩).isSome = true) (hf : w.frozen? ⟨b, o, none⟩ = false) :
    (execOp ρ ⟨none, .store t ad xo, ty, pos, aft, gd⟩).run P w = .ok .skip (w.setCell ⟨b, o, none⟩ v) := by
  have hs := run_storeCells_cells (P := P) b o [v] 0 w (fun j hj => by
      simp at hj; subst hj; simpa using hc) (fun j hj => by simp at hj; subst hj; simpa using hf) (fun u hu => by simp at hu; subst hu; exact hv)
  simp only [Nat.add_zero, World.setCells] at hs
  simp only [execOp, Instr.storeAt, h1, h2, Instr.sureAddr, Sem.run_bind, Sem.run_pure, Result.andThen_ok, storeVar, hok.size hT, cells_oneV hv]
  simp [hs]

theorem Rel.absTurn (r : Rel X n e st a w) {p : Nat} {A A' : Abs} {cr : List Ch} {w' : World} (hp : nthA p st.c = some (A, cr)) (hbs : A'.bs = A.bs) (hok : A'.ok e.G w') (hoth : ∀ b, b ∉ A.bs → w'.heap[b]? = w.heap[b]?)
    (ho : w'.os = w.os ∧ w'.tape = w.tape ∧ w'.output = w.output) (hsz : w'.heap.size = w.heap.size) : Rel X n e ⟨st.s, .abs A' :: cr⟩ a w' := by
  have hperm : st.c.Perm ([A].map Ch.abs ++ cr) := by simpa using nthA_perm hp
  obtain ⟨_, h2, h3⟩ := r.heap.nth hp
  have hbl : ∀ B : Abs, blocks [B] = B.bs := fun B => by simp [blocks]
  have := Rel.swapAbs (G' := e.G) (w' := w') (As := [A]) (As' := [A']) (c := cr) r hperm (IM.le_refl _) ⟨?_, ?_⟩ ⟨fun b o v h => .inl h, fun b x h => .inl h⟩ ⟨?_, ?_, ?_⟩ (fun k hk => .inr ?_) ho (by rw [hsz]; exact Nat.le_refl _) (fun k hk hnin _ => hoth k (by rw [hbl] at hnin; exact hnin))
  · simpa using this
  · intro k oo v' h
    have h1 := r.im k oo v' h
    simp only [World.cell?] at h1 ⊢
    rw [hoth k (fun hk => by rw [(h2 k hk).2.2.1 oo] at h; cases h)]
    exact h1
  · exact r.mzKeep (fun b hb hf => hoth b (fun hk => hf (h2 b hk).2.2))
  · intro B hB
    simp only [List.mem_singleton] at hB
    subst hB
    exact hok
  · rw [hbl, hbs]; exact h3
  · intro k hk
    rw [hbl, hbs] at hk
    obtain ⟨q1, q2, q3⟩ := h2 k hk
    exact ⟨by rw [hsz]; exact q1, q3⟩
  · rw [hbl, hbs] at hk; rw [hbl]; exact hk

theorem Rel.absWrite (r : Rel X n e ⟨st.s, st.c⟩ a w) {p : Nat} {A A' : Abs} {cr : List Ch} {b o : Nat} {v : Value} (hp : nthA p st.c = some (A, cr)) (hb : b ∈ A.bs) (hbs : A'.bs = A.bs) (hok : A'.ok e.G (w.setCell ⟨b, o, none⟩ v)) :
    Rel X n e ⟨st.s, .abs A' :: cr⟩ a (w.setCell ⟨b, o, none⟩ v) :=
  r.absTurn (st := ⟨st.s, st.c⟩) hp hbs hok (fun k hk => setCell_other (fun he => hk (by subst he; exact hb))) ⟨rfl, rfl, rfl⟩ setCell_size

theorem HeapOK.retell {c c' : Ch} {r : List Ch} (h : HeapOK X e w (c :: r)) (hc : ∀ bs, ChOK e w c bs → ChOK e w c' bs) : HeapOK X e w (c' :: r) := by
  obtain ⟨pl, h1, h2, h3, h4⟩ := h
  cases pl with
  | nil => simp at h1
  | cons p pl =>
    simp only [List.map_cons, List.cons.injEq] at h1
    have hp := h2 p (List.mem_cons_self ..)
    rw [h1.1] at hp
    refine ⟨(c', p.2) :: pl, by simp [h1.2], ?_, by simpa using h3, by simpa using h4⟩
    intro q hq
    rcases List.mem_cons.1 hq with rfl | hq
    · exact hc _ hp
    · exact h2 q (List.mem_cons_of_mem _ hq)

theorem Rel.boxAbs {s : List (Nat × AV)} {c cr : List Ch} (r : Rel X n e ⟨s, c⟩ a w) {i k kk o : Nat} {t : TypeId} {cells : List AV} (hi : get s i = some (.bp k o)) (hk : takeCh k c = some (.box kk t cells, cr)) (himm : AV.imm.immL cells = true) :
    ∃ b, Rel X n e ⟨(i, PT b o) :: s, .abs (boxA b t cells) :: cr⟩ a w := by
  have hkk : kk = k := kid_of_take hk
  subst hkk
  obtain ⟨v, h1, h2⟩ := r.slots i _ hi
  simp only [Rep] at h2
  subst h2
  refine ⟨e.μ kk, { r with slots := ?_, heap := ?_ }⟩
  · intro j x hx
    rw [get_cons] at hx
    by_cases hij : i = j
    · subst hij
      simp only [if_true, Option.some.injEq] at hx
      subst hx
      exact ⟨_, h1, by simp only [Rep]⟩
    · rw [if_neg hij] at hx
      exact r.slots j x hx
  · refine HeapOK.retell (r.heap.perm (takeCh_perm hk)) ?_
    rintro bs ⟨rfl, arr, g1, g2⟩
    exact ⟨rfl, arr, g1, RepL.toI cells himm g2⟩

theorem Rel.vecAbs {s : List (Nat × AV)} {c cr : List Ch} (r : Rel X n e ⟨s, c⟩ a w) {i k kk : Nat} {t : TypeId} {esz m : Nat} {row : Nat → List AV} (hi : get s i = some (.own k)) (hk : takeCh k c = some (.vec kk t esz m row, cr)) :
    (m = 0 ∧ Rel X n e ⟨(i, .v (.slice none 0 0)) :: s, cr⟩ a w) ∨ ∃ g cc, Rel X n e ⟨(i, .v (HD g m cc)) :: s, .abs (vecA (HD g m cc) t esz m row) :: cr⟩ a w := by
  have hkk : kk = k := kid_of_take hk
  subst hkk
  obtain ⟨v, h1, h2⟩ := r.slots i _ hi
  simp only [Rep] at h2
  obtain ⟨rfl, _⟩ := h2
  have hh := r.heap.perm (takeCh_perm hk)
  have slots : ∀ x, e.hd kk = x → ∀ j y, get ((i, .v x) :: s) j = some y → ∃ v, a.tmps[j]? = some v ∧ Rep e y v := by
    intro x hx0 j y hx
    rw [get_cons] at hx
    by_cases hij : i = j
    · subst hij
      simp only [if_true, Option.some.injEq] at hx
      subst hx
      exact ⟨_, h1, by simp only [Rep]; exact hx0⟩
    · rw [if_neg hij] at hx
      exact r.slots j y hx
  obtain ⟨bs, ⟨hbs, xs, g1, g2⟩, _, hgood⟩ := hh.head
  rcases g1.2 with ⟨hnil, hm⟩ | ⟨g, cap, cur, hsl, _⟩
  · exact .inl ⟨hm, { r with slots := slots _ hnil, heap := hh.drop }⟩
  · refine .inr ⟨g, cap, { r with slots := slots _ hsl, heap := ?_ }⟩
    refine HeapOK.retell hh ?_
    rintro bs' ⟨rfl, xs', k1, k2⟩
    rw [hsl] at k1 ⊢
    exact ⟨rfl, xs', k1, k2⟩

theorem C_absb {Q : Exit → St → Prop} {cd : Code} {s : List (Nat × AV)} {c cr : List Ch} (i : Nat) {k kk o : Nat} {t : TypeId} {cells : List AV} (hi : get s i = some (.bp k o)) (hk : takeCh k c = some (.box kk t cells, cr)) (himm : AV.imm.immL cells = true)
    (h : ∀ b, SymC X n cd ⟨(i, PT b o) :: s, .abs (boxA b t cells) :: cr⟩ Q) : SymC X n cd ⟨s, c⟩ Q := fun e a w r => by
  obtain ⟨b, r'⟩ := r.boxAbs hi hk himm
  exact h b e a w r'
theorem O_absb {l : List Oper} {s : List (Nat × AV)} {c cr : List Ch} (i : Nat) {k kk o : Nat} {t : TypeId} {cells : List AV} (hi : get s i = some (.bp k o)) (hk : takeCh k c = some (.box kk t cells, cr)) (himm : AV.imm.immL cells = true)
    (h : ∀ b, SymO X n ops l ⟨(i, PT b o) :: s, .abs (boxA b t cells) :: cr⟩ K) : SymO X n ops l ⟨s, c⟩ K := fun e a w Q r => by
  obtain ⟨b, r'⟩ := r.boxAbs hi hk himm
  exact h b e a w Q r'
theorem C_absv {Q : Exit → St → Prop} {cd : Code} {s : List (Nat × AV)} {c cr : List Ch} (i : Nat) {k kk : Nat} {t : TypeId} {esz m : Nat} {row : Nat → List AV} (hi : get s i = some (.own k)) (hk : takeCh k c = some (.vec kk t esz m row, cr))
    (h0 : m = 0 → SymC X n cd ⟨(i, .v (.slice none 0 0)) :: s, cr⟩ Q) (h : ∀ g cc, SymC X n cd ⟨(i, .v (HD g m cc)) :: s, .abs (vecA (HD g m cc) t esz m row) :: cr⟩ Q) : SymC X n cd ⟨s, c⟩ Q := fun e a w r => by
  rcases r.vecAbs hi hk with ⟨hm, r'⟩ | ⟨g, cc, r'⟩
  · exact h0 hm e a w r'
  · exact h g cc e a w r'

end
end Go.Sy

namespace Go.Sy
open Go.RowKit

theorem repI_nil {G : IM} {esz : Nat} {row : Nat → List AV} {y : Value} (h : RepI G (.v (.slice none 0 0)) y) : RepI G (.sl 0 esz row) y := by
  simp only [RepI] at h ⊢
  exact ⟨none, 0, h, Nat.le_refl _, by simp⟩

section
variable {P : Program} {T : Tab} {X : Ctx P T} {n : Nat} {e : Env} {st : St} {a : Act} {w : World} {ops : Array Oper} {K : St → Prop}

theorem Le.perm {s s2 : List (Nat × AV)} {c c2 : List Ch} (cr : List Ch) (hs : subS s2 s) (hc : c.Perm (cr ++ c2)) : Le X n ⟨s, c⟩ ⟨s2, c2⟩ := by
  intro e a w r
  refine ⟨e, r.less (fun i x h => subS_get hs i x h) (fun h => ?_)⟩
  have h2 := h.perm hc
  clear hc
  induction cr with
  | nil => exact h2
  | cons d cr ih => exact ih h2.drop

end
end Go.Sy

namespace Go.Sy
open Go.RowKit

section
variable {P : Program} {T : Tab} {X : Ctx P T} {n : Nat} {e : Env} {st : St} {a : Act} {w : World} {ops : Array Oper} {K : St → Prop}

end
end Go.Sy

namespace Go.Sy
open Go.RowKit

section
variable {P : Program} {T : Tab} {X : Ctx P T} {n : Nat} {e : Env} {st : St} {a : Act} {w : World} {ops : Array Oper} {K : St → Prop}

end
end Go.Sy

set_option linter.unusedSectionVars false
namespace Go.Sy
open Go.RowKit

section
variable {P : Program} {T : Tab} {X : Ctx P T} {n : Nat} {e : Env} {st : St} {a : Act} {w : World} {ops : Array Oper} {K : St → Prop}

abbrev NIL : AV := .v (.slice none 0 0)
inductive subA : AV → AV → Prop
  | refl {x : AV} : subA x x
  | nil {esz : Nat} {row : Nat → List AV} : subA NIL (.sl 0 esz row)
  | row {m esz : Nat} {r1 r2 : Nat → List AV} : (∀ i, i < m → r1 i = r2 i) → subA (.sl m esz r1) (.sl m esz r2)
theorem subA_R {e : Env} {x y : AV} (h : subA x y) {v : Value} (r : Rep e x v) : Rep e y v := by
  cases h with
  | refl => exact r
  | nil => exact Rep.nilsl r
  | row h => exact Rep.slrow h r

theorem Le.one {s : List (Nat × AV)} {c : List Ch} (i : Nat) {x : AV} (y : AV) (hi : get s i = some x) (h : subA x y) : Le X n ⟨s, c⟩ ⟨(i, y) :: s, c⟩ :=
  Le.conv i hi (fun e v r => subA_R h r)

theorem D_case {base : List (Nat × AV)} {c : List Ch} {l : List Oper} {done : Done} (i : Nat) {d : Option Nat} {b : Bool} (hi : done[i]? = some (d, .v (.bool b)))
    (ht : b = true → normG (done.set i (d, .v (.bool true))) (fun done => SymD X n ops base c K l done))
    (hf : b = false → normG (done.set i (d, .v (.bool false))) (fun done => SymD X n ops base c K l done)) : SymD X n ops base c K l done := by
  have key : done.set i (d, .v (.bool b)) = done := by
    apply List.ext_getElem?
    intro j
    rw [List.getElem?_set]
    split
    · rename_i h; subst h
      split
      · exact hi.symm
      · rename_i h; rw [List.getElem?_eq_none (by omega)] at hi; cases hi
    · rfl
  cases hb : b with
  | true => have := ht hb; rw [normG_eq] at this; rw [hb] at key; rwa [key] at this
  | false => have := hf hb; rw [normG_eq] at this; rw [hb] at key; rwa [key] at this
theorem C_join {Q : Exit → St → Prop} {c : Code} (s2 : St) (h1 : SymC X n c st (fun ex s => match ex with
      | .normal => Le X n s s2
      | ex => Q ex s)) (h2 : ∀ s, Le X n s s2 → Q .normal s) : SymC X n c st Q := by
  refine h1.mono (fun ex s h => ?_)
  cases ex with
  | normal => exact h2 s h
  | exit id => exact h
  | goto l => exact h
  | ret => exact h
  | panic ch => exact h
  | outgrown => exact h
theorem C_joinP {Q : Exit → St → Prop} {c : Code} (s2 : St) (p : Prop) (h1 : SymC X n c st (fun ex s => match ex with
      | .normal => Le X n s s2 ∧ p
      | ex => Q ex s)) (h2 : ∀ s, Le X n s s2 → p → Q .normal s) : SymC X n c st Q := by
  refine h1.mono (fun ex s h => ?_)
  cases ex with
  | normal => exact h2 s h.1 h.2
  | exit id => exact h
  | goto l => exact h
  | ret => exact h
  | panic ch => exact h
  | outgrown => exact h
end
end Go.Sy

namespace Go.Sy
open Go.RowKit

section
variable {P : Program} {T : Tab} {X : Ctx P T} {n : Nat} {e : Env} {st : St} {a : Act} {w : World} {ops : Array Oper} {K : St → Prop}

def predsB (ops : Array Oper) (i : Nat) : List Nat := match ops.toList[i]? with
  | none => []
  | some o => (o.after.toList.filter (fun e => Region.binds .any e)).map (·.on)
def ancsB (ops : Array Oper) : Nat → Nat → List Nat
  | 0, _ => []
  | f + 1, i => (predsB ops i).flatMap (fun j => j :: ancsB ops f j)
def tailB (ops : Array Oper) (f m : Nat) : Bool :=
  Nat.blt m ops.toList.length && (List.range m).all (fun j => (ancsB ops f m).contains j) && (List.range (ops.toList.length - m - 1)).all (fun k => (predsB ops (m + 1 + k)).contains (m + k))

theorem mem_preds {i j : Nat} (h : j ∈ predsB ops i) : ∃ o, ops[i]? = some o ∧ ∃ e ∈ o.after, Region.binds .any e = true ∧ e.on = j := by
  unfold predsB at h
  split at h
  · cases h
  · rename_i o ho
    simp only [List.mem_map, List.mem_filter] at h
    obtain ⟨e, ⟨h1, h2⟩, h3⟩ := h
    exact ⟨o, by simpa using ho, e, by simpa using h1, h2, h3⟩

def ClosedL (ops : Array Oper) (listed : Array Bool) : Prop := ∀ j o, listed.getD j false = true → ops[j]? = some o → ∀ e ∈ o.after, Region.binds .any e = true → listed.getD e.on false = true

theorem ancs_listed {listed : Array Bool} (hc : ClosedL ops listed) : ∀ (f i : Nat), (∀ j ∈ predsB ops i, listed.getD j false = true) → ∀ j ∈ ancsB ops f i, listed.getD j false = true
  | 0, _, _, j, h => by cases h
  | f + 1, i, hp, j, h => by
    simp only [ancsB, List.mem_flatMap, List.mem_cons] at h
    obtain ⟨k, hk, h⟩ := h
    rcases h with rfl | h
    · exact hp _ hk
    · refine ancs_listed hc f k (fun q hq => ?_) j h
      obtain ⟨o, ho, e, he, hb, rfl⟩ := mem_preds hq
      exact hc k o (hp k hk) ho e he hb

theorem any_tail {Q : Exit → Act → World → Prop} {m f : Nat} (ht : tailB ops f m = true) (hedge : ∀ i o, ops[i]? = some o → ∀ e ∈ o.after, Region.binds .any e = true → e.on < i) : ∀ (fuel i : Nat) (listed : Array Bool) (a : Act) (w : World), fuel + i = ops.size → m ≤ i → listed.size = ops.size →
    (∀ j, j < ops.size → (listed.getD j false = true ↔ j < i)) → wpList P ops Q (ops.toList.drop i) a w → wpAny P .any ops Q fuel listed a w := by
  have ht' := ht
  unfold tailB at ht'
  simp only [Bool.and_eq_true, List.all_eq_true, List.mem_range, Array.length_toList] at ht'
  obtain ⟨⟨hm, _⟩, hch⟩ := ht'
  intro fuel
  induction fuel with
  | zero =>
    intro i listed a w hf hi hsz hl hw
    have hi' : i = ops.size := by omega
    subst hi'
    refine ⟨?_, ?_⟩
    · cases hr : Region.ready .any ops listed with
      | nil => rfl
      | cons j js =>
        exfalso
        have hmem : j ∈ Region.ready .any ops listed := by rw [hr]; simp
        rw [mem_ready] at hmem
        obtain ⟨h0, o, ho, _⟩ := hmem
        have hlt : j < ops.size := (Array.getElem?_eq_some_iff.1 ho).1
        have := (hl j hlt).2 hlt
        have hls : j < listed.size := by omega
        simp [hls] at h0 this
        rw [h0] at this; cases this
    · rw [List.drop_eq_nil_of_le (by simp)] at hw
      simpa [wpList] using hw
  | succ fuel ih =>
    intro i listed a w hf hi hsz hl hw
    have hil : i < ops.size := by omega
    have hready : ∀ j ∈ Region.ready .any ops listed, j = i := by
      intro j hj
      rw [mem_ready] at hj
      obtain ⟨h0, o, ho, hp⟩ := hj
      have hlt : j < ops.size := (Array.getElem?_eq_some_iff.1 ho).1
      have hls : j < listed.size := by omega
      have hge : i ≤ j := by
        rcases Nat.lt_or_ge j i with h | h
        · have := (hl j hlt).2 h
          simp [hls] at h0 this
          rw [h0] at this; cases this
        · exact h
      rcases Nat.eq_or_lt_of_le hge with h | h
      · exact h.symm
      · exfalso
        have hc := hch (j - m - 1) (by omega)
        rw [show m + 1 + (j - m - 1) = j by omega, show m + (j - m - 1) = j - 1 by omega, List.contains_iff_mem] at hc
        obtain ⟨o', ho', e, he, hb, hon⟩ := mem_preds hc
        rw [ho] at ho'
        cases ho'
        have := hp e he hb
        rw [hon] at this
        have := (hl (j - 1) (by omega)).1 this
        omega
    have hlen : i < ops.toList.length := by simpa using hil
    rw [List.drop_eq_getElem_cons hlen] at hw
    have hoi : ops[i]? = some (ops.toList[i]) := by simp [hil]
    refine ⟨fun hr => ?_, fun j hj => ?_⟩
    · exfalso
      have hmem : i ∈ Region.ready .any ops listed := by
        rw [mem_ready]
        have hls : i < listed.size := by omega
        refine ⟨?_, _, hoi, fun e he hb => ?_⟩
        · cases h : listed.getD i false with
          | true => exact absurd ((hl i hil).1 h) (Nat.lt_irrefl _)
          | false => simp [hls] at h ⊢; exact h
        · have h1 := hedge i _ hoi e he hb
          exact (hl e.on (by omega)).2 h1
      rw [hr] at hmem; cases hmem
    · obtain rfl := hready j hj
      have hnext : ∀ a w, wpList P ops Q (ops.toList.drop (j + 1)) a w → wpAny P .any ops Q fuel (listed.setIfInBounds j true) a w := fun a w hw => by
        refine ih (j + 1) _ a w (by omega) (by omega) (by simpa using hsz) (fun k hk => ?_) hw
        by_cases hkj : k = j
        · subst hkj
          have hls : k < listed.size := by omega
          simp [hls]
        · rw [getD_set_ne false (Ne.symm hkj), hl k hk]
          omega
      unfold wpOp
      rw [hoi]
      simp only [wpList] at hw ⊢
      split
      · rename_i hwt
        rw [if_pos hwt] at hw
        exact hw.imp (Oper.wp_mono hnext) id
      · rename_i hwt
        rw [if_neg hwt] at hw
        exact hnext _ _ hw

theorem any_of_DT {base : List (Nat × AV)} {c : List Ch} {D : Done} {Q : QX X} {m f : Nat} (ht : tailB ops f m = true) (hD : D.length = m)
    (hstep : ∀ i o, i < m → ops[i]? = some o → ∃ x, D[i]? = some (o.dst, x) ∧ StepD X n ops (availL (D.take i) o.after.toList base) c o x)
    (hedge : ∀ i o, ops[i]? = some o → ∀ e ∈ o.after, Region.binds .any e = true → e.on < i)
    (hdist : ∀ (i j : Nat) o o' d, ops[i]? = some o → ops[j]? = some o' → o.dst = some d → o'.dst = some d → i = j)
    (hbase : ∀ (i : Nat) o d, ops[i]? = some o → o.dst = some d → get base d = none)
    (hfin : ∀ e a w, Rel X n e ⟨finS base D, c⟩ a w → wpList P ops Q (ops.toList.drop m) a w) :
    ∀ (fuel : Nat) (listed : Array Bool) (a : Act) (w : World) (e : Env) (S : List (Nat × AV)), listed.size = ops.size → listed.toList.count false = fuel → Rel X n e ⟨S, c⟩ a w →
      (∀ j, m ≤ j → listed.getD j false = false) → ClosedL ops listed →
      (∀ k y, get base k = some y → get S k = some y) → (∀ (i : Nat) d x, listed.getD i false = true → D[i]? = some (some d, x) → get S d = some x) →
      wpAny P .any ops Q fuel listed a w := by
  have ht' := ht
  unfold tailB at ht'
  simp only [Bool.and_eq_true, List.all_eq_true, List.mem_range, Array.length_toList] at ht'
  obtain ⟨⟨hm, hcov⟩, hch⟩ := ht'
  have hm' : m < ops.size := by have h := hm; simp [Nat.blt] at h; omega
  have cnt : ∀ (l : List Bool) (k : Nat), k ≤ l.length → (∀ j, j < l.length → (l[j]? = some true ↔ j < k)) → l.count false + k = l.length := by
    intro l
    induction l with
    | nil => intro k hk _; simp at hk; simp [hk]
    | cons b l ih =>
      intro k hk h
      cases k with
      | zero =>
        have hb : b = false := by
          have := h 0 (by simp)
          cases b
          · rfl
          · simp at this
        subst hb
        have := ih 0 (Nat.zero_le _) (fun j hj => by have := h (j + 1) (by simpa using hj); simpa using this)
        simp at this ⊢; omega
      | succ k =>
        have hb : b = true := by
          have := h 0 (by simp)
          simpa using this
        subst hb
        have := ih k (by simpa using hk) (fun j hj => by have := h (j + 1) (by simpa using hj); simpa using this)
        simp at this ⊢; omega
  intro fuel
  induction fuel with
  | zero =>
    intro listed a w e S hsz hc r hge hcl hb hs
    exfalso
    have h1 := hge m (Nat.le_refl _)
    have hls : m < listed.size := by omega
    have : false ∈ listed.toList := by
      simp [hls] at h1
      exact List.mem_iff_getElem.2 ⟨m, by simpa using hls, by simpa using h1⟩
    have := List.count_pos_iff.2 this
    omega
  | succ fuel ih =>
    intro listed a w e S hsz hc r hge hcl hb hs
    by_cases hall : ∀ j, j < m → listed.getD j false = true
    · -- all that is drawn is done
      have hlt : ∀ j, j < ops.size → (listed.getD j false = true ↔ j < m) := fun j hj => by
        constructor
        · intro h
          rcases Nat.lt_or_ge j m with h1 | h1
          · exact h1
          · rw [hge j h1] at h; cases h
        · exact hall j
      have hcount : listed.toList.count false + m = ops.size := by
        have := cnt listed.toList m (by simp; omega) (fun j hj => by
          have hjl : j < listed.size := by simpa using hj
          have := hlt j (by omega)
          simp [hjl] at this ⊢
          exact this)
        simpa [hsz] using this
      refine any_tail ht hedge (fuel + 1) m listed a w (by omega) (Nat.le_refl _) hsz hlt ?_
      refine hfin e a w (r.less (fun k y hk => ?_) id)
      rcases finS_get hk with ⟨i, hi⟩ | h
      · have hil : i < D.length := by
          rcases Nat.lt_or_ge i D.length with h | h
          · exact h
          · rw [List.getElem?_eq_none h] at hi; cases hi
        exact hs i k y (hall i (by omega)) hi
      · exact hb k y h
    -- what may come up now is drawn
    have hlow : ∀ i ∈ Region.ready .any ops listed, i < m := by
      intro i hi
      rw [mem_ready] at hi
      obtain ⟨h0, o, ho, hpre⟩ := hi
      rcases Nat.lt_or_ge i m with h | h
      · exact h
      · exfalso
        have hlt : i < ops.size := (Array.getElem?_eq_some_iff.1 ho).1
        rcases Nat.eq_or_lt_of_le h with h | h
        · subst h
          refine hall (fun j hj => ?_)
          have hc := hcov j hj
          rw [List.contains_iff_mem] at hc
          refine ancs_listed hcl f m (fun q hq => ?_) j hc
          obtain ⟨o', ho', ed, he, hbb, rfl⟩ := mem_preds hq
          rw [ho] at ho'; cases ho'
          exact hpre ed he hbb
        · have hc := hch (i - m - 1) (by omega)
          rw [show m + 1 + (i - m - 1) = i by omega, show m + (i - m - 1) = i - 1 by omega, List.contains_iff_mem] at hc
          obtain ⟨o', ho', ed, he, hbb, hon⟩ := mem_preds hc
          rw [ho] at ho'; cases ho'
          have := hpre ed he hbb
          rw [hon, hge (i - 1) (by omega)] at this
          cases this
    refine ⟨fun hr => ?_, fun i hi => ?_⟩
    · exfalso
      refine hall (fun j => ?_)
      induction j using Nat.strongRecOn with
      | ind j ihj =>
        intro hj
        cases hl : listed.getD j true with
        | true =>
          have : j < listed.size := by omega
          simp [this] at hl ⊢
          exact hl
        | false =>
          exfalso
          have hmem : j ∈ Region.ready .any ops listed := by
            rw [mem_ready]
            refine ⟨hl, ops[j], by simp [show j < ops.size by omega], fun e he hbb => ?_⟩
            have h1 := hedge j ops[j] (by simp [show j < ops.size by omega]) e he hbb
            exact ihj e.on h1 (by omega)
          rw [hr] at hmem; cases hmem
    · have him := hlow i hi
      rw [mem_ready] at hi
      obtain ⟨h0, o, ho, hpre⟩ := hi
      have hlt : i < ops.size := (Array.getElem?_eq_some_iff.1 ho).1
      have hlf : listed.toList[i]? = some false := by
        have : i < listed.size := by omega
        simp [this] at h0 ⊢
        exact h0
      obtain ⟨x, hx, hst⟩ := hstep i o him ho
      unfold wpOp
      simp only [ho]
      refine hst e a w S _ Q r (fun k y hk => ?_) (fun e' a' w' r' => ?_)
      · rcases availL_get hk with ⟨ed, h1, h2, h3⟩ | h
        · have h4 : D[ed.on]? = some (some k, y) := by
            rw [List.getElem?_take] at h3
            split at h3
            · exact h3
            · cases h3
          exact hs ed.on k y (hpre ed (by simpa using h1) h2) h4
        · exact hb k y h
      · refine ih (listed.setIfInBounds i true) a' w' e' _ (by simpa using hsz) ?_ r' (fun j hj => ?_) (fun j oj hj hoj ed he hbb => ?_) (fun k y hk => ?_) (fun j d y hj hy => ?_)
        · rw [Array.toList_setIfInBounds]
          have hlt' : i < listed.toList.length := by simpa using (by omega : i < listed.size)
          have hg : listed.toList[i] = false := by
            have := List.getElem?_eq_getElem hlt'
            rw [hlf] at this
            simpa using this.symm
          rw [List.count_set hlt', hg, hc]
          simp
        · rw [getD_set_ne false (by omega : i ≠ j)]
          exact hge j hj
        · by_cases hei : ed.on = i
          · have hls : i < listed.size := by omega
            rw [hei]; simp [hls]
          · rw [getD_set_ne false (Ne.symm hei)]
            by_cases hji : j = i
            · subst hji
              rw [ho] at hoj; cases hoj
              exact hpre ed he hbb
            · rw [getD_set_ne false (Ne.symm hji)] at hj
              exact hcl j oj hj hoj ed he hbb
        · cases hd : o.dst with
          | none => exact hb k y hk
          | some d =>
            simp only [putS]
            rw [get_cons]
            by_cases h : d = k
            · subst h
              rw [hbase i o d ho hd] at hk
              cases hk
            · rw [if_neg h]; exact hb k y hk
        · by_cases hji : j = i
          · subst hji
            rw [hx] at hy
            simp only [Option.some.injEq, Prod.mk.injEq] at hy
            rw [hy.1, hy.2]
            simp only [putS]
            rw [get_cons, if_pos rfl]
          · rw [getD_set_ne false (Ne.symm hji)] at hj
            have hold := hs j d y hj hy
            cases hd : o.dst with
            | none => exact hold
            | some d' =>
              simp only [putS]
              rw [get_cons]
              by_cases h : d' = d
              · exfalso
                subst h
                have hjl : j < m := by
                  rw [← hD]
                  rcases Nat.lt_or_ge j D.length with h | h
                  · exact h
                  · rw [List.getElem?_eq_none h] at hy; cases hy
                obtain ⟨x', hx', _⟩ := hstep j ops[j] hjl (by simp [show j < ops.size by omega])
                rw [hx'] at hy
                simp only [Option.some.injEq, Prod.mk.injEq] at hy
                exact hji (hdist j i ops[j] o d' (by simp [show j < ops.size by omega]) ho hy.1 hd)
              · rw [if_neg h]; exact hold

theorem C_drawT (f m : Nat) {id : Nat} {Q : Exit → St → Prop} {s base : List (Nat × AV)} {c : List Ch} (hb : eraseD ops.toList s = some base) (hchk : chkD base 0 [] ops.toList = true)
    (ht : tailB ops f m = true) (h : SymD X n ops base c (fun s => SymO X n ops (ops.toList.drop m) s (fun s => Q .normal s)) (ops.toList.take m) []) : SymC X n (.region id ops true) ⟨s, c⟩ Q := by
  intro e a w r
  have hbs : ∀ k y, get base k = some y → get s k = some y := fun k y hk => eraseD_get hb hk
  obtain ⟨D, _, hl, hK, hs⟩ := h.plan
  obtain ⟨c1, c2⟩ := chkD_spec hchk
  have hbel : Below w.heap.size w { w with drawn := w.drawn + 1 } := ⟨rfl, rfl, rfl, Nat.le_refl _, fun _ _ => rfl⟩
  have hm : m < ops.size := by
    unfold tailB at ht
    simp only [Bool.and_eq_true] at ht
    have h1 := ht.1.1
    simp [Nat.blt] at h1; omega
  refine wp_region_any X.wide ?_
  refine any_of_DT (X := X) (Q := concX X n Q) (n := n) (base := base) (c := c) (D := D) (f := f) (m := m) ht (by simp at hl; omega) (fun i o him ho => ?_) (fun i o ho => ?_) (fun i j o o' d hi hj => c2 i j o o' d (by simpa using hi) (by simpa using hj)) (fun i o d ho hd => ((c1 i o (by simpa using ho)).2 d hd).1)
    (fun e a w r => hK e a w (concX X n Q) r fun e' st' _ _ hk hr => ⟨e', st', hr, hk⟩) _ _ a _ e base (by simp) (by simp) ((r.below hbel).less hbs (fun h => h)) (fun j hj => ?_) (fun j o hj => ?_) (fun k y hk => hk) (fun i d x hi => ?_)
  · have := hs i o (by rw [List.getElem?_take, if_pos him]; simpa using ho)
    simpa using this
  · simpa using (c1 i o (by simpa using ho)).1
  · rcases Nat.lt_or_ge j ops.size with h | h
    · simp [h]
    · simp [Nat.not_lt.2 h]
  · rcases Nat.lt_or_ge j ops.size with h | h
    · simp [h] at hj
    · simp [Nat.not_lt.2 h] at hj
  · rcases Nat.lt_or_ge i ops.size with h | h
    · simp [h] at hi
    · simp [Nat.not_lt.2 h] at hi
end
end Go.Sy

namespace Go.Sy
open Go.RowKit

def AV.noO (k : Nat) : AV → Bool
  | .own j => j != k
  | .ep j _ _ _ => j != k
  | .agg cs => noOL k cs
  | .tup cs => noOL k cs
  | .clo _ cs => noOL k cs
  | .ifc _ x => AV.noO k x
  | _ => true
where noOL (k : Nat) : List AV → Bool
  | [] => true
  | c :: cs => AV.noO k c && noOL k cs

section
variable {P : Program} {T : Tab} {X : Ctx P T} {n : Nat} {e : Env} {st : St} {a : Act} {w : World} {ops : Array Oper} {K : St → Prop}

abbrev RenM := List (Nat × Nat)

end
end Go.Sy

namespace Go.Sy
open Go.RowKit

structure Pl where
  A : List (List Nat)
  E : List Nat
  cre : List (Nat × Nat)
  ki : List (Nat × Nat)

def Pl.anc (p : Pl) (i : Nat) : List Nat := p.A.getD i []
def Pl.ancB (p : Pl) (ops : Array Oper) : Bool :=
  (List.range ops.toList.length).all fun i => (p.anc i).all fun a => (predsB ops i).contains a || (predsB ops i).any fun q => (p.anc q).contains a
def Pl.creB (p : Pl) (i : Nat) (x : AV) : Bool := p.cre.all fun q => Nat.beq q.1 i || (p.anc i).contains q.1 || x.no q.2
def Pl.okV (p : Pl) (r : Nat) (x : AV) : Bool := p.ki.all fun q => x.noO q.2 || Nat.beq r q.1 || (p.anc q.1).contains r
def Pl.ends (p : Pl) (x : AV) : Bool := p.ki.all fun q => x.noO q.2
def Pl.baseB (p : Pl) : List (Nat × AV) → Bool
  | [] => true
  | (_, x) :: r => (p.cre.all fun q => x.no q.2) && (p.ki.all fun q => x.noO q.2) && p.baseB r

def availX (p : Pl) (r : Nat) (done : Done) : List Edge → List (Nat × AV) → List (Nat × AV)
  | [], base => base
  | e :: es, base => match Region.binds .any e, done[e.on]? with
    | true, some (some d, x) => (match p.okV r x with
      | true => (d, x) :: availX p r done es base
      | false => availX p r done es base)
    | _, _ => availX p r done es base
def killD (p : Pl) : Done → Done
  | [] => []
  | (d, x) :: r => match p.ends x with
    | true => (d, x) :: killD p r
    | false => (none, x) :: killD p r

theorem availX_get {p : Pl} {r : Nat} {done : Done} {base : List (Nat × AV)} : ∀ {es : List Edge} {k : Nat} {y : AV}, get (availX p r done es base) k = some y →
    (∃ e ∈ es, Region.binds .any e = true ∧ done[e.on]? = some (some k, y) ∧ p.okV r y = true) ∨ get base k = some y
  | [], k, y, h => .inr h
  | e :: es, k, y, h => by
    have rec_ : get (availX p r done es base) k = some y → (∃ e' ∈ e :: es, Region.binds .any e' = true ∧ done[e'.on]? = some (some k, y) ∧ p.okV r y = true) ∨ get base k = some y := fun h => by
      rcases availX_get h with ⟨e', h1, h2⟩ | h1
      · exact .inl ⟨e', by simp [h1], h2⟩
      · exact .inr h1
    simp only [availX] at h
    split at h
    · rename_i d x hb hd
      split at h
      · rename_i hok
        rw [get_cons] at h
        by_cases hk : d = k
        · rw [if_pos hk] at h
          cases h
          subst hk
          exact .inl ⟨e, by simp, hb, hd, hok⟩
        · rw [if_neg hk] at h
          exact rec_ h
      · exact rec_ h
    · exact rec_ h
theorem killD_get {p : Pl} : ∀ {D : Done} {i : Nat} {d : Nat} {x : AV}, (killD p D)[i]? = some (some d, x) → D[i]? = some (some d, x) ∧ p.ends x = true
  | [], i, d, x, h => by simp [killD] at h
  | (d', x') :: r, i, d, x, h => by
    simp only [killD] at h
    cases i with
    | zero =>
      split at h
      · rename_i he
        simp only [List.getElem?_cons_zero, Option.some.injEq, Prod.mk.injEq] at h
        obtain ⟨rfl, rfl⟩ := h
        exact ⟨rfl, he⟩
      · simp at h
    | succ i =>
      have : (killD p r)[i]? = some (some d, x) := by split at h <;> simpa using h
      simpa using killD_get this

section
variable {P : Program} {T : Tab} {X : Ctx P T} {n : Nat} {e : Env} {st : St} {a : Act} {w : World} {ops : Array Oper} {K : St → Prop}

def UpdX (p : Pl) (i : Nat) (dst : Option Nat) (x : AV) (S S' : List (Nat × AV)) : Prop :=
  (∀ d, dst = some d → get S' d = some x) ∧
  (∀ k y, dst ≠ some k → get S k = some y → (∀ q ∈ p.ki, q.1 = i → y.noO q.2 = true) → get S' k = some y) ∧
  (∀ k y, get S' k = some y → (dst = some k ∧ y = x) ∨ get S k = some y ∨ y = .bad)

def StepX {P : Program} {T : Tab} (X : Ctx P T) (n : Nat) (ops : Array Oper) (p : Pl) (Si : List (Nat × AV)) (c c2 : List Ch) (i : Nat) (o : Oper) (x : AV) : Prop :=
  ∀ e a w S (K : Act → World → Prop) (Q : QX X), Rel X n e ⟨S, c⟩ a w → (∀ k y, get Si k = some y → get S k = some y) →
    (∀ k y, get S k = some y → ∀ q ∈ p.cre, q.1 = i → y.no q.2 = true) →
    (∀ e' a' w' S', Rel X n e' ⟨S', c2⟩ a' w' → UpdX p i o.dst x S S' → K a' w') →
    if Region.wanted o (yielded ops a.tmps) then o.wp P a w K Q ∨ (o.asks P a w ∧ LetsOut Q) else K (a.put o.dst undef) w

theorem UpdX.put {p : Pl} {i : Nat} {dst : Option Nat} {x : AV} {S : List (Nat × AV)} : UpdX p i dst x S (putS dst x S) := by
  refine ⟨?_, ?_, ?_⟩
  · rintro d rfl; simp only [putS]; rw [get_cons, if_pos rfl]
  · intro k y hk hy _
    cases dst with
    | none => exact hy
    | some d => simp only [putS]; rw [get_cons, if_neg (fun h => hk (by rw [h]))]; exact hy
  · intro k y hy
    cases dst with
    | none => exact .inr (.inl hy)
    | some d =>
      simp only [putS] at hy
      rw [get_cons] at hy
      by_cases h : d = k
      · rw [if_pos h] at hy; cases hy; exact .inl ⟨by rw [h], rfl⟩
      · rw [if_neg h] at hy; exact .inr (.inl hy)

def Pl.fine (p : Pl) (ops : Array Oper) (base : List (Nat × AV)) : Bool :=
  p.ancB ops && p.baseB base && (p.E.all fun e => Nat.blt e ops.toList.length) && chkD base 0 [] ops.toList

end
end Go.Sy

namespace Go.Sy
open Go.RowKit

section
variable {P : Program} {T : Tab} {X : Ctx P T} {n : Nat} {e : Env} {st : St} {a : Act} {w : World} {ops : Array Oper} {K : St → Prop}

def pl0 : Pl := ⟨[], [], [], []⟩

theorem O_X {o : Oper} {x : AV} {rest : List Oper} {s : List (Nat × AV)} {c c2 : List Ch} (h : StepX X n ops pl0 s c c2 0 o x) (k : SymO X n ops rest ⟨putS o.dst x s, c2⟩ K) : SymO X n ops (o :: rest) ⟨s, c⟩ K := by
  intro e a w Q r hq
  unfold wpList
  exact h e a w s (fun a' w' => wpList P ops Q rest a' w') Q r (fun _ _ h => h) (fun _ _ _ q hq => by cases hq) (fun e' a' w' S' r' hu => k e' a' w' Q (r'.less (fun i y hy => by
    cases hd : o.dst with
    | none =>
      rw [hd] at hy
      exact hu.2.1 i y (by rw [hd]; intro h; cases h) hy (fun q hq => by cases hq)
    | some d =>
      rw [hd] at hy
      simp only [putS] at hy
      rw [get_cons] at hy
      by_cases hdi : d = i
      · rw [if_pos hdi] at hy; cases hy; subst hdi; exact hu.1 d hd
      · rw [if_neg hdi] at hy
        exact hu.2.1 i y (by rw [hd]; intro h; cases h; exact hdi rfl) hy (fun q hq => by cases hq)) (fun h => h)) hq)

theorem O_Xd {d : Nat} {op : Op} {ty : TypeId} {pos : String} {aft : Array Edge} {gd : Option (Nat × Bool)} {x : AV} {rest : List Oper} {s : List (Nat × AV)} {c c2 : List Ch} (h : StepX X n ops pl0 s c c2 0 ⟨some d, op, ty, pos, aft, gd⟩ x) (k : SymO X n ops rest ⟨(d, x) :: s, c2⟩ K) : SymO X n ops (⟨some d, op, ty, pos, aft, gd⟩ :: rest) ⟨s, c⟩ K := O_X h k
theorem O_Xn {op : Op} {ty : TypeId} {pos : String} {aft : Array Edge} {gd : Option (Nat × Bool)} {x : AV} {rest : List Oper} {s : List (Nat × AV)} {c c2 : List Ch} (h : StepX X n ops pl0 s c c2 0 ⟨none, op, ty, pos, aft, gd⟩ x) (k : SymO X n ops rest ⟨s, c2⟩ K) : SymO X n ops (⟨none, op, ty, pos, aft, gd⟩ :: rest) ⟨s, c⟩ K := O_X h k

theorem StepX.val {p : Pl} {Si : List (Nat × AV)} {c c2 : List Ch} {i : Nat} {o : Oper} {x : AV} (hg : guardA ops ⟨Si, c⟩ o = some true) (hd : dstOK n o.dst = true)
    (h : ∀ e a w S, Rel X n e ⟨S, c⟩ a w → Rel X n e ⟨Si, c⟩ a w → ∃ v w' e', (execOp a.eval o).run P w = .ok (.value v) w' ∧ Rel X n e' ⟨S, c2⟩ a w' ∧ Rep e' x v) : StepX X n ops p Si c c2 i o x := by
  intro e a w S K Q r hS _ hk
  have r' : Rel X n e ⟨Si, c⟩ a w := r.less hS (fun h => h)
  rw [if_pos (guardA_sound r' hg)]
  obtain ⟨v, w', e', h1, h2, h3⟩ := h e a w S r r'
  refine .inl ?_
  unfold Oper.wp
  rw [h1]
  exact hk e' _ _ _ (putOK h2 hd h3) UpdX.put

theorem StepX.skip {p : Pl} {Si : List (Nat × AV)} {c c2 : List Ch} {i : Nat} {o : Oper} (hg : guardA ops ⟨Si, c⟩ o = some true) (hd : o.dst = none)
    (h : ∀ e a w S, Rel X n e ⟨S, c⟩ a w → Rel X n e ⟨Si, c⟩ a w → ∃ w' e', (execOp a.eval o).run P w = .ok .skip w' ∧ Rel X n e' ⟨S, c2⟩ a w') : StepX X n ops p Si c c2 i o .bad := by
  intro e a w S K Q r hS _ hk
  have r' : Rel X n e ⟨Si, c⟩ a w := r.less hS (fun h => h)
  rw [if_pos (guardA_sound r' hg)]
  obtain ⟨w', e', h1, h2⟩ := h e a w S r r'
  refine .inl ?_
  unfold Oper.wp
  rw [h1]
  have := hk e' a w' (putS o.dst .bad S) (by rw [hd]; exact h2) UpdX.put
  unfold Oper.upon
  show K (a.put o.dst undef) w'
  rw [hd]
  exact this

theorem X_still {p : Pl} {Si : List (Nat × AV)} {c : List Ch} {i : Nat} {o : Oper} {x : AV} (hg : guardA ops ⟨Si, c⟩ o = some true) (hd : dstOK n o.dst = true) (hs : still T ⟨Si, c⟩ o.op = some x) : StepX X n ops p Si c c i o x :=
  StepX.val hg hd (fun e a w S r r' => by
    obtain ⟨v, h2, h1⟩ := still_sound r' hs
    exact ⟨v, w, e, h1 w (SameAs.refl w), r, h2⟩)
theorem X_still1 {p : Pl} {Si : List (Nat × AV)} {c : List Ch} {i : Nat} {o : Oper} {x : AV} {vc : Prop} (hg : guardA ops ⟨Si, c⟩ o = some true) (hd : dstOK n o.dst = true) (hs : still1 T ⟨Si, c⟩ o.op = some (vc, x)) (hv : vc) : StepX X n ops p Si c c i o x :=
  StepX.val hg hd (fun e a w S r r' => by
    obtain ⟨v, h2, h1⟩ := still1_sound r' hs hv
    exact ⟨v, w, e, h1 w (SameAs.refl w), r, h2⟩)
theorem X_none {p : Pl} {Si : List (Nat × AV)} {c : List Ch} {i : Nat} {o : Oper} (hg : guardA ops ⟨Si, c⟩ o = some false) (hd : dstOK n o.dst = true) : StepX X n ops p Si c c i o (.tup []) := by
  intro e a w S K Q r hS _ hk
  have r' : Rel X n e ⟨Si, c⟩ a w := r.less hS (fun h => h)
  rw [if_neg (by rw [guardA_sound r' hg]; decide)]
  exact hk _ _ _ _ (putOK r hd (by simp [Rep, RepT, undef])) UpdX.put

def stillX (T : Tab) (st : St) (op : Op) : Option (Prop × AV) :=
  match still T st op with
  | some x => some (True, x)
  | none => match still1 T st op with
    | some q => some q
    | none => match buildA T st op with
      | some x => some (True, x)
      | none => none
theorem X_stillX {p : Pl} {Si : List (Nat × AV)} {c : List Ch} {i : Nat} {o : Oper} {x : AV} {vc : Prop} (hg : guardA ops ⟨Si, c⟩ o = some true) (hd : dstOK n o.dst = true) (hs : stillX T ⟨Si, c⟩ o.op = some (vc, x)) (hv : vc) : StepX X n ops p Si c c i o x := by
  unfold stillX at hs
  split at hs
  · rename_i y hy
    simp only [Option.some.injEq, Prod.mk.injEq] at hs
    rw [← hs.2]
    exact X_still hg hd hy
  · split at hs
    · rename_i q hq
      simp only [Option.some.injEq] at hs
      subst hs
      exact X_still1 hg hd hq hv
    · split at hs
      · rename_i y hy
        simp only [Option.some.injEq, Prod.mk.injEq] at hs
        rw [← hs.2]
        exact StepX.val hg hd (fun e a w S r r' => by
          obtain ⟨v, h2, h1⟩ := buildA_sound r' hy
          exact ⟨v, w, e, h1 w, r, h2⟩)
      · cases hs
theorem StepX.any {p : Pl} {Si : List (Nat × AV)} {c : List Ch} {i : Nat} {o : Oper} {x : AV} {vc : Prop} (hg : guardA ops ⟨Si, []⟩ o = some true) (hd : dstOK n o.dst = true) (hs : stillX T ⟨Si, []⟩ o.op = some (vc, x)) (hv : vc) : StepX X n ops p Si c c i o x := by
  intro e a w S K Q r hS hcr hk
  have r' : Rel X n e ⟨Si, []⟩ a w := r.less hS (fun h => ⟨[], rfl, fun _ h => (by cases h), by simp, fun _ h => (by cases h)⟩)
  rw [if_pos (guardA_sound r' hg)]
  have key : ∃ v, Rep e x v ∧ (execOp a.eval o).run P w = .ok (.value v) w := by
    unfold stillX at hs
    split at hs
    · rename_i y hy
      simp only [Option.some.injEq, Prod.mk.injEq] at hs
      rw [← hs.2]
      obtain ⟨v, h2, h1⟩ := still_sound r' hy
      exact ⟨v, h2, h1 w (SameAs.refl w)⟩
    · split at hs
      · rename_i q hq
        simp only [Option.some.injEq] at hs
        subst hs
        obtain ⟨v, h2, h1⟩ := still1_sound r' hq hv
        exact ⟨v, h2, h1 w (SameAs.refl w)⟩
      · split at hs
        · rename_i y hy
          simp only [Option.some.injEq, Prod.mk.injEq] at hs
          rw [← hs.2]
          obtain ⟨v, h2, h1⟩ := buildA_sound r' hy
          exact ⟨v, h2, h1 w⟩
        · cases hs
  obtain ⟨v, h2, h1⟩ := key
  refine .inl ?_
  unfold Oper.wp
  rw [h1]
  exact hk _ _ _ _ (putOK r hd h2) UpdX.put

theorem not_mem_of_contains {l : List Nat} {k : Nat} (h : (!(l.contains k)) = true) : k ∉ l := by
  simp at h; exact h

theorem guardA_any {Si : List (Nat × AV)} {c c' : List Ch} {o : Oper} : guardA ops ⟨Si, c⟩ o = guardA ops ⟨Si, c'⟩ o := by
  unfold guardA
  rfl

theorem X_loadP (q : Nat) {p : Pl} {A : Abs} {cells : List AV} {t : TypeId} {i : TI} {x : Operand} {d : Option Nat} {b o : Nat} {av : AV} {ty : TypeId} {pos : String} {aft : Array Edge} {gd : Option (Nat × Bool)} {j : Nat} {Si : List (Nat × AV)} {c cr : List Ch}
    (hR : Reads A b o cells) (hg : guardA ops ⟨Si, c⟩ ⟨d, .load t x, ty, pos, aft, gd⟩ = some true) (hx : opd Si x = some (PT b o)) (hp : nthA q c = some (A, cr)) (hT : T t = some i) (hl : loadA i cells = some av) (hd : dstOK n d = true) :
    StepX X n ops p Si c c j ⟨d, .load t x, ty, pos, aft, gd⟩ av :=
  StepX.val hg hd (fun e a w S r r' => by
    have h1 := opd_sound r' hx
    simp only [Rep] at h1
    obtain ⟨hok, _⟩ := r.heap.nth hp
    have hrd : Readable e w b o cells := fun j c hc => by
      obtain ⟨z, z1, z2, z3⟩ := hR _ _ hok j c hc
      exact ⟨z, z1, RepI.toRep c z2, z3⟩
    obtain ⟨v, g4, g3⟩ := load_sound X.ok hT hrd hl
    refine ⟨v, w, e, ?_, r, g4⟩
    simp only [execOp, h1, Instr.loadAt, Instr.sureAddr, Sem.run_bind, Sem.run_pure, Result.andThen_ok, g3 w (SameAs.refl w)])

theorem X_storeP (q : Nat) {p : Pl} {A A' : Abs} {t : TypeId} {by_ : Nat} {z : List Value} {dd : TD} {ad xo : Operand} {b o : Nat} {x : AV} {ty : TypeId} {pos : String} {aft : Array Edge} {gd : Option (Nat × Bool)} {j : Nat} {Si : List (Nat × AV)} {c cr : List Ch}
    (hW : Writes A b o x A') (hg : guardA ops ⟨Si, c⟩ ⟨none, .store t ad xo, ty, pos, aft, gd⟩ = some true) (hT : T t = some ⟨1, by_, false, z, dd⟩) (hp : nthA q c = some (A, cr)) (had : opd Si ad = some (PT b o)) (hx : opd Si xo = some x) (hcb : x.cellB = true) (himm : x.imm = true) :
    StepX X n ops p Si c (.abs A' :: cr) j ⟨none, .store t ad xo, ty, pos, aft, gd⟩ .bad :=
  StepX.skip hg rfl (fun e a w S r r' => by
    have h1 := opd_sound r' had
    have h2 := opd_sound r' hx
    simp only [Rep] at h1
    have hv := cellB_one h2 hcb
    obtain ⟨hok, _⟩ := r.heap.nth hp
    obtain ⟨w1, w2, w3⟩ := hW.2.2 _ _ _ hok (Rep.toI x himm h2) hv
    have hrun := run_store1 (w := w) (ρ := a.eval) (ty := ty) (pos := pos) (aft := aft) (gd := gd) X.ok hT h1 rfl hv w1 w2
    exact ⟨_, e, hrun, r.absWrite (st := ⟨S, c⟩) hp hW.1 hW.2.1 w3⟩)

theorem X_callA (is : List Nat) {p : Pl} {f : FuncId} {dst : Nat} {args : Array Operand} {tys : Array TypeId} {ty : TypeId} {pos : String} {aft : Array Edge} {gd : Option (Nat × Bool)} {j : Nat} {avs : List AV} {cs cs1 : List Abs} {cr : List Ch} {x : AV}
    {Si : List (Nat × AV)} {c : List Ch} (hf : FnA P f avs cs (fun r cs' => r = x ∧ cs' = cs1)) (hg : guardA ops ⟨Si, c⟩ ⟨some dst, .call ⟨.value (.func f), args, tys⟩, ty, pos, aft, gd⟩ = some true) (ha : opds Si args.toList = some avs) (himm : AV.imm.immL avs = true)
    (hp : pickA is c = some (cs, cr)) (hd : Nat.blt dst n = true) :
    StepX X n ops p Si c (cs1.map Ch.abs ++ cr) j ⟨some dst, .call ⟨.value (.func f), args, tys⟩, ty, pos, aft, gd⟩ x := by
  intro e a w S K Q r hS _ hk
  have r' : Rel X n e ⟨Si, c⟩ a w := r.less hS (fun h => h)
  rw [if_pos (guardA_sound r' hg)]
  refine .inl ?_
  unfold Oper.wp
  rw [run_call hf.1 a.eval rfl w, Oper.upon_enter]
  have h1 := RepT.toI avs himm (opds_sound r' ha)
  rw [map_eval]
  have hd2 := (r.heap.perm (pickA_perm hp)).absOK
  refine (hf.2 e.G w _ ⟨r.im, r.mz⟩ h1 hd2.1).mono ?_
  rintro en w' ⟨rv, cv, cs', G', ⟨rfl, rfl⟩, rfl, g1, g2, g3, g4, g5, g6, o1, o2, o3, o4, o5⟩
  have r2 := r.swapAbs (st := ⟨S, c⟩) (pickA_perm hp) g2 g4 g3 g5 g6 ⟨o1, o2, o3⟩ o4 o5
  exact hk _ _ _ _ (r2.put hd (RepI.toRep (e := ⟨G', e.μ, e.hd⟩) rv g1)) UpdX.put

def slO (h : Value) (T : TypeId) (esz : Nat) (cells : List AV) : Abs where
  bs := h.ownBlock.toList
  ok := fun G w => ∃ m, cells.length = m * esz ∧ ((h = .slice none 0 0 ∧ m = 0) ∨ ∃ g o c cur, h = .slice (some ⟨g, o, none⟩) m c ∧ m ≤ c ∧ c ≤ maxLen ∧ w.heap[g]? = some (.cells cur T (0, 0)) ∧ o + c * esz ≤ cur.size ∧
    RepIL G cells ((cur.toList.drop o).take (m * esz)))
  keep := by
    rintro G H w w' hG hb ⟨m, h1, h2⟩
    refine ⟨m, h1, ?_⟩
    rcases h2 with h2 | ⟨g, o, c, cur, rfl, h3, h4, h5, h6, h7⟩
    · exact .inl h2
    · exact .inr ⟨g, o, c, cur, rfl, h3, h4, by rw [hb g (by simp [Value.ownBlock])]; exact h5, h6, RepIL.mono hG cells h7⟩

abbrev HO (g o m c : Nat) : Value := .slice (some ⟨g, o, none⟩) m c

theorem slO_ho {g o m c : Nat} {t : TypeId} {esz : Nat} {cells : List AV} {G : IM} {w : World} (h : (slO (HO g o m c) t esz cells).ok G w) : cells.length = m * esz ∧ m ≤ c ∧ c ≤ maxLen ∧ ∃ cur, w.heap[g]? = some (.cells cur t (0, 0)) ∧ o + c * esz ≤ cur.size ∧
    RepIL G cells ((cur.toList.drop o).take (m * esz)) := by
  obtain ⟨m', h1, h2⟩ := h
  rcases h2 with ⟨h2, _⟩ | ⟨g', o', c', cur, h2, h3, h4, h5, h6, h7⟩
  · cases h2
  · simp only [HO, Value.slice.injEq, Option.some.injEq, Addr.mk.injEq, and_true] at h2
    obtain ⟨⟨rfl, rfl⟩, rfl, rfl⟩ := h2
    exact ⟨h1, h3, h4, cur, h5, h6, h7⟩

theorem reads_slO {g o m c : Nat} {t : TypeId} {esz : Nat} {cells : List AV} (j : Nat) : Reads (slO (HO g o m c) t esz cells) g (o + j) (cells.drop j) := by
  rintro G w hok i x hx
  obtain ⟨h1, h2, h3, cur, h5, h6, h7⟩ := slO_ho hok
  rw [List.getElem?_drop] at hx
  obtain ⟨z, z1, z2, z3⟩ := h7.get _ x hx
  refine ⟨z, ?_, z2, z3⟩
  rw [cell_of_row w g _ cur t (0, 0) h5]
  have hlt : j + i < m * esz := by
    rcases Nat.lt_or_ge (j + i) (m * esz) with h | h
    · exact h
    · rw [List.getElem?_eq_none (by omega)] at hx; cases hx
  rw [List.getElem?_take, if_pos hlt, List.getElem?_drop] at z1
  rw [Nat.add_assoc]
  simpa using z1

theorem writes_slO {g o m c : Nat} {t : TypeId} {esz : Nat} {cells : List AV} {j : Nat} {x : AV} (hj : j < cells.length) : Writes (slO (HO g o m c) t esz cells) g (o + j) x (slO (HO g o m c) t esz (cells.set j x)) := by
  refine ⟨by simp [slO, Value.ownBlock], rfl, ?_⟩
  rintro G w v hok hx hv
  obtain ⟨h1, h2, h3, cur, h5, h6, h7⟩ := slO_ho hok
  have hmc : m * esz ≤ c * esz := Nat.mul_le_mul_right _ h2
  have hin : o + j < cur.size := by omega
  refine ⟨by rw [cell_of_row w g _ cur t (0, 0) h5]; simp [hin], by simp [World.frozen?, h5], m, by simpa using h1, .inr ⟨g, o, c, cur.setIfInBounds (o + j) v, rfl, h2, h3, by rw [setCell_heap h5], by simpa using h6, ?_⟩⟩
  refine RepIL.mk ?_ (fun i y hy => ?_)
  · have := h7.len
    simp only [List.length_take, List.length_drop, Array.length_toList, List.length_set, Array.size_setIfInBounds] at this ⊢
    exact this
  · rw [List.getElem?_set] at hy
    have hil : i < m * esz := by
      rcases Nat.lt_or_ge i cells.length with h | h
      · omega
      · split at hy
        · rename_i e; omega
        · rw [List.getElem?_eq_none h] at hy; cases hy
    rw [List.getElem?_take, if_pos hil, List.getElem?_drop, Array.toList_setIfInBounds, List.getElem?_set]
    by_cases hji : j = i
    · subst hji
      rw [if_pos rfl, if_pos hj] at hy
      cases hy
      rw [if_pos rfl, if_pos (by simpa using hin)]
      exact ⟨v, rfl, hx, hv⟩
    · rw [if_neg hji] at hy
      rw [if_neg (by omega)]
      obtain ⟨z, z1, z2, z3⟩ := h7.get i y hy
      rw [List.getElem?_take, if_pos hil, List.getElem?_drop] at z1
      exact ⟨z, z1, z2, z3⟩

theorem slO_shape {h : Value} {t : TypeId} {esz : Nat} {cells : List AV} {G : IM} {w : World} (hk : (slO h t esz cells).ok G w) : (h = .slice none 0 0 ∧ cells = []) ∨ ∃ g o m c, h = HO g o m c ∧ cells.length = m * esz ∧ m ≤ c ∧ c ≤ maxLen := by
  obtain ⟨m, h1, h2⟩ := hk
  rcases h2 with ⟨h2, rfl⟩ | ⟨g, o, c, cur, rfl, h3, h4, h5, h6, h7⟩
  · exact .inl ⟨h2, List.eq_nil_of_length_eq_zero (by simpa using h1)⟩
  · exact .inr ⟨g, o, m, c, rfl, h1, h3, h4⟩

theorem O_slO {l : List Oper} {s : List (Nat × AV)} {c cr : List Ch} (q : Nat) {h : Value} {t : TypeId} {esz : Nat} {cells : List AV} (hp : nthA q c = some (slO h t esz cells, cr))
    (h0 : h = .slice none 0 0 → cells = [] → SymO X n ops l ⟨s, c⟩ K) (h1 : ∀ g o m cc, h = HO g o m cc → cells.length = m * esz → m ≤ cc → cc ≤ maxLen → SymO X n ops l ⟨s, c⟩ K) : SymO X n ops l ⟨s, c⟩ K := fun e a w Q r => by
  obtain ⟨hok, _⟩ := r.heap.nth hp
  rcases slO_shape hok with ⟨k1, k2⟩ | ⟨g, o, m, cc, k1, k2, k3, k4⟩
  · exact h0 k1 k2 e a w Q r
  · exact h1 g o m cc k1 k2 k3 k4 e a w Q r

theorem Le.retell (q : Nat) {A A' : Abs} {s : List (Nat × AV)} {c cr : List Ch} (hp : nthA q c = some (A, cr)) (hbs : A'.bs = A.bs) (hok : ∀ G w, A.ok G w → A'.ok G w) : Le X n ⟨s, c⟩ ⟨s, .abs A' :: cr⟩ := fun e a w r =>
  ⟨e, { r with heap := HeapOK.retell (r.heap.perm (nthA_perm hp)) (fun bs h => by
    obtain ⟨rfl, h2⟩ := h
    exact ⟨hbs.symm, hok _ _ h2⟩) }⟩

theorem ownsRow_slO {G : IM} {base : Nat} {t : TypeId} {esz m : Nat} {v : Value} {xs : List Value} {cells : List AV} (h : w.ownsRow base t esz v m xs) (hr : RepIL G cells xs) : (slO v t esz cells).ok G w := by
  refine ⟨m, by rw [← hr.len]; exact h.1, ?_⟩
  rcases h.2 with ⟨h1, h2⟩ | ⟨g, cap, cur, h1, _, h3, h4, h5, h6, h7⟩
  · exact .inl ⟨h1, h2⟩
  · exact .inr ⟨g, 0, cap, cur, h1, h4, h5, h3, by omega, by rw [List.drop_zero, h7]; exact hr⟩

theorem O_appendO (q : Nat) {dst : Nat} {so_ xo : Operand} {t ty : TypeId} {pos : String} {aft : Array Edge} {rest : List Oper} {s : List (Nat × AV)} {c cr : List Ch} {h : Value} {el : Nat} {row : Nat → List AV} {cells : List AV} {x : AV} {by_ : Nat} {sz0 b0 : Nat} {ag0 ag1 : Bool} {z0 z1 : List Value} {d1 : TD}
    (hTs : T t = some ⟨sz0, b0, ag0, z0, .slice el⟩) (hTe : T el = some ⟨1, by_, ag1, z1, d1⟩)
    (hso : opd s so_ = some (.v h)) (hp : nthA q c = some (slO h el 1 cells, cr)) (hxo : opd s xo = some (.sl 1 1 row)) (hrow : row 0 = [x])
    (hd : Nat.blt dst n = true) (hlen : (cells.length + 1) * by_ ≤ 140737488355328) (hlen2 : cells.length + 1 ≤ maxLen)
    (k : ∀ v', (∃ g o m cc, v' = HO g o m cc) → SymO X n ops rest ⟨(dst, .v v') :: s, .abs (slO v' el 1 (cells ++ [x])) :: cr⟩ K) :
    SymO X n ops (⟨some dst, .call ⟨.builtin .append, #[so_, xo], #[t, t]⟩, ty, pos, aft, none⟩ :: rest) ⟨s, c⟩ K := by
  intro e a w Q r hq
  obtain ⟨pi, z, i1, i2, i3, i4, i5, i6, i7⟩ := (X.ok _ _ hTe).info
  obtain ⟨dd, e1, _, e3⟩ := (X.ok _ _ hTs).desc
  simp only [TDOK] at e3
  subst e3
  have hso' := opd_sound r hso
  simp only [Rep] at hso'
  have hxo' := opd_sound r hxo
  simp only [Rep, RepI] at hxo'
  have hzs : z.cells.size = 1 := by
    have : z.cells.toList.length = 1 := by rw [i5]; exact i7
    simpa using this
  obtain ⟨ax, cx, hx1, hx2, hx3⟩ := hxo'
  rcases hx3 with hx3 | ⟨bx, ox, rfl, hx3⟩
  · cases hx3
  have hc0 := hx3 0 (by omega)
  rw [hrow, Nat.zero_mul, Nat.add_zero] at hc0
  obtain ⟨⟨u, hu1, hu2, hu3⟩, _⟩ := hc0
  have hcell := r.im _ _ _ hu1
  have hnews : ∀ (j : Nat) (u' : Value), ([u] : List Value)[j]? = some u' → w.cell? ((⟨bx, ox, none⟩ : Addr).add j) = some u' := by
    intro j u' hj
    cases j with
    | zero => simp at hj; subst hj; rw [add_addr]; simpa using hcell
    | succ j => simp at hj
  obtain ⟨hok, hgood, hnd⟩ := r.heap.nth hp
  have hperm : c.Perm ([slO h el 1 cells].map Ch.abs ++ cr) := by simpa using nthA_perm hp
  have hbl : ∀ B : Abs, blocks [B] = B.bs := fun B => by simp [blocks]
  have fin : ∀ (v' : Value) (w' : World), (Builtin.append_ #[t, t] ty #[h, .slice (some ⟨bx, ox, none⟩) 1 cx]).run P w = .ok v' w' → (slO v' el 1 (cells ++ [x])).ok e.G w' → (∃ g o m cc, v' = HO g o m cc) →
      (∀ b, b < w.heap.size → b ∉ (slO h el 1 cells).bs → w'.heap[b]? = w.heap[b]?) → (∀ b ∈ (slO v' el 1 (cells ++ [x])).bs, b < w'.heap.size ∧ (w.heap.size ≤ b ∨ b ∈ (slO h el 1 cells).bs)) →
      w'.os = w.os ∧ w'.tape = w.tape ∧ w'.output = w.output → w.heap.size ≤ w'.heap.size → wpList P ops Q (⟨some dst, .call ⟨.builtin .append, #[so_, xo], #[t, t]⟩, ty, pos, aft, none⟩ :: rest) a w := by
    intro v' w' hrun0 hok' hsh hoth hbs' ho hsz
    unfold wpList
    rw [if_pos (by simp [Region.wanted])]
    refine .inl ?_
    unfold Oper.wp
    have hrun : (execOp a.eval ⟨some dst, .call ⟨.builtin .append, #[so_, xo], #[t, t]⟩, ty, pos, aft, none⟩).run P w = .ok (.value v') w' := by
      simp only [execOp, resolve, invoke, builtin, Sem.run_bind, Sem.run_pure, Result.andThen_ok, List.map_toArray, List.map_cons, List.map_nil, hso', hx1, hrun0]
    rw [hrun]
    have hfree : ∀ b ∈ (slO v' el 1 (cells ++ [x])).bs, e.G.free b := fun b hb => by
      rcases (hbs' b hb).2 with h1 | h1
      · exact r.free h1
      · exact (hgood b h1).2.2
    have r2 := r.swapAbs (st := ⟨s, c⟩) (As := [slO h el 1 cells]) (As' := [slO v' el 1 (cells ++ [x])]) (G' := e.G) (w' := w') hperm (IM.le_refl _) ⟨?_, ?_⟩ ⟨fun b o v h => .inl h, fun b x h => .inl h⟩ ⟨?_, ?_, ?_⟩ ?_ ho hsz ?_
    · exact k v' hsh _ _ _ Q (r2.put (x := .v v') (v := v') hd (by simp only [Rep])) hq
    · intro b o v hv
      have h1 := r.im b o v hv
      simp only [World.cell?] at h1 ⊢
      rw [hoth b (r.glt0 _ _ _ hv) (fun hin => by rw [(hgood b hin).2.2.1 o] at hv; cases hv)]
      exact h1
    · exact r.mzKeep (fun b hb hf => hoth b hb (fun hin => hf (hgood b hin).2.2))
    · intro B hB
      simp only [List.mem_singleton] at hB
      subst hB; exact hok'
    · rw [hbl]
      obtain ⟨g, o, m, cc, rfl⟩ := hsh
      simp [slO, Value.ownBlock]
    · intro b hb
      rw [hbl] at hb
      exact ⟨(hbs' b hb).1, hfree b hb⟩
    · intro b hb
      rw [hbl] at hb ⊢
      exact (hbs' b hb).2
    · intro b hb hnin _
      rw [hbl] at hnin
      exact hoth b hb hnin
  have hone : ∀ u' ∈ ([u] : List Value), u'.oneCell' = true := fun u' hu' => by simp at hu'; subst hu'; exact hu3
  have hrep1 : RepIL e.G [x] [u] := by simp only [RepIL]; exact ⟨u, [], rfl, hu2, hu3, rfl⟩
  rcases slO_shape hok with ⟨hh, hcs⟩ | ⟨g, o, m, cc, hh, k2, k3, k4⟩
  · subst hh hcs
    have hown0 : w.ownsRow 0 el 1 (.slice none 0 0) 0 [] := ⟨rfl, .inl ⟨rfl, rfl⟩⟩
    obtain ⟨v', w', hr, q2, q3, q4⟩ := run_append_own (P := P) w 0 t ty el pi z 1 by_ e1 i1 i4 i2 i3 hzs (by omega) (.slice none 0 0) 0 [] hown0 ⟨bx, ox, none⟩ 1 cx [u] rfl hnews hone (by simpa using hlen2) (by simpa using hlen) (Nat.zero_le _)
    have hsh : ∃ g o m cc, v' = HO g o m cc := by
      rcases q2.2 with ⟨_, h0⟩ | ⟨g, cap, cur, h1, _⟩
      · omega
      · exact ⟨g, 0, _, cap, h1⟩
    refine fin v' w' hr (ownsRow_slO q2 (by simpa using hrep1)) hsh (fun b hb _ => q3.block b hb (by simp [Value.ownBlock])) (fun b hb => ?_) ⟨q3.os, q3.tape, q3.output⟩ q3.size
    have hb' : v'.ownBlock = some b := by simpa [slO] using hb
    refine ⟨(q2.lt b hb').2, .inl ?_⟩
    have := append_block t ty el pi z e1 i1 i4 (.slice none 0 0) 0 [] (by rw [i2]; exact hown0) ⟨bx, ox, none⟩ 1 cx [u] (by rw [i2]; rfl) hnews hone (by simpa using hlen2) (by rw [i3]; simpa using hlen) hr b hb'
    simpa [Value.ownBlock] using this
  · subst hh
    obtain ⟨h1, h2, h3, cur, h5, h6, h7⟩ := slO_ho hok
    rw [Nat.mul_one] at h1 h6 h7
    by_cases hroom : m + 1 ≤ cc
    · have hin : o + m < cur.size := by omega
      have hcell2 : w.cell? ⟨g, o + m, none⟩ = some cur[o + m] := by
        rw [cell_of_row w g _ cur el (0, 0) h5]; simp [hin]
      have hrun := run_append_room_cells (P := P) w t ty el pi e1 i1 g o m cc ⟨bx, ox, none⟩ 1 cx [u] (by rw [i2]; rfl) hnews hone hroom
        (fun j hj => by simp at hj; subst hj; rw [i2]; simp only [Nat.mul_one, Nat.add_zero]; rw [hcell2]; rfl)
        (fun j hj => by simp [World.frozen?, h5])
      rw [i2, Nat.mul_one] at hrun
      refine fin _ _ hrun ?_ ⟨g, o, m + 1, cc, rfl⟩ ?_ ?_ ?_ ?_
      · refine ⟨m + 1, by simp [h1], .inr ⟨g, o, cc, cur.setIfInBounds (o + m) u, rfl, hroom, h3, ?_, by simpa using h6, ?_⟩⟩
        · simp only [World.setCells]; rw [setCell_heap h5]
        · refine RepIL.mk ?_ (fun i y hy => ?_)
          · simp only [List.length_take, List.length_drop, Array.length_toList, List.length_append, List.length_cons, List.length_nil, Array.size_setIfInBounds, h1, Nat.mul_one]; omega
          · rw [Nat.mul_one, List.getElem?_take, List.getElem?_drop, Array.toList_setIfInBounds, List.getElem?_set]
            have hil : i < m + 1 := by
              rcases Nat.lt_or_ge i (m + 1) with h | h
              · exact h
              · rw [List.getElem?_eq_none (by simp [h1]; omega)] at hy; cases hy
            rw [if_pos hil]
            by_cases him : i = m
            · subst him
              rw [List.getElem?_append_right (by omega), h1] at hy
              simp at hy
              subst hy
              rw [if_pos rfl, if_pos (by simpa using hin)]
              exact ⟨u, rfl, hu2, hu3⟩
            · rw [List.getElem?_append_left (by omega)] at hy
              rw [if_neg (by omega)]
              obtain ⟨zz, z1, z2, z3⟩ := h7.get i y hy
              rw [List.getElem?_take, if_pos (by omega), List.getElem?_drop] at z1
              exact ⟨zz, z1, z2, z3⟩
      · intro b hb hnin
        simp only [World.setCells]
        rw [setCell_other (fun he => hnin (by subst he; simp [slO, Value.ownBlock]))]
      · intro b hb
        have hb' : b = g := by simpa [slO, Value.ownBlock] using hb
        subst hb'
        refine ⟨?_, .inr (by simp [slO, Value.ownBlock])⟩
        simp only [World.setCells]
        rw [setCell_size]
        exact (hgood b (by simp [slO, Value.ownBlock])).1
      · exact ⟨rfl, rfl, rfl⟩
      · simp only [World.setCells]; rw [setCell_size]; exact Nat.le_refl _
    · have holds : ∀ j u', ((cur.toList.drop o).take m)[j]? = some u' → w.cell? ((⟨g, o, none⟩ : Addr).add j) = some u' := by
        intro j u' hj
        rw [add_addr, cell_of_row w g _ cur el (0, 0) h5]
        have hjm : j < m := by
          rcases Nat.lt_or_ge j m with h | h
          · exact h
          · rw [List.getElem?_take, if_neg (by omega)] at hj; cases hj
        rw [List.getElem?_take, if_pos hjm, List.getElem?_drop] at hj
        simpa using hj
      have hlm : ((cur.toList.drop o).take m).length = m * 1 := by
        have := h7.len; omega
      obtain ⟨v', w', hrun, q2, q3⟩ := run_append_arg_grows (P := P) w t ty el pi z 1 by_ e1 i1 i4 i2 i3 hzs (by omega) ⟨g, o, none⟩ m cc ((cur.toList.drop o).take m) hlm holds ⟨bx, ox, none⟩ 1 cx [u] rfl hnews (by omega) (by omega) (by rw [← h1]; exact hlen)
      have hsh : ∃ g o m cc, v' = HO g o m cc := by
        rcases q2.2 with ⟨_, h0⟩ | ⟨g, cap, cur, h1, _⟩
        · omega
        · exact ⟨g, 0, _, cap, h1⟩
      refine fin v' w' hrun (ownsRow_slO q2 (RepIL.app h7 hrep1)) hsh (fun b hb _ => q3.block b hb (by simp)) (fun b hb => ?_) ⟨q3.os, q3.tape, q3.output⟩ q3.size
      have hb' : v'.ownBlock = some b := by simpa [slO] using hb
      exact ⟨(q2.lt b hb').2, .inl (q2.lt b hb').1⟩
end
end Go.Sy
