/- The event of a line. -/
import Derived.Test.YtpkbclagmkgpkaaGreatDoorQ11
import Derived.Test.YtpkbclagmkgpkaaGreatDoorQ7
import Derived.Test.YtpkbclagmkgpkaaGreatDoorQ5
import Derived.Test.YtpkbclagmkgpkaaGreatDoorQ10
set_option linter.unusedSimpArgs false
set_option linter.unusedVariables false
set_option maxRecDepth 100000
namespace Go.Proofs
open Go.Sy Go.Lib

def plainV (verb : List UInt8) (q : Cu) : Option (Evt × Cu) :=
  if verb = [111, 112, 101, 110] then some (⟨1, 0, 0, []⟩, q)
  else if verb = [116, 105, 99, 107] then some (⟨3, 0, 0, []⟩, q)
  else if verb = [115, 101, 114, 118, 101] then some (⟨5, 0, 0, []⟩, q)
  else if verb = [100, 114, 97, 119] then some (⟨4, 0, ((numV q : Nat) : Int), []⟩, numC q)
  else if verb = [100, 101, 108, 105, 118, 101, 114] then some (⟨6, ((smallV 15 q : Nat) : Int), 0, []⟩, smallC 15 q)
  else if verb = [114, 101, 115, 101, 116] then some (⟨7, ((smallV 15 q : Nat) : Int), 0, []⟩, smallC 15 q)
  else if verb = [114, 97, 119] then some (⟨2, ((smallV 15 q : Nat) : Int), 0, bytesV (smallC 15 q)⟩, bytesC (smallC 15 q))
  else none
def readF (key : Int) (verb : List UInt8) (q : Cu) : (Evt × Int) × Cu := match plainV verb q with
  | some (v, q') => ((v, if doneB q' = true then 0 else 1), q')
  | none => (comeF key verb q, (bodyF key verb (smallC 15 q)).2)
theorem read_S (c : Nat) (key : Int) (verb : List UInt8) (q : Cu) (hT : CuT q) (hCP : ∀ x : Cf, (cfP x).1.length ≤ 1000 ∧ FnP Tryz.prog 258 [.agg (Cf.c x)] (· = .tup [.s (cfP x).1, I64 (cfP x).2])) :
    FnA Tryz.prog 33 [U64 key, .s verb, PT c 0] [cuA c q] (fun r cs' => r = .tup [.agg (Evt.c (readF key verb q).1.1), I64 (readF key verb q).1.2] ∧ cs' = [cuA c (readF key verb q).2]) := by
  refine FnA.intro Tryz.tabOK Tryz.wide_ Tryz.func33 rfl (by decide) rfl (fun X => ?_)
  obtain ⟨P0, hP0⟩ : ∃ P0, plainV verb q = P0 := ⟨_, rfl⟩
  obtain ⟨R0, hR0⟩ : ∃ R0, readF key verb q = R0 := ⟨_, rfl⟩
  rw [hR0]
  unfold readF at hR0
  rw [hP0] at hR0
  unfold plainV at hP0
  repeat (first | refine sc rfl ?_ | refine so rfl ?_)
  refine C_if rfl (fun h1 => ?_) (fun h1 => ?_) <;> simp only [pL] at h1
  · rw [if_pos h1] at hP0
    subst hP0
    simp only [] at hR0
    repeat (first | refine sc rfl ?_ | refine so rfl ?_)
    refine O_callA [2] (done_S c (q)) (by rfl) (by rfl) (by rfl) (by rfl) (by rfl) ?_
    rintro r' cs' ⟨rfl, rfl⟩
    cases hd : doneB (q) with
    | false =>
      rw [hd, if_neg (by decide)] at hR0
      subst hR0
      repeat refine so rfl ?_
      refine C_true rfl rfl ?_
      repeat (first | refine sc rfl ?_ | refine so rfl ?_)
      exact ⟨_, [_], _, rfl, pickA_perm (is := [1]) (As := [_]) rfl, rfl, rfl, rfl⟩
    | true =>
      rw [hd, if_pos rfl] at hR0
      subst hR0
      repeat refine so rfl ?_
      refine C_false rfl rfl ?_
      repeat (first | refine sc rfl ?_ | refine so rfl ?_)
      exact ⟨_, [_], _, rfl, pickA_perm (is := [1]) (As := [_]) rfl, rfl, rfl, rfl⟩
  rw [if_neg h1] at hP0
  clear h1
  repeat (first | refine sc rfl ?_ | refine so rfl ?_)
  refine C_if rfl (fun h1 => ?_) (fun h1 => ?_) <;> simp only [pL] at h1
  · rw [if_pos h1] at hP0
    subst hP0
    simp only [] at hR0
    repeat (first | refine sc rfl ?_ | refine so rfl ?_)
    refine O_callA [2] (done_S c (q)) (by rfl) (by rfl) (by rfl) (by rfl) (by rfl) ?_
    rintro r' cs' ⟨rfl, rfl⟩
    cases hd : doneB (q) with
    | false =>
      rw [hd, if_neg (by decide)] at hR0
      subst hR0
      repeat refine so rfl ?_
      refine C_true rfl rfl ?_
      repeat (first | refine sc rfl ?_ | refine so rfl ?_)
      exact ⟨_, [_], _, rfl, pickA_perm (is := [1]) (As := [_]) rfl, rfl, rfl, rfl⟩
    | true =>
      rw [hd, if_pos rfl] at hR0
      subst hR0
      repeat refine so rfl ?_
      refine C_false rfl rfl ?_
      repeat (first | refine sc rfl ?_ | refine so rfl ?_)
      exact ⟨_, [_], _, rfl, pickA_perm (is := [1]) (As := [_]) rfl, rfl, rfl, rfl⟩
  rw [if_neg h1] at hP0
  clear h1
  repeat (first | refine sc rfl ?_ | refine so rfl ?_)
  refine C_if rfl (fun h1 => ?_) (fun h1 => ?_) <;> simp only [pL] at h1
  · rw [if_pos h1] at hP0
    subst hP0
    simp only [] at hR0
    repeat (first | refine sc rfl ?_ | refine so rfl ?_)
    refine O_callA [2] (done_S c (q)) (by rfl) (by rfl) (by rfl) (by rfl) (by rfl) ?_
    rintro r' cs' ⟨rfl, rfl⟩
    cases hd : doneB (q) with
    | false =>
      rw [hd, if_neg (by decide)] at hR0
      subst hR0
      repeat refine so rfl ?_
      refine C_true rfl rfl ?_
      repeat (first | refine sc rfl ?_ | refine so rfl ?_)
      exact ⟨_, [_], _, rfl, pickA_perm (is := [1]) (As := [_]) rfl, rfl, rfl, rfl⟩
    | true =>
      rw [hd, if_pos rfl] at hR0
      subst hR0
      repeat refine so rfl ?_
      refine C_false rfl rfl ?_
      repeat (first | refine sc rfl ?_ | refine so rfl ?_)
      exact ⟨_, [_], _, rfl, pickA_perm (is := [1]) (As := [_]) rfl, rfl, rfl, rfl⟩
  rw [if_neg h1] at hP0
  clear h1
  repeat (first | refine sc rfl ?_ | refine so rfl ?_)
  refine C_if rfl (fun h1 => ?_) (fun h1 => ?_) <;> simp only [pL] at h1
  · rw [if_pos h1] at hP0
    subst hP0
    simp only [] at hR0
    repeat (first | refine sc rfl ?_ | refine so rfl ?_)
    refine O_callA [2] (num_S c q hT.ok) (by rfl) (by rfl) (by rfl) (by rfl) (by rfl) ?_
    rintro r' cs' ⟨rfl, rfl⟩
    repeat (first | refine sc rfl ?_ | refine so rfl ?_)
    refine O_callA [1] (done_S c (numC q)) (by rfl) (by rfl) (by rfl) (by rfl) (by rfl) ?_
    rintro r' cs' ⟨rfl, rfl⟩
    cases hd : doneB (numC q) with
    | false =>
      rw [hd, if_neg (by decide)] at hR0
      subst hR0
      repeat refine so rfl ?_
      refine C_true rfl rfl ?_
      repeat (first | refine sc rfl ?_ | refine so rfl ?_)
      exact ⟨_, [_], _, rfl, pickA_perm (is := [1]) (As := [_]) rfl, rfl, rfl, rfl⟩
    | true =>
      rw [hd, if_pos rfl] at hR0
      subst hR0
      repeat refine so rfl ?_
      refine C_false rfl rfl ?_
      repeat (first | refine sc rfl ?_ | refine so rfl ?_)
      exact ⟨_, [_], _, rfl, pickA_perm (is := [1]) (As := [_]) rfl, rfl, rfl, rfl⟩
  rw [if_neg h1] at hP0
  clear h1
  repeat (first | refine sc rfl ?_ | refine so rfl ?_)
  refine C_if rfl (fun h1 => ?_) (fun h1 => ?_) <;> simp only [pL] at h1
  · rw [if_pos h1] at hP0
    subst hP0
    simp only [] at hR0
    repeat (first | refine sc rfl ?_ | refine so rfl ?_)
    refine O_callA [2] (small_S c q 15 (by decide) hT.ok) (by rfl) (by rfl) (by rfl) (by rfl) (by rfl) ?_
    rintro r' cs' ⟨rfl, rfl⟩
    repeat (first | refine sc rfl ?_ | refine so rfl ?_)
    refine O_callA [1] (done_S c (smallC 15 q)) (by rfl) (by rfl) (by rfl) (by rfl) (by rfl) ?_
    rintro r' cs' ⟨rfl, rfl⟩
    cases hd : doneB (smallC 15 q) with
    | false =>
      rw [hd, if_neg (by decide)] at hR0
      subst hR0
      repeat refine so rfl ?_
      refine C_true rfl rfl ?_
      repeat (first | refine sc rfl ?_ | refine so rfl ?_)
      exact ⟨_, [_], _, rfl, pickA_perm (is := [1]) (As := [_]) rfl, rfl, rfl, rfl⟩
    | true =>
      rw [hd, if_pos rfl] at hR0
      subst hR0
      repeat refine so rfl ?_
      refine C_false rfl rfl ?_
      repeat (first | refine sc rfl ?_ | refine so rfl ?_)
      exact ⟨_, [_], _, rfl, pickA_perm (is := [1]) (As := [_]) rfl, rfl, rfl, rfl⟩
  rw [if_neg h1] at hP0
  clear h1
  repeat (first | refine sc rfl ?_ | refine so rfl ?_)
  refine C_if rfl (fun h1 => ?_) (fun h1 => ?_) <;> simp only [pL] at h1
  · rw [if_pos h1] at hP0
    subst hP0
    simp only [] at hR0
    repeat (first | refine sc rfl ?_ | refine so rfl ?_)
    refine O_callA [2] (small_S c q 15 (by decide) hT.ok) (by rfl) (by rfl) (by rfl) (by rfl) (by rfl) ?_
    rintro r' cs' ⟨rfl, rfl⟩
    repeat (first | refine sc rfl ?_ | refine so rfl ?_)
    refine O_callA [1] (done_S c (smallC 15 q)) (by rfl) (by rfl) (by rfl) (by rfl) (by rfl) ?_
    rintro r' cs' ⟨rfl, rfl⟩
    cases hd : doneB (smallC 15 q) with
    | false =>
      rw [hd, if_neg (by decide)] at hR0
      subst hR0
      repeat refine so rfl ?_
      refine C_true rfl rfl ?_
      repeat (first | refine sc rfl ?_ | refine so rfl ?_)
      exact ⟨_, [_], _, rfl, pickA_perm (is := [1]) (As := [_]) rfl, rfl, rfl, rfl⟩
    | true =>
      rw [hd, if_pos rfl] at hR0
      subst hR0
      repeat refine so rfl ?_
      refine C_false rfl rfl ?_
      repeat (first | refine sc rfl ?_ | refine so rfl ?_)
      exact ⟨_, [_], _, rfl, pickA_perm (is := [1]) (As := [_]) rfl, rfl, rfl, rfl⟩
  rw [if_neg h1] at hP0
  clear h1
  repeat (first | refine sc rfl ?_ | refine so rfl ?_)
  refine C_if rfl (fun h1 => ?_) (fun h1 => ?_) <;> simp only [pL] at h1
  · rw [if_pos h1] at hP0
    subst hP0
    simp only [] at hR0
    repeat (first | refine sc rfl ?_ | refine so rfl ?_)
    refine O_callA [2] (small_S c q 15 (by decide) hT.ok) (by rfl) (by rfl) (by rfl) (by rfl) (by rfl) ?_
    rintro r' cs' ⟨rfl, rfl⟩
    repeat (first | refine sc rfl ?_ | refine so rfl ?_)
    refine O_callA [1] (bytes_S c (smallC 15 q) hT.ok.small) (by rfl) (by rfl) (by rfl) (by rfl) (by rfl) ?_
    rintro r' cs' ⟨rfl, rfl⟩
    repeat (first | refine sc rfl ?_ | refine so rfl ?_)
    refine O_callA [1] (done_S c (bytesC (smallC 15 q))) (by rfl) (by rfl) (by rfl) (by rfl) (by rfl) ?_
    rintro r' cs' ⟨rfl, rfl⟩
    cases hd : doneB (bytesC (smallC 15 q)) with
    | false =>
      rw [hd, if_neg (by decide)] at hR0
      subst hR0
      repeat refine so rfl ?_
      refine C_true rfl rfl ?_
      repeat (first | refine sc rfl ?_ | refine so rfl ?_)
      exact ⟨_, [_], _, rfl, pickA_perm (is := [1]) (As := [_]) rfl, rfl, rfl, rfl⟩
    | true =>
      rw [hd, if_pos rfl] at hR0
      subst hR0
      repeat refine so rfl ?_
      refine C_false rfl rfl ?_
      repeat (first | refine sc rfl ?_ | refine so rfl ?_)
      exact ⟨_, [_], _, rfl, pickA_perm (is := [1]) (As := [_]) rfl, rfl, rfl, rfl⟩
  rw [if_neg h1] at hP0
  clear h1
  repeat (first | refine sc rfl ?_ | refine so rfl ?_)
  subst hP0
  simp only [] at hR0
  subst hR0
  refine O_callA [2] (come_S c key verb q hT hCP) (by rfl) (by rfl) (by rfl) (by rfl) (by rfl) ?_
  rintro r' cs' ⟨rfl, rfl⟩
  repeat (first | refine sc rfl ?_ | refine so rfl ?_)
  exact ⟨_, [_], _, rfl, pickA_perm (is := [1]) (As := [_]) rfl, rfl, rfl, rfl⟩
end Go.Proofs

namespace Go.Sy
open Go.RowKit

section
variable {P : Program} {T : Tab}
theorem FnA.introM (μ : Nat → Nat) (ok : TabOK P T) (wide : P.follows .mixedOrders = true) {f : FuncId} {fn : Func} {c : Code} {args : List AV} {cs : List Abs} {post : AV → List Abs → Prop} (hf : P.funcs[f]? = some fn) (hb : fn.body = some c)
    (hn : (fn.name == "runtime.NumGoroutine") = false) (hargs : Nat.ble args.length fn.ntmps = true)
    (h : ∀ X : Ctx P T, X.μ0 = μ → SymC X fn.ntmps c ⟨enumA 0 args, cs.map Ch.abs⟩ (EndsX T fn.results post)) : FnA P f args cs post := by
  refine ⟨⟨fn, hf, by simp [hb], hn⟩, ?_⟩
  intro G w cargs him hrep hcs
  have hargs := Nat.le_of_ble_eq_true hargs
  refine calls_of_wp hf hb ?_
  let X : Ctx P T := ⟨ok, wide, w, G, blocks cs, μ, fun _ _ _ => False, []⟩
  let e : Env := ⟨G, μ, fun _ => undef⟩
  have hheap : HeapOK X e w (cs.map Ch.abs) := by
    refine ⟨cs.map (fun A => (Ch.abs A, A.bs)), by simp [Function.comp_def], ?_, by rw [flat_abs]; exact hcs.2.1, ?_⟩
    · intro p hp
      obtain ⟨A, hA, rfl⟩ := List.mem_map.1 hp
      exact ⟨rfl, hcs.1 A hA⟩
    · rw [flat_abs]
      intro b hb
      exact ⟨(hcs.2.2 b hb).1, .inr hb, (hcs.2.2 b hb).2⟩
  have r : Rel X fn.ntmps e ⟨enumA 0 args, cs.map Ch.abs⟩ { tmps := cargs.toArray ++ Array.replicate (fn.ntmps - cargs.toArray.size) undef, defers := [] } w :=
    Rel.enter rfl rfl him (RepIT.toRep (e := e) args hrep) hargs hheap rfl
  refine Code.wp_mono (fun ex a' w' hc => ?_) (h X rfl e _ w r)
  have fin : ∀ (e' : Env) (st' : St), Rel X fn.ntmps e' st' a' w' → (∃ r cs rest, resA T st' fn.results.toList = some r ∧ st'.c.Perm (cs.map Ch.abs ++ rest) ∧ r.imm = true ∧ post r cs) →
      a'.defers = [] ∧ ∃ v, (results fn a'.tmps).run P w' = .ok v w' ∧ (∃ r cr cs' G', post r cs' ∧ Ending.returned v = .returned cr ∧ RepI G' r cr ∧ IM.le G G' ∧
      NewAt G G' w.heap.size (blocks cs) ∧ ImOK G' w' ∧ AbsOK G' w' cs' ∧
      (∀ b ∈ blocks cs', w.heap.size ≤ b ∨ b ∈ blocks cs) ∧
      w'.os = w.os ∧ w'.tape = w.tape ∧ w'.output = w.output ∧ w.heap.size ≤ w'.heap.size ∧ ∀ k, k < w.heap.size → k ∉ blocks cs → G.still k → w'.heap[k]? = w.heap[k]?) := by
    intro e' st' hr ⟨x, cs', rest, h1, hk, h2, h3⟩
    obtain ⟨v, h5, h6⟩ := resA_sound hr h1
    obtain ⟨q1, q2⟩ := (hr.heap.perm hk).absOK
    refine ⟨hr.defers, v, h5, x, v, cs', e'.G, h3, rfl, Rep.toI x h2 h6, hr.le, ⟨hr.new, hr.newm⟩, ⟨hr.im, hr.mz⟩, q1, q2, hr.os, hr.tape, hr.output, hr.sz, fun k hk hnin hs => hr.keep k hk hnin hs⟩
  cases ex with
  | normal => obtain ⟨e', st', h1, h2⟩ := hc; exact fin e' st' h1 h2
  | ret => obtain ⟨e', st', h1, h2⟩ := hc; exact fin e' st' h1 h2
  | exit id => obtain ⟨e', st', h1, h2⟩ := hc; exact h2.elim
  | goto l => obtain ⟨e', st', h1, h2⟩ := hc; exact h2.elim
  | panic ch => exact hc.2.elim
  | outgrown => exact hc.elim

end
section
variable {P : Program} {T : Tab} {X : Ctx P T} {n : Nat} {e : Env} {st : St} {a : Act} {w : World} {ops : Array Oper} {K : St → Prop}

theorem Le.toBox (q k : Nat) {b : Nat} {t : TypeId} {cells : List AV} {s : List (Nat × AV)} {c cr : List Ch} (hp : nthA q c = some (boxA b t cells, cr)) (hk : n ≤ k) (hμ : X.μ0 k = b) : Le X n ⟨s, c⟩ ⟨s, .box k t cells :: cr⟩ := by
  intro e a w r
  refine ⟨e, { r with slots := r.slots, heap := ?_ }⟩
  refine HeapOK.retell (r.heap.perm (nthA_perm hp)) ?_
  rintro bs ⟨rfl, arr, g1, g2⟩
  have h1 : e.μ k = b := by rw [r.fix k hk, hμ]
  exact ⟨by rw [h1]; rfl, arr, by rw [h1]; exact g1, RepIL.toRep cells g2⟩
theorem Le.ofBox (k : Nat) {b kk : Nat} {t : TypeId} {cells : List AV} {s : List (Nat × AV)} {c cr : List Ch} (hp : takeCh k c = some (.box kk t cells, cr)) (hk : n ≤ k) (hμ : X.μ0 k = b) (himm : AV.imm.immL cells = true) : Le X n ⟨s, c⟩ ⟨s, .abs (boxA b t cells) :: cr⟩ := by
  intro e a w r
  have hkk : kk = k := kid_of_take hp
  subst hkk
  refine ⟨e, { r with slots := r.slots, heap := ?_ }⟩
  refine HeapOK.retell (r.heap.perm (takeCh_perm hp)) ?_
  rintro bs ⟨rfl, arr, g1, g2⟩
  have h1 : e.μ kk = b := by rw [r.fix kk hk, hμ]
  exact ⟨by rw [h1]; rfl, arr, by rw [h1] at g1; exact g1, RepL.toI cells himm g2⟩
theorem Le.slotBp (i k : Nat) {b o : Nat} {s : List (Nat × AV)} {c : List Ch} (hi : get s i = some (PT b o)) (hk : n ≤ k) (hμ : X.μ0 k = b) : Le X n ⟨s, c⟩ ⟨(i, .bp k o) :: s, c⟩ := by
  intro e a w r
  refine ⟨e, { r with slots := fun j x hx => ?_, heap := r.heap }⟩
  rw [get_cons] at hx
  by_cases hij : i = j
  · subst hij
    simp only [if_true, Option.some.injEq] at hx
    subst hx
    obtain ⟨v, h1, h2⟩ := r.slots i _ hi
    refine ⟨v, h1, ?_⟩
    simp only [Rep] at h2 ⊢
    rw [r.fix k hk, hμ]
    exact h2
  · rw [if_neg hij] at hx
    exact r.slots j x hx
theorem Le.cellOwn (q b j d : Nat) {h : Value} {kk : Nat} {t t0 : TypeId} {esz m : Nat} {row : Nat → List AV} {cells : List AV} {s : List (Nat × AV)} {c cr r2 : List Ch} (hp : nthA q c = some (vecA h t esz m row, cr)) (hb : takeCh b cr = some (.box kk t0 cells, r2)) (hj : cells[j]? = some (.v h))
    (hs : ∃ x y z, h = .slice x y z) (hf : freshS d s = true) (hc : freshC d c = true) : Le X n ⟨s, c⟩ ⟨s, .box kk t0 (cells.set j (.own d)) :: .vec d t esz m row :: r2⟩ := by
  intro e a w r
  have q1 := Rel.newHd r d h hf hc
  have hpm : c.Perm (.abs (vecA h t esz m row) :: .box kk t0 cells :: r2) := (nthA_perm hp).trans (.cons _ (takeCh_perm hb))
  have h2 : HeapOK X { e with hd := upd e.hd d h } w (.vec d t esz m row :: .box kk t0 cells :: r2) := HeapOK.retell (q1.heap.perm hpm) (fun bs hbs => by
    obtain ⟨h1, xs, h3, h4⟩ := hbs
    exact ⟨by simp [upd, h1, vecA], xs, by simp only [upd, if_true]; exact h3, h4⟩)
  have h3 := HeapOK.cell (y := .own d) (h2.perm (.swap _ _ _)) hj (fun v hv => by
    simp only [Rep] at hv ⊢
    subst hv
    exact ⟨by simp [upd], hs⟩)
  exact ⟨_, { q1 with slots := q1.slots, heap := h3 }⟩
theorem Rel.cellAbs {s : List (Nat × AV)} {c r1 r2 : List Ch} (r : Rel X n e ⟨s, c⟩ a w) {b j k : Nat} {kv kk : Nat} {t t0 : TypeId} {esz m : Nat} {row : Nat → List AV} {cells : List AV} (hk : takeCh k c = some (.vec kv t esz m row, r1)) (hb : takeCh b r1 = some (.box kk t0 cells, r2)) (hj : cells[j]? = some (.own k)) :
    ∃ h, ((m = 0 ∧ h = .slice none 0 0) ∨ ∃ g cc, h = HD g m cc) ∧ Rel X n e ⟨s, .box kk t0 (cells.set j (.v h)) :: .abs (vecA h t esz m row) :: r2⟩ a w := by
  have hkv : kv = k := kid_of_take hk
  subst hkv
  have hpm : c.Perm (.vec kv t esz m row :: .box kk t0 cells :: r2) := (takeCh_perm hk).trans (.cons _ (takeCh_perm hb))
  have hh := r.heap.perm hpm
  refine ⟨e.hd kv, ?_, { r with slots := r.slots, heap := ?_ }⟩
  · obtain ⟨bs, ⟨hbs, xs, g1, g2⟩, _, hgood⟩ := hh.head
    rcases g1.2 with ⟨hnil, hm⟩ | ⟨g, cap, cur, hsl, _⟩
    · exact .inl ⟨hm, hnil⟩
    · exact .inr ⟨g, cap, hsl⟩
  · have h2 : HeapOK X e w (.abs (vecA (e.hd kv) t esz m row) :: .box kk t0 cells :: r2) := HeapOK.retell hh (fun bs hbs => by
      obtain ⟨h1, xs, h3, h4⟩ := hbs
      exact ⟨by simp [h1, vecA], xs, h3, h4⟩)
    exact HeapOK.cell (y := .v (e.hd kv)) (h2.perm (.swap _ _ _)) hj (fun v hv => by
      simp only [Rep] at hv ⊢
      exact hv.1)
theorem C_cellAbs {Q : Exit → St → Prop} {cd : Code} {s : List (Nat × AV)} {c r1 r2 : List Ch} (b j k : Nat) {kv kk : Nat} {t t0 : TypeId} {esz m : Nat} {row : Nat → List AV} {cells : List AV} (hk : takeCh k c = some (.vec kv t esz m row, r1)) (hb : takeCh b r1 = some (.box kk t0 cells, r2)) (hj : cells[j]? = some (.own k))
    (h : ∀ h, ((m = 0 ∧ h = .slice none 0 0) ∨ ∃ g cc, h = HD g m cc) → SymC X n cd ⟨s, .box kk t0 (cells.set j (.v h)) :: .abs (vecA h t esz m row) :: r2⟩ Q) : SymC X n cd ⟨s, c⟩ Q := fun e a w r => by
  obtain ⟨v, h1, h2⟩ := r.cellAbs hk hb hj
  exact h v h1 e a w h2
end
end Go.Sy

namespace Go.Proofs
open Go.Sy Go.Lib

theorem hCPs : ∀ x : Cf, (cfP x).1.length ≤ 1000 ∧ FnP Tryz.prog 258 [.agg (Cf.c x)] (· = .tup [.s (cfP x).1, I64 (cfP x).2]) := fun x => ⟨cfP_len x, confPut_c x⟩
structure Sht where
  key : Nat
  evs : List Evt
  lns : List Int
def addF (x : Sht) (n : Int) (keyed : Bool) (q : Cu) : Sht × Int :=
  if wordV q = [107, 101, 121] then
    if keyed = true ∨ 0 < x.evs.length then (x, 17)
    else (⟨numV (wordC q), x.evs, x.lns⟩, if doneB (numC (wordC q)) = true then 0 else 1)
  else if (readF (x.key : Int) (wordV q) (wordC q)).1.2 ≠ 0 then (x, (readF (x.key : Int) (wordV q) (wordC q)).1.2)
  else if x.evs.length = 1024 then (x, 3)
  else (⟨x.key, x.evs ++ [(readF (x.key : Int) (wordV q) (wordC q)).1.1], x.lns ++ [n]⟩, 0)
abbrev evR (l : List Evt) (i : Nat) : List AV := Evt.c (l.getD i default)
abbrev lnR (l : List Int) (i : Nat) : List AV := INTc (l.getD i default)
abbrev shA (b : Nat) (x : Sht) (h1 h2 : Value) : List Abs := [boxA b 28 [U64 (x.key : Nat), .v h1, .v h2], vecA h1 54 4 x.evs.length (evR x.evs), vecA h2 3 1 x.lns.length (lnR x.lns)]
def HV (h : Value) (m : Nat) : Prop := (m = 0 ∧ h = .slice none 0 0) ∨ ∃ g cc, h = HD g m cc
theorem HV.sl {h : Value} {m : Nat} (k : HV h m) : ∃ x y z, h = .slice x y z := by
  rcases k with ⟨_, rfl⟩ | ⟨g, cc, rfl⟩ <;> exact ⟨_, _, _, rfl⟩
def ShP (b c : Nat) (y : Sht) (cs' : List Abs) : Prop := ∃ h1 h2 q', HV h1 y.evs.length ∧ HV h2 y.lns.length ∧ cs' = shA b y h1 h2 ++ [cuA c q']
theorem ShP.mk {b c : Nat} {y : Sht} {h1 h2 : Value} {q : Cu} (k1 : HV h1 y.evs.length) (k2 : HV h2 y.lns.length) : ShP b c y (shA b y h1 h2 ++ [cuA c q]) := ⟨h1, h2, q, k1, k2, rfl⟩
def CSh (key : Int) (es : List Evt) (ls : List Int) (v : Evt) (n : Int) (c : Nat) (q : Cu) (b8 b15 b18 b21 : Bool) : List Ch :=
  [.box 74 28 [U64 key, bif b18 then .own 62 else .own 75, bif b21 then .own 69 else .own 76], .box 10 54 (Evt.c v),
   bif b8 then .vec 62 54 4 (es.length + 1) (evR (es ++ [v])) else .vec 75 54 4 es.length (evR es),
   bif b15 then .vec 69 3 1 (ls.length + 1) (lnR (ls ++ [n])) else .vec 76 3 1 ls.length (lnR ls), .abs (cuA c q)]
def PSh : Pl := ⟨[[], [], [], [], [], [], [], [], [], [], [], [], [], [], [], [8], [], [], [5, 8, 15], [], [], [12, 8, 15, 18]], [8, 15, 18, 21], [(8, 62), (15, 69)], []⟩
theorem snoc_rows {α : Type} [Inhabited α] {cells : α → List AV} {e : Nat} {it : List α} {w : α} (he : (cells w).length = e) {i : Nat} (h : i < it.length + 1) : appRow it.length (fun i => cells (it.getD i default)) (chunkRow e (cells w)) i = cells ((it ++ [w]).getD i default) := by
  unfold appRow
  by_cases hi : i < it.length
  · rw [if_pos hi]
    show cells (it.getD i default) = cells ((it ++ [w]).getD i default)
    simp [List.getD, List.getElem?_append_left hi]
  · rw [if_neg hi]
    obtain rfl : i = it.length := by omega
    rw [Nat.sub_self]
    show chunkRow e (cells w) 0 = cells ((it ++ [w]).getD it.length default)
    unfold chunkRow
    simp [List.getD, ← he]
theorem chunk1 {e : Nat} {l : List AV} (h : l.length = e) : ∀ i, i < 1 → (chunkRow e l i).length = e := fun i hi => by
  obtain rfl : i = 0 := by omega
  simp [chunkRow, h]
theorem add_S (b c : Nat) (x : Sht) (h1 h2 : Value) (n : Int) (keyed : Bool) (q : Cu) (hk : x.key < 18446744073709551616) (k1 : HV h1 x.evs.length) (k2 : HV h2 x.lns.length) (he : x.evs.length ≤ 1024) (hl : x.lns.length ≤ 1024) (hT : CuT q) :
    FnA Tryz.prog 16 [PT b 0, I64 n, B keyed, PT c 0] (shA b x h1 h2 ++ [cuA c q]) (fun r cs' => r = I64 (addF x n keyed q).2 ∧ ShP b c (addF x n keyed q).1 cs') := by
  refine FnA.introM (fun _ => b) Tryz.tabOK Tryz.wide_ Tryz.func16 rfl (by decide) rfl (fun X hμ => ?_)
  obtain ⟨R0, hR0⟩ : ∃ R0, addF x n keyed q = R0 := ⟨_, rfl⟩
  rw [hR0]
  unfold addF at hR0
  repeat (first | refine sc rfl ?_ | refine so rfl ?_)
  refine O_callA [3] (word_S c q) (by rfl) (by rfl) (by rfl) (by rfl) (by rfl) ?_
  rintro r' cs' ⟨rfl, rfl⟩
  repeat (first | refine sc rfl ?_ | refine so rfl ?_)
  refine C_if rfl (fun m1 => ?_) (fun m1 => ?_) <;> simp only [pL] at m1
  · rw [if_pos m1] at hR0
    repeat (first | refine sc rfl ?_ | refine so rfl ?_)
    cases keyed with
    | true =>
      rw [if_pos (.inl rfl)] at hR0
      subst hR0
      repeat refine so rfl ?_
      refine C_true rfl rfl ?_
      repeat (first | refine sc rfl ?_ | refine so rfl ?_)
      exact ⟨_, [_, _, _, _], _, rfl, pickA_perm (is := [1, 1, 1, 0]) (As := [_, _, _, _]) rfl, rfl, rfl, ShP.mk k1 k2⟩
    | false =>
      repeat refine so rfl ?_
      refine O_loadP 1 (reads_box 1) rfl rfl rfl rfl rfl rfl ?_
      repeat refine sc rfl ?_
      refine O_Xd (X_lenV 2 rfl rfl rfl rfl rfl) ?_
      repeat refine so rfl ?_
      refine C_if rfl (fun m3 => ?_) (fun m3 => ?_) <;> simp only [pL] at m3
      · rw [if_pos (.inr (by omega))] at hR0
        subst hR0
        repeat (first | refine sc rfl ?_ | refine so rfl ?_)
        exact ⟨_, [_, _, _, _], _, rfl, pickA_perm (is := [1, 1, 1, 0]) (As := [_, _, _, _]) rfl, rfl, rfl, ShP.mk k1 k2⟩
      · rw [if_neg (by rintro (h | h); exact absurd h (by decide); omega)] at hR0
        repeat (first | refine sc rfl ?_ | refine so rfl ?_)
        refine O_callA [0] (num_S c (wordC q) hT.ok.word) (by rfl) (by rfl) (by rfl) (by rfl) (by rfl) ?_
        rintro r' cs' ⟨rfl, rfl⟩
        repeat refine so rfl ?_
        refine O_Xn (X_storeP 1 (writes_box (by show 0 < 3; decide)) rfl rfl rfl rfl rfl rfl rfl) ?_
        repeat (first | refine sc rfl ?_ | refine so rfl ?_)
        refine O_callA [1] (done_S c (numC (wordC q))) (by rfl) (by rfl) (by rfl) (by rfl) (by rfl) ?_
        rintro r' cs' ⟨rfl, rfl⟩
        repeat refine so rfl ?_
        cases hd : doneB (numC (wordC q)) with
        | false =>
          rw [hd, if_neg (by decide)] at hR0
          subst hR0
          refine C_true rfl rfl ?_
          repeat (first | refine sc rfl ?_ | refine so rfl ?_)
          exact ⟨_, shA b ⟨numV (wordC q), x.evs, x.lns⟩ h1 h2 ++ [cuA c (numC (wordC q))], _, rfl, pickA_perm (is := [1, 1, 1, 0]) (As := shA b ⟨numV (wordC q), x.evs, x.lns⟩ h1 h2 ++ [cuA c (numC (wordC q))]) rfl, rfl, rfl, ShP.mk k1 k2⟩
        | true =>
          rw [hd, if_pos rfl] at hR0
          subst hR0
          refine C_false rfl rfl ?_
          repeat (first | refine sc rfl ?_ | refine so rfl ?_)
          exact ⟨_, shA b ⟨numV (wordC q), x.evs, x.lns⟩ h1 h2 ++ [cuA c (numC (wordC q))], _, rfl, pickA_perm (is := [1, 1, 1, 0]) (As := shA b ⟨numV (wordC q), x.evs, x.lns⟩ h1 h2 ++ [cuA c (numC (wordC q))]) rfl, rfl, rfl, ShP.mk k1 k2⟩
  · rw [if_neg m1] at hR0
    repeat (first | refine sc rfl ?_ | refine so rfl ?_)
    refine O_loadP 1 (reads_box 0) rfl rfl rfl rfl rfl rfl ?_
    repeat refine so rfl ?_
    refine O_callA [0] (read_S c (x.key : Int) (wordV q) (wordC q) hT.tl hCPs) (by rfl) (by rfl) (by rfl) (by rfl) (by rfl) ?_
    rintro r' cs' ⟨rfl, rfl⟩
    generalize readF (x.key : Int) (wordV q) (wordC q) = R1 at hR0 ⊢
    obtain ⟨⟨v, e⟩, q1⟩ := R1
    simp only [] at hR0
    repeat (first | refine sc rfl ?_ | refine so rfl ?_)
    refine C_if rfl (fun m2 => ?_) (fun m2 => ?_) <;> simp only [pL] at m2
    · rw [if_pos m2] at hR0
      subst hR0
      repeat (first | refine sc rfl ?_ | refine so rfl ?_)
      exact ⟨_, [_, _, _, _], _, rfl, pickA_perm (is := [2, 2, 2, 1]) (As := [_, _, _, _]) rfl, rfl, rfl, ShP.mk k1 k2⟩
    rw [if_neg (fun h => h m2)] at hR0
    repeat (first | refine sc rfl ?_ | refine so rfl ?_)
    refine O_loadP 2 (reads_box 1) rfl rfl rfl rfl rfl rfl ?_
    repeat refine sc rfl ?_
    refine O_Xd (X_lenV 3 rfl rfl rfl rfl rfl) ?_
    repeat refine so rfl ?_
    refine C_if rfl (fun m3 => ?_) (fun m3 => ?_) <;> simp only [pL] at m3
    · rw [if_pos (by omega)] at hR0
      subst hR0
      repeat (first | refine sc rfl ?_ | refine so rfl ?_)
      exact ⟨_, [_, _, _, _], _, rfl, pickA_perm (is := [2, 2, 2, 1]) (As := [_, _, _, _]) rfl, rfl, rfl, ShP.mk k1 k2⟩
    rw [if_neg (by omega)] at hR0
    subst hR0
    repeat refine sc rfl ?_
    refine C_le _ (Le.toBox 2 74 rfl (by decide) (by rw [hμ])) ?_
    refine C_le _ (Le.slotBp 0 74 rfl (by decide) (by rw [hμ])) ?_
    refine C_le _ (Le.cellOwn 3 74 1 75 rfl rfl rfl k1.sl rfl rfl) ?_
    refine C_le _ (Le.cellOwn 4 74 2 76 rfl rfl rfl k2.sl rfl rfl) ?_
    refine C_le _ (Le.pick [0, 2, 1, 0, 0] (s2 := [(0, .bp 74 0), (1, I64 n), (10, .bp 10 0)]) ⟨rfl, rfl, rfl, trivial⟩ rfl) ?_
    refine C_drawM PSh (fun L => CSh (x.key : Nat) x.evs x.lns v n c q1 (L 8) (L 15) (L 18) (L 21)) rfl (by kernel_rfl) (fun L L' h => by show CSh (x.key : Nat) x.evs x.lns v n c q1 (L 8) (L 15) (L 18) (L 21) = CSh (x.key : Nat) x.evs x.lns v n c q1 (L' 8) (L' 15) (L' 18) (L' 21); rw [h 8 (by decide), h 15 (by decide), h 18 (by decide), h 21 (by decide)]) rfl ?_
    refine sm rfl ⟨trivial, ?_⟩
    refine sm rfl ⟨trivial, ?_⟩
    refine sm rfl ⟨trivial, ?_⟩
    refine sm rfl ⟨trivial, ?_⟩
    refine sm rfl ⟨trivial, ?_⟩
    refine SM (.own 75) rfl (fun L h1 h2 h3 => ?_) ?_
    · show StepX _ _ _ _ _ (CSh (x.key : Nat) x.evs x.lns v n c q1 (L 8) (L 15) (L 18) (L 21)) (CSh (x.key : Nat) x.evs x.lns v n c q1 (L 8) (L 15) (L 18) (L 21)) _ _ _
      rw [h2 18 (show (5 : Nat) ∈ PSh.anc 18 by decide)]
      exact X_stillX rfl rfl rfl trivial
    refine SM (.agg (Evt.c v)) rfl (fun L h1 h2 h3 => ?_) ?_
    · show StepX _ _ _ _ _ (CSh (x.key : Nat) x.evs x.lns v n c q1 (L 8) (L 15) (L 18) (L 21)) (CSh (x.key : Nat) x.evs x.lns v n c q1 (L 8) (L 15) (L 18) (L 21)) _ _ _
      exact X_stillX rfl rfl rfl trivial
    refine SM (.sl 1 4 (chunkRow 4 (Evt.c v))) rfl (fun L h1 h2 h3 => ?_) ?_
    · show StepX _ _ _ _ _ (CSh (x.key : Nat) x.evs x.lns v n c q1 (L 8) (L 15) (L 18) (L 21)) (CSh (x.key : Nat) x.evs x.lns v n c q1 (L 8) (L 15) (L 18) (L 21)) _ _ _
      exact X_bsl rfl rfl rfl
    refine SM (.own 62) rfl (fun L h1 h2 h3 => ?_) ?_
    · show StepX _ _ _ _ _ (CSh (x.key : Nat) x.evs x.lns v n c q1 (L 8) (L 15) (L 18) (L 21)) (CSh (x.key : Nat) x.evs x.lns v n c q1 true (L 15) (L 18) (L 21)) _ _ _
      rw [show L 8 = false from h3, h2 15 (show (8 : Nat) ∈ PSh.anc 15 by decide), h2 18 (show (8 : Nat) ∈ PSh.anc 18 by decide), h2 21 (show (8 : Nat) ∈ PSh.anc 21 by decide)]
      exact (X_appendK (m3 := x.evs.length + 1) (row3 := evR (x.evs ++ [v])) rfl rfl rfl rfl rfl rfl rfl (chunk1 (e := 4) rfl) rfl (show ((8, 62) : Nat × Nat) ∈ PSh.cre by decide) rfl rfl (by show (x.evs.length + 1) * 40 ≤ 140737488355328; omega) (by simp only [maxLen]; omega) rfl (fun j hj => snoc_rows rfl hj)).perm (by exact (List.perm_middle (l₁ := [_, _])).symm)
    refine sm rfl ⟨trivial, ?_⟩
    refine sm rfl ⟨trivial, ?_⟩
    refine sm rfl ⟨trivial, ?_⟩
    refine SM (.own 76) rfl (fun L h1 h2 h3 => ?_) ?_
    · show StepX _ _ _ _ _ (CSh (x.key : Nat) x.evs x.lns v n c q1 (L 8) (L 15) (L 18) (L 21)) (CSh (x.key : Nat) x.evs x.lns v n c q1 (L 8) (L 15) (L 18) (L 21)) _ _ _
      rw [h2 21 (show (12 : Nat) ∈ PSh.anc 21 by decide)]
      exact X_stillX rfl rfl rfl trivial
    refine sm rfl ⟨trivial, ?_⟩
    refine SM (.sl 1 1 (chunkRow 1 [I64 n])) rfl (fun L h1 h2 h3 => ?_) ?_
    · show StepX _ _ _ _ _ (CSh (x.key : Nat) x.evs x.lns v n c q1 (L 8) (L 15) (L 18) (L 21)) (CSh (x.key : Nat) x.evs x.lns v n c q1 (L 8) (L 15) (L 18) (L 21)) _ _ _
      exact X_bsl rfl rfl rfl
    refine SM (.own 69) rfl (fun L h1 h2 h3 => ?_) ?_
    · show StepX _ _ _ _ _ (CSh (x.key : Nat) x.evs x.lns v n c q1 (L 8) (L 15) (L 18) (L 21)) (CSh (x.key : Nat) x.evs x.lns v n c q1 (L 8) true (L 18) (L 21)) _ _ _
      rw [show L 15 = false from h3, h1 8 (show (8 : Nat) ∈ PSh.anc 15 by decide), h2 18 (show (15 : Nat) ∈ PSh.anc 18 by decide), h2 21 (show (15 : Nat) ∈ PSh.anc 21 by decide)]
      exact (X_appendK (m3 := x.lns.length + 1) (row3 := lnR (x.lns ++ [n])) rfl rfl rfl rfl rfl rfl rfl (chunk1 (e := 1) rfl) rfl (show ((15, 69) : Nat × Nat) ∈ PSh.cre by decide) rfl rfl (by show (x.lns.length + 1) * 8 ≤ 140737488355328; omega) (by simp only [maxLen]; omega) rfl (fun j hj => snoc_rows (cells := INTc) rfl hj)).perm (by exact (List.perm_middle (l₁ := [_, _, _])).symm)
    refine sm rfl ⟨trivial, ?_⟩
    refine sm rfl ⟨trivial, ?_⟩
    refine SM (.bad) rfl (fun L h1 h2 h3 => ?_) ?_
    · show StepX _ _ _ _ _ (CSh (x.key : Nat) x.evs x.lns v n c q1 (L 8) (L 15) (L 18) (L 21)) (CSh (x.key : Nat) x.evs x.lns v n c q1 (L 8) (L 15) true (L 21)) _ _ _
      rw [show L 18 = false from h3, h1 8 (show (8 : Nat) ∈ PSh.anc 18 by decide), h1 15 (show (15 : Nat) ∈ PSh.anc 18 by decide), h2 21 (show (18 : Nat) ∈ PSh.anc 21 by decide)]
      exact X_storeK rfl rfl rfl rfl rfl rfl rfl rfl rfl
    refine sm rfl ⟨trivial, ?_⟩
    refine sm rfl ⟨trivial, ?_⟩
    refine SM (.bad) rfl (fun L h1 h2 h3 => ?_) ?_
    · show StepX _ _ _ _ _ (CSh (x.key : Nat) x.evs x.lns v n c q1 (L 8) (L 15) (L 18) (L 21)) (CSh (x.key : Nat) x.evs x.lns v n c q1 (L 8) (L 15) (L 18) true) _ _ _
      rw [show L 21 = false from h3, h1 8 (show (8 : Nat) ∈ PSh.anc 21 by decide), h1 15 (show (15 : Nat) ∈ PSh.anc 21 by decide), h1 18 (show (18 : Nat) ∈ PSh.anc 21 by decide)]
      exact X_storeK rfl rfl rfl rfl rfl rfl rfl rfl rfl
    refine sm rfl ?_
    show SymC _ _ _ ⟨_, [.box 74 28 [U64 (x.key : Nat), .own 62, .own 69], .box 10 54 (Evt.c v), .vec 62 54 4 (x.evs.length + 1) (evR (x.evs ++ [v])), .vec 69 3 1 (x.lns.length + 1) (lnR (x.lns ++ [n])), .abs (cuA c q1)]⟩ _
    refine C_cellAbs 74 1 62 rfl rfl rfl (fun g1 hg1 => ?_)
    refine C_cellAbs 74 2 69 rfl rfl rfl (fun g2 hg2 => ?_)
    refine C_le _ (Le.ofBox 74 (b := b) rfl (by decide) (by rw [hμ]) rfl) ?_
    repeat (first | refine sc rfl ?_ | refine so rfl ?_)
    have e1 : (x.evs ++ [v]).length = x.evs.length + 1 := by simp
    have e2 : (x.lns ++ [n]).length = x.lns.length + 1 := by simp
    refine ⟨_, shA b ⟨x.key, x.evs ++ [v], x.lns ++ [n]⟩ g1 g2 ++ [cuA c q1], [.box 10 54 (Evt.c v)], rfl, ?_, rfl, rfl, ShP.mk (by rw [e1]; exact hg1) (by rw [e2]; exact hg2)⟩
    simp only [shA, e1, e2]
    exact pickA_perm (is := [0, 1, 0, 1]) (As := [_, _, _, _]) rfl
end Go.Proofs

namespace Go.Proofs
open Go.Sy Go.Lib

def muchF (s : List UInt8) : Bool := decide (9000 < s.length ∨ 150 < s.count 10)
theorem much_c (s : List UInt8) : FnP Tryz.prog 6 [.s s] (· = B (muchF s)) := by
  refine FnP.intro Tryz.tabOK Tryz.wide_ Tryz.func6 rfl (by decide) rfl (fun X => ?_)
  unfold muchF
  repeat (first | refine sc rfl ?_ | refine so rfl ?_)
  refine C_if rfl (fun h1 => ?_) (fun h1 => ?_) <;> simp only [pL] at h1
  · repeat (first | refine sc rfl ?_ | refine so rfl ?_)
    exact ⟨_, rfl, rfl, congrArg B (by simp; omega)⟩
  repeat (first | refine sc rfl ?_ | refine so rfl ?_)
  refine C_loop (fun i : Nat => ⟨[(0, .s s), (3, I64 (((s.take i).count 10 : Nat) : Int)), (4, I64 (i : Nat))], []⟩) (fun i => i ≤ s.length) (fun i => s.length - i) 0 (Nat.zero_le _) (Le.sub [] ⟨rfl, rfl, rfl, trivial⟩ rfl) ?_
  intro i hi
  have hc := @List.count_le_length _ _ (10 : UInt8) (s.take i)
  rw [List.length_take] at hc
  repeat (first | refine sc rfl ?_ | refine so rfl ?_)
  refine C_if rfl (fun m1 => ?_) (fun m1 => ?_) <;> simp only [pL] at m1
  · have hil : i < s.length := by omega
    obtain ⟨x, hxe⟩ : ∃ x, s.getD i 0 = x := ⟨_, rfl⟩
    have htk : s.take (i + 1) = s.take i ++ [x] := by
      rw [List.take_add_one, List.getElem?_eq_getElem hil, ← hxe, List.getD_eq_getElem?_getD, List.getElem?_eq_getElem hil]; rfl
    repeat (first | refine sc rfl ?_ | refine so rfl ?_)
    refine ⟨by omega, ?_⟩
    simp only [Int.toNat_natCast, hxe]
    repeat refine so rfl ?_
    refine C_if rfl (fun h2 => ?_) (fun h2 => ?_) <;> simp only [pL] at h2
    · have hx : x = 10 := UInt8.toNat_inj.1 (by show x.toNat = 10; omega)
      have e : (s.take (i + 1)).count 10 = (s.take i).count 10 + 1 := by rw [htk, List.count_append, hx]; rfl
      repeat (first | refine sc rfl ?_ | refine so rfl ?_)
      rw [w64 (x := (((s.take i).count 10 : Nat) : Int) + 1) (by omega) (by omega), w64 (x := (i : Int) + 1) (by omega) (by omega), show (((s.take i).count 10 : Nat) : Int) + 1 = (((s.take (i + 1)).count 10 : Nat) : Int) by omega]
      exact ⟨i + 1, hil, by omega, Le.sub [] ⟨rfl, rfl, rfl, trivial⟩ rfl⟩
    · have hx : x ≠ 10 := fun e => by rw [e] at h2; exact h2 rfl
      have e : (s.take (i + 1)).count 10 = (s.take i).count 10 := by rw [htk, List.count_append, List.count_singleton]; simp [hx]
      repeat (first | refine sc rfl ?_ | refine so rfl ?_)
      rw [w64 (x := (i : Int) + 1) (by omega) (by omega), ← e]
      exact ⟨i + 1, hil, by omega, Le.sub [] ⟨rfl, rfl, rfl, trivial⟩ rfl⟩
  · obtain rfl : i = s.length := by omega
    rw [List.take_length]
    repeat (first | refine sc rfl ?_ | refine so rfl ?_)
    exact ⟨_, rfl, rfl, congrArg B (by rw [decide_eq_decide]; omega)⟩
end Go.Proofs

namespace Go.Proofs
open Go.Sy Go.Lib

theorem spl_app (c : UInt8) (b : List UInt8) : ∀ a, spl c (a ++ c :: b) = spl c a ++ spl c b
  | [] => by simp [spl]
  | x :: r => by
    have ih := spl_app c b r
    simp only [List.cons_append, spl, ih]
    split
    · simp
    · cases hs : spl c r with
      | nil => exact absurd hs (spl_ne c r)
      | cons p q => simp
end Go.Proofs

namespace Go.Proofs
open Go.Sy Go.Lib

theorem spl_sum (c : UInt8) : ∀ l, ((spl c l).map fun w => w.length + 1).sum = l.length + 1
  | [] => rfl
  | x :: r => by
    have ih := spl_sum c r
    unfold spl
    split
    · simp only [List.map_cons, List.sum_cons, ih, List.length_cons, List.length_nil]; omega
    · cases h : spl c r with
      | nil => exact absurd h (spl_ne c r)
      | cons p q =>
        rw [h] at ih
        simp only [List.map_cons, List.sum_cons, List.length_cons] at ih ⊢
        omega
theorem words_sum (l : List UInt8) : ((wordsF l).map fun w => w.length + 1).sum ≤ l.length + 1 := by
  have h := spl_sum 32 l
  rw [← h]
  unfold wordsF
  generalize spl 32 l = L
  induction L with
  | nil => simp
  | cons a L ih =>
    rw [List.filter_cons]
    split <;> simp only [List.map_cons, List.sum_cons] <;> omega
theorem spl_le {c : UInt8} {l p : List UInt8} (h : p ∈ spl c l) : p.length ≤ l.length := by
  have h1 := spl_sum c l
  have h2 : p.length + 1 ≤ ((spl c l).map fun w => w.length + 1).sum := by
    generalize spl c l = L at h
    induction L with
    | nil => cases h
    | cons a L ih =>
      simp only [List.map_cons, List.sum_cons]
      rcases List.mem_cons.1 h with rfl | h
      · omega
      · have := ih h; omega
  omega
def Sht.nil : Sht := ⟨0, [], []⟩
def rdL : Nat → Sht → Bool → List (List UInt8) → Sht × Int × Nat
  | _, x, _, [] => (x, 0, 0)
  | i, x, k, l :: r => match wordsF l with
    | [] => rdL (i + 1) x k r
    | w :: ws => if w.head? = some 35 then rdL (i + 1) x k r
      else if (addF x ((i + 1 : Nat) : Int) k (w :: ws, false)).2 ≠ 0 then (Sht.nil, (addF x ((i + 1 : Nat) : Int) k (w :: ws, false)).2, i + 1)
      else rdL (i + 1) (addF x ((i + 1 : Nat) : Int) k (w :: ws, false)).1 (k || (w == [107, 101, 121])) r
def readS (s : List UInt8) : Sht × Int × Nat := rdL 0 Sht.nil false (spl 10 s)
theorem words_ne {l w : List UInt8} {ws : List (List UInt8)} (h : wordsF l = w :: ws) : w ≠ [] := by
  have h1 : w ∈ wordsF l := by rw [h]; exact List.mem_cons_self ..
  unfold wordsF at h1
  have h2 := (List.mem_filter.1 h1).2
  unfold notE at h2
  intro e
  rw [e] at h2
  exact absurd h2 (by decide)
theorem addF_le (x : Sht) (n : Int) (k : Bool) (q : Cu) (i : Nat) (h1 : x.evs.length ≤ i) (h2 : x.lns.length ≤ i) (h3 : x.key < 18446744073709551616) :
    (addF x n k q).1.evs.length ≤ i + 1 ∧ (addF x n k q).1.lns.length ≤ i + 1 ∧ (addF x n k q).1.key < 18446744073709551616 := by
  unfold addF
  split
  · split
    · exact ⟨by simp only []; omega, by simp only []; omega, h3⟩
    · exact ⟨by simp only []; omega, by simp only []; omega, numV_lt _⟩
  · split
    · exact ⟨by simp only []; omega, by simp only []; omega, h3⟩
    · split
      · exact ⟨by simp only []; omega, by simp only []; omega, h3⟩
      · exact ⟨by simp; omega, by simp; omega, h3⟩
def RdP (y : Sht × Int × Nat) (r : AV) (cs' : List Abs) : Prop := ∃ h1 h2, HV h1 y.1.evs.length ∧ HV h2 y.1.lns.length ∧ r = .tup [.agg [U64 (y.1.key : Nat), .v h1, .v h2], .agg [I64 y.2.1, I64 (y.2.2 : Nat)]] ∧
  cs' = [vecA h1 54 4 y.1.evs.length (evR y.1.evs), vecA h2 3 1 y.1.lns.length (lnR y.1.lns)]
theorem Read_A (s : List UInt8) (hs : s.length ≤ 100000) (hn : s.count 10 ≤ 1000) : FnA Tryz.prog 8 [.s s] [] (RdP (readS s)) := by
  refine FnA.intro Tryz.tabOK Tryz.wide_ Tryz.func8 rfl (by decide) rfl (fun X => ?_)
  repeat (first | refine sc rfl ?_ | refine so rfl ?_)
  refine O_call (Split_c s 10 (by omega)) (by rfl) (by rfl) (by rfl) (by rfl) (fun r hr => ?_)
  subst hr
  refine O_absb 4 rfl rfl rfl (fun b => ?_)
  refine O_le _ (Le.addAbs (vecA (.slice none 0 0) 54 4 0 (evR [])) rfl (fun _ _ => ⟨[], ⟨rfl, .inl ⟨rfl, rfl⟩⟩, fun i hi => absurd hi (Nat.not_lt_zero _)⟩)) ?_
  refine O_le _ (Le.addAbs (vecA (.slice none 0 0) 3 1 0 (lnR [])) rfl (fun _ _ => ⟨[], ⟨rfl, .inl ⟨rfl, rfl⟩⟩, fun i hi => absurd hi (Nat.not_lt_zero _)⟩)) ?_
  have hL : ∀ l ∈ spl 10 s, l.length ≤ 100000 := fun l hl => Nat.le_trans (spl_le hl) hs
  have hc : (spl 10 s).length ≤ 1001 := by rw [spl_len]; omega
  obtain ⟨R0, hR0⟩ : ∃ R0, readS s = R0 := ⟨_, rfl⟩
  rw [hR0]
  unfold readS at hR0
  generalize spl 10 s = L at hR0 hL hc ⊢
  repeat (first | refine sc rfl ?_ | refine so rfl ?_)
  refine C_loop (fun (q : Nat × Sht × Bool × Value × Value) => ⟨[(2, .bp 2 0), (3, .bp 3 0), (4, PT b 0), (5, B q.2.2.1), (11, SL 1 wc1 L), (12, I64 (L.length : Nat)), (13, I64 (q.1 : Nat))], .box 2 28 [U64 0, .v (.slice none 0 0), .v (.slice none 0 0)] :: .box 3 31 [I64 0, I64 0] :: (shA b q.2.1 q.2.2.2.1 q.2.2.2.2).map Ch.abs⟩)
    (fun q => q.1 ≤ L.length ∧ HV q.2.2.2.1 q.2.1.evs.length ∧ HV q.2.2.2.2 q.2.1.lns.length ∧ q.2.1.evs.length ≤ q.1 ∧ q.2.1.lns.length ≤ q.1 ∧ q.2.1.key < 18446744073709551616 ∧ rdL q.1 q.2.1 q.2.2.1 (L.drop q.1) = R0) (fun q => L.length - q.1) (0, Sht.nil, false, .slice none 0 0, .slice none 0 0)
    ⟨Nat.zero_le _, .inl ⟨rfl, rfl⟩, .inl ⟨rfl, rfl⟩, Nat.le_refl _, Nat.le_refl _, by decide, hR0⟩ (Le.pick [4, 3, 2, 1, 0] ⟨rfl, rfl, rfl, rfl, rfl, rfl, rfl, trivial⟩ rfl) ?_
  rintro ⟨i, x, k, h1, h2⟩ ⟨g1, g2, g3, g4, g5, g6, g7⟩
  simp only [] at g1 g2 g3 g4 g5 g6 g7
  repeat (first | refine sc rfl ?_ | refine so rfl ?_)
  refine C_if rfl (fun m1 => ?_) (fun m1 => ?_) <;> simp only [pL] at m1
  · have hi : i < L.length := by omega
    obtain ⟨l, hl⟩ : ∃ l, L.getD i default = l := ⟨_, rfl⟩
    have hle : L[i] = l := by rw [← hl, List.getD_eq_getElem?_getD, List.getElem?_eq_getElem hi]; rfl
    have hll := hL L[i] (List.getElem_mem hi)
    rw [hle] at hll
    rw [List.drop_eq_getElem_cons hi, hle] at g7
    repeat (first | refine sc rfl ?_ | refine so rfl ?_)
    refine ⟨⟨by show (0 : Int) ≤ ((i : Nat) : Int); omega, by show ((i : Nat) : Int) < ((L.length : Nat) : Int); omega⟩, ?_⟩
    simp only [Int.toNat_natCast, hl]
    repeat (first | refine sc rfl ?_ | refine so rfl ?_)
    refine O_call (words_c l (by omega)) (by rfl) (by rfl) (by rfl) (by rfl) (fun r hr => ?_)
    subst hr
    have hsum := words_sum l
    unfold rdL at g7
    have hnext : ∀ (y : Sht) (k' : Bool) (a1 a2 : Value), HV a1 y.evs.length → HV a2 y.lns.length → True := fun _ _ _ _ _ _ => trivial
    cases hW : wordsF l with
    | nil =>
      rw [hW] at g7
      simp only [] at g7
      repeat (first | refine sc rfl ?_ | refine so rfl ?_)
      refine C_true rfl rfl ?_
      repeat (first | refine sc rfl ?_ | refine so rfl ?_)
      rw [w64 (x := (i : Int) + 1) (by omega) (by omega)]
      exact ⟨(i + 1, x, k, h1, h2), ⟨hi, g2, g3, Nat.le_succ_of_le g4, Nat.le_succ_of_le g5, g6, g7⟩, by simp only []; omega, Le.pick [0, 0, 0, 0, 0] ⟨rfl, rfl, rfl, rfl, rfl, rfl, rfl, trivial⟩ rfl⟩
    | cons w ws =>
      rw [hW] at g7 hsum
      simp only [] at g7
      have hwn := words_ne hW
      obtain ⟨ch, wr, rfl⟩ : ∃ ch wr, w = ch :: wr := by cases w with
        | nil => exact absurd rfl hwn
        | cons a r => exact ⟨a, r, rfl⟩
      repeat (first | refine sc rfl ?_ | refine so rfl ?_)
      refine ⟨⟨Int.le_refl _, by simp only [List.length_cons]; omega⟩, ?_⟩
      repeat refine so rfl ?_
      refine ⟨⟨Int.le_refl _, by show (0 : Int) < (((ch :: wr).length : Nat) : Int); simp only [List.length_cons]; omega⟩, ?_⟩
      repeat refine so rfl ?_
      refine C_if rfl (fun m2 => ?_) (fun m2 => ?_) <;> simp only [pL] at m2
      · have hch : ch = 35 := by
          have h3 : ch.toNat = 35 := by
            have h4 : ((ch.toNat : Nat) : Int) = 35 := m2
            omega
          exact UInt8.toNat_inj.1 h3
        rw [if_pos (by rw [hch]; rfl)] at g7
        repeat (first | refine sc rfl ?_ | refine so rfl ?_)
        rw [w64 (x := (i : Int) + 1) (by omega) (by omega)]
        exact ⟨(i + 1, x, k, h1, h2), ⟨hi, g2, g3, Nat.le_succ_of_le g4, Nat.le_succ_of_le g5, g6, g7⟩, by simp only []; omega, Le.pick [0, 0, 0, 0, 0] ⟨rfl, rfl, rfl, rfl, rfl, rfl, rfl, trivial⟩ rfl⟩
      rw [if_neg (by
        intro e
        simp only [List.head?_cons, Option.some.injEq] at e
        subst e
        exact m2 rfl)] at g7
      repeat (first | refine sc rfl ?_ | refine so rfl ?_)
      rw [w64 (x := (i : Int) + 1) (by omega) (by omega)]
      repeat refine sc rfl ?_
      refine O_absb 35 rfl rfl rfl (fun c => ?_)
      refine O_callA [3, 3, 3, 0] (add_S b c x h1 h2 ((i + 1 : Nat) : Int) k ((ch :: wr) :: ws, false) g6 g2 g3 (by omega) (by omega) (by show ((((ch :: wr) :: ws)).map fun w => w.length + 1).sum ≤ 1000000; omega)) (by rfl) (by rfl) (by rfl) (by rfl) (by rfl) ?_
      have hle2 := addF_le x ((i + 1 : Nat) : Int) k ((ch :: wr) :: ws, false) i g4 g5 g6
      generalize addF x ((i + 1 : Nat) : Int) k ((ch :: wr) :: ws, false) = Y at g7 hle2 ⊢
      obtain ⟨y, e⟩ := Y
      simp only [] at g7 hle2
      rintro r' cs' ⟨rfl, a1, a2, q', k1, k2, rfl⟩
      simp only [] at k1 k2
      repeat (first | refine sc rfl ?_ | refine so rfl ?_)
      refine C_if rfl (fun m3 => ?_) (fun m3 => ?_) <;> simp only [pL] at m3
      · rw [if_pos m3] at g7
        subst g7
        refine C_le _ (Le.addAbs (vecA (.slice none 0 0) 54 4 0 (evR [])) rfl (fun _ _ => ⟨[], ⟨rfl, .inl ⟨rfl, rfl⟩⟩, fun i hi => absurd hi (Nat.not_lt_zero _)⟩)) ?_
        refine C_le _ (Le.addAbs (vecA (.slice none 0 0) 3 1 0 (lnR [])) rfl (fun _ _ => ⟨[], ⟨rfl, .inl ⟨rfl, rfl⟩⟩, fun i hi => absurd hi (Nat.not_lt_zero _)⟩)) ?_
        repeat (first | refine sc rfl ?_ | refine so rfl ?_)
        rw [w64 (x := (i : Int) + 1) (by omega) (by omega)]
        repeat refine sc rfl ?_
        refine ⟨_, [vecA (.slice none 0 0) 54 4 0 (evR []), vecA (.slice none 0 0) 3 1 0 (lnR [])], _, rfl, pickA_perm (is := [3, 2]) (As := [_, _]) rfl, rfl, .slice none 0 0, .slice none 0 0, .inl ⟨rfl, rfl⟩, .inl ⟨rfl, rfl⟩, rfl, rfl⟩
      rw [if_neg (fun h => h m3)] at g7
      repeat (first | refine sc rfl ?_ | refine so rfl ?_)
      have fin : ∀ (k' : Bool), (k || ((ch :: wr) == [107, 101, 121])) = k' → rdL (i + 1) y k' (List.drop (i + 1) L) = R0 := fun k' hk => by rw [← hk]; exact g7
      cases k with
      | true =>
        repeat (first | refine sc rfl ?_ | refine so rfl ?_)
        rw [w64 (x := (i : Int) + 1) (by omega) (by omega)]
        exact ⟨(i + 1, y, true, a1, a2), ⟨hi, k1, k2, hle2.1, hle2.2.1, hle2.2.2, fin true rfl⟩, by simp only []; omega, Le.pick [4, 4, 0, 0, 0] ⟨rfl, rfl, rfl, rfl, rfl, rfl, rfl, trivial⟩ rfl⟩
      | false =>
        repeat refine so rfl ?_
        refine ⟨⟨Int.le_refl _, by simp only [List.length_cons]; omega⟩, ?_⟩
        repeat (first | refine sc rfl ?_ | refine so rfl ?_)
        rw [w64 (x := (i : Int) + 1) (by omega) (by omega)]
        exact ⟨(i + 1, y, ((ch :: wr) == [107, 101, 121]), a1, a2), ⟨hi, k1, k2, hle2.1, hle2.2.1, hle2.2.2, fin _ rfl⟩, by simp only []; omega, Le.pick [4, 4, 0, 0, 0] ⟨rfl, rfl, rfl, rfl, rfl, rfl, rfl, trivial⟩ rfl⟩
  · obtain rfl : i = L.length := by omega
    rw [List.drop_length] at g7
    unfold rdL at g7
    subst g7
    repeat refine sc rfl ?_
    refine O_loadP 2 (reads_box 0) rfl rfl rfl rfl rfl rfl ?_
    repeat (first | refine sc rfl ?_ | refine so rfl ?_)
    exact ⟨_, [vecA h1 54 4 x.evs.length (evR x.evs), vecA h2 3 1 x.lns.length (lnR x.lns)], _, rfl, pickA_perm (is := [3, 3]) (As := [_, _]) rfl, rfl, h1, h2, g2, g3, rfl, rfl⟩
end Go.Proofs

namespace Go.Proofs
open Go.Sy Go.Lib

theorem spl_snoc_eq (c : UInt8) (l : List UInt8) : spl c (l ++ [c]) = spl c l ++ [[]] := by
  rw [spl_app]; rfl
theorem spl_snoc_ne (c x : UInt8) (hx : ¬ x = c) : ∀ (l : List UInt8) (d : List (List UInt8)) (w : List UInt8), spl c l = d ++ [w] → spl c (l ++ [x]) = d ++ [w ++ [x]]
  | [], d, w, h => by
    have : d = [] ∧ w = [] := by
      cases d with
      | nil => simp [spl] at h; exact ⟨rfl, h⟩
      | cons a d => simp [spl] at h
    obtain ⟨rfl, rfl⟩ := this
    simp [spl, hx]
  | y :: r, d, w, h => by
    simp only [List.cons_append, spl] at h ⊢
    by_cases hy : y = c
    · rw [if_pos hy] at h ⊢
      cases d with
      | nil =>
        simp only [List.nil_append, List.cons.injEq] at h
        exact absurd h.2 (spl_ne c r)
      | cons a d =>
        simp only [List.cons_append, List.cons.injEq] at h ⊢
        exact ⟨h.1, spl_snoc_ne c x hx r d w h.2⟩
    · rw [if_neg hy] at h ⊢
      cases hs : spl c r with
      | nil => exact absurd hs (spl_ne c r)
      | cons p q =>
        rw [hs] at h
        simp only [] at h
        cases d with
        | nil =>
          simp only [List.nil_append, List.cons.injEq] at h
          obtain ⟨h1, rfl⟩ := h
          rw [spl_snoc_ne c x hx r [] p (by rw [hs]; rfl)]
          simp [← h1]
        | cons a d =>
          simp only [List.cons_append, List.cons.injEq] at h
          obtain ⟨h1, rfl⟩ := h
          rw [spl_snoc_ne c x hx r (p :: d) w (by rw [hs]; rfl)]
          simp [← h1]
theorem Le.vec1 {X : Ctx Tryz.prog Tryz.tab} {n : Nat} (q : Nat) {g cc t : Nat} {row : Nat → List AV} {x : AV} {s : List (Nat × AV)} {c cr : List Ch} (hp : nthA q c = some (vecA (HD g 1 cc) t 1 1 row, cr)) (hr : row 0 = [x]) :
    Le X n ⟨s, c⟩ ⟨s, .abs (slO (HO g 0 1 cc) t 1 [x]) :: cr⟩ := by
  intro e a w r
  refine ⟨e, { r with slots := r.slots, heap := ?_ }⟩
  refine HeapOK.retell (r.heap.perm (nthA_perm hp)) ?_
  rintro bs ⟨rfl, xs, g1, g2⟩
  refine ⟨rfl, ownsRow_slO g1 ?_⟩
  have := g2 0 (by decide)
  rw [hr] at this
  have hl := g1.1
  rw [List.drop_zero, List.take_of_length_le (by omega)] at this
  exact this
theorem reads_sl1 {g o m c : Nat} {t : TypeId} {esz : Nat} {cells : List AV} {j : Nat} {x : AV} (h : cells[j]? = some x) : Reads (slO (HO g o m c) t esz cells) g (o + j) [x] := by
  rintro G w hok i y hy
  cases i with
  | zero =>
    simp only [List.getElem?_cons_zero, Option.some.injEq] at hy
    subst hy
    have := reads_slO (t := t) j G w hok 0 x (by rw [List.getElem?_drop]; simpa using h)
    simpa using this
  | succ i => simp at hy
theorem refSplit_c (s : List UInt8) (c : UInt8) (hs : s.length ≤ 1000000) : FnP Tryz.prog 17 [.s s, .v (.int .u8 (c.toNat : Int))] (· = SL 1 wc1 (spl c s)) := by
  refine FnP.intro Tryz.tabOK Tryz.wide_ Tryz.func17 rfl (by decide) rfl (fun X => ?_)
  repeat (first|refine sc rfl ?_|refine so rfl ?_|refine sb rfl ?_)
  refine C_absv 5 rfl rfl (fun h => by cases h) (fun g0 cc0 => ?_)
  refine C_le _ (Le.vec1 0 rfl (x := .s []) rfl) ?_
  refine C_loop (fun (q : List (List UInt8) × List UInt8 × Nat × Nat × Nat × Nat) => ⟨[(0, .s s), (1, .v (.int .u8 (c.toNat : Int))), (5, .v (HO q.2.2.2.1 q.2.2.2.2.1 (q.1.length + 1) q.2.2.2.2.2)), (6, I64 (q.2.2.1 : Nat))], [.abs (slO (HO q.2.2.2.1 q.2.2.2.2.1 (q.1.length + 1) q.2.2.2.2.2) 9 1 ((q.1 ++ [q.2.1]).map AV.s))]⟩)
    (fun q => q.2.2.1 ≤ s.length ∧ spl c (s.take q.2.2.1) = q.1 ++ [q.2.1] ∧ q.1.length ≤ q.2.2.1 ∧ q.2.1.length ≤ q.2.2.1) (fun q => s.length - q.2.2.1) ([], [], 0, g0, 0, cc0) ⟨Nat.zero_le _, rfl, Nat.le_refl _, Nat.le_refl _⟩ (Le.pick [0] ⟨rfl, rfl, rfl, rfl, trivial⟩ rfl) ?_
  rintro ⟨d, w, i, g, o, cc⟩ ⟨h1, h2, h3, h4⟩
  simp only [] at h1 h2 h3 h4 ⊢
  repeat (first | refine sc rfl ?_ | refine so rfl ?_)
  refine C_if rfl (fun m1 => ?_) (fun m1 => ?_) <;> simp only [pL] at m1
  · have hi : i < s.length := by omega
    obtain ⟨x, hx⟩ : ∃ x, s.getD i 0 = x := ⟨_, rfl⟩
    have htk : s.take (i + 1) = s.take i ++ [x] := by
      rw [List.take_succ_eq_append_getElem hi, ← hx, List.getD_eq_getElem?_getD, List.getElem?_eq_getElem hi]; rfl
    repeat (first | refine sc rfl ?_ | refine so rfl ?_)
    refine ⟨by omega, ?_⟩
    simp only [Int.toNat_natCast, hx]
    repeat refine so rfl ?_
    refine C_if rfl (fun m2 => ?_) (fun m2 => ?_) <;> simp only [pL] at m2
    · have hxc : x = c := UInt8.toNat_inj.1 (by omega)
      repeat (first|refine sc rfl ?_|refine so rfl ?_|refine sb rfl ?_)
      refine O_le _ (Le.freeze 20 rfl rfl) ?_
      refine O_appendO 0 (x := .s []) rfl rfl rfl rfl rfl rfl rfl (by simp; omega) (by simp [maxLen]; omega) (fun v' hv => ?_)
      refine O_slO 0 rfl (fun _ h => by simp at h) (fun g2 o2 m2 cc2 hv2 hm2 _ _ => ?_)
      obtain rfl : m2 = d.length + 1 + 1 := by simp at hm2; omega
      subst hv2
      repeat (first | refine sc rfl ?_ | refine so rfl ?_)
      rw [w64 (x := (i : Int) + 1) (by omega) (by omega)]
      refine ⟨(d ++ [w], [], i + 1, g2, o2, cc2), ⟨by simp only []; omega, by simp only []; rw [htk, hxc, spl_snoc_eq, h2], by simp; omega, by simp⟩, by simp only []; omega, ?_⟩
      simp only [List.length_append, List.length_cons, List.length_nil, List.map_append, List.map_cons, List.map_nil]
      exact Le.pick [0] ⟨rfl, rfl, rfl, rfl, trivial⟩ rfl
    · have hxc : ¬ x = c := fun e => m2 (by rw [e])
      repeat refine sc rfl ?_
      refine C_drawU 20 12 rfl (by kernel_rfl) (by kernel_rfl) (by kernel_rfl) ?_
      repeat refine sd rfl ?_
      rw [w64 (x := ((d.length + 1 : Nat) : Int) - 1) (by omega) (by omega), show ((d.length + 1 : Nat) : Int) - 1 = (d.length : Int) by omega]
      refine ⟨by omega, ?_⟩
      simp only [Int.toNat_natCast]
      repeat refine sd rfl ?_
      rw [Nat.mul_one]
      refine D_X (.s w) (X_loadP 0 (reads_sl1 (x := .s w) (by simp)) rfl rfl rfl rfl rfl rfl) ?_
      repeat refine sd rfl ?_
      rw [w64 (x := (i : Int) + 1) (by omega) (by omega)]
      refine ⟨by omega, ?_⟩
      repeat refine sd rfl ?_
      have hsl : List.take (((i : Int) + 1).toNat - ((i : Nat) : Int).toNat) (List.drop ((i : Nat) : Int).toNat s) = [x] := by
        rw [show ((i : Int) + 1).toNat - ((i : Nat) : Int).toNat = 1 by omega, Int.toNat_natCast, List.drop_eq_getElem_cons hi, ← hx, List.getD_eq_getElem?_getD, List.getElem?_eq_getElem hi]
        rfl
      rw [hsl]
      refine ⟨by simp; omega, ?_⟩
      repeat refine sd rfl ?_
      repeat refine so rfl ?_
      refine ⟨by omega, ?_⟩
      simp only [Int.toNat_natCast]
      rw [Nat.mul_one]
      refine O_Xn (X_storeP 0 (writes_slO (x := .s (w ++ [x])) (j := d.length) (by simp)) rfl rfl rfl rfl rfl rfl rfl) ?_
      rw [show (List.map AV.s (d ++ [w])).set d.length (.s (w ++ [x])) = List.map AV.s (d ++ [w ++ [x]]) by simp]
      repeat (first | refine sc rfl ?_ | refine so rfl ?_)
      rw [w64 (x := (i : Int) + 1) (by omega) (by omega)]
      refine ⟨(d, w ++ [x], i + 1, g, o, cc), ⟨by simp only []; omega, by simp only []; rw [htk]; exact spl_snoc_ne c x hxc _ _ _ h2, by simp only []; omega, by simp; omega⟩, by simp only []; omega, ?_⟩
      exact Le.pick [0] ⟨rfl, rfl, rfl, rfl, trivial⟩ rfl
  · obtain rfl : i = s.length := by omega
    rw [List.take_length] at h2
    refine C_le _ (Le.frSlO 0 (m := (d ++ [w]).length) (fun i => wc1 ((d ++ [w]).getD i default)) rfl (by simp) (by decide) (fun j hj => ?_)) ?_
    · have hj2 : j < ((d ++ [w]).map AV.s).length := by simpa using hj
      rw [Nat.mul_one, List.drop_eq_getElem_cons hj2]
      simp only [List.take_succ_cons, List.take_zero, List.getElem_map]
      rw [List.getD_eq_getElem?_getD, List.getElem?_eq_getElem hj]
      rfl
    refine C_le _ (Le.slotA 0 5 rfl rfl) ?_
    repeat (first | refine sc rfl ?_ | refine so rfl ?_)
    exact ⟨_, rfl, rfl, by rw [h2]⟩
end Go.Proofs

namespace Go.Proofs
open Go.Sy Go.Lib

theorem rWords_c (s : List UInt8) (hs : s.length ≤ 1000000) : FnP Tryz.prog 18 [.s s] (· = SL 1 wc1 (wordsF s)) := by
  refine FnP.intro Tryz.tabOK Tryz.wide_ Tryz.func18 rfl (by decide) rfl (fun X => ?_)
  repeat (first | refine sc rfl ?_ | refine so rfl ?_)
  refine O_call (refSplit_c s 32 hs) (by rfl) (by rfl) (by rfl) (by rfl) (fun r hr => ?_)
  subst hr
  have hc : (spl 32 s).length ≤ 1000001 := by rw [spl_len]; have := List.count_le_length (a := (32 : UInt8)) (l := s); omega
  unfold wordsF
  obtain ⟨l, hL⟩ : ∃ l, spl 32 s = l := ⟨_, rfl⟩
  rw [hL] at hc ⊢
  repeat (first | refine sc rfl ?_ | refine so rfl ?_)
  first
    | refine C_le _ (Le.nilvec wc1 3 25 9 1 rfl rfl rfl) ?_
    | refine O_le _ (Le.nilvec wc1 3 25 9 1 rfl rfl rfl) ?_
  refine C_loop (fun i : Nat => ⟨[(3, .own 25), (4, SL 1 wc1 l), (5, I64 (i : Nat))], [VEC 25 9 1 wc1 ((l.take i).filter notE)]⟩) (fun i => i ≤ l.length) (fun i => l.length - i) 0 (Nat.zero_le _) ?_ ?_
  · exact Le.pick [0] ⟨rfl, rfl, rfl, trivial⟩ rfl
  intro i hi
  repeat (first | refine sc rfl ?_ | refine so rfl ?_)
  refine C_if rfl (fun m1 => ?_) (fun m1 => ?_) <;> simp only [pL] at m1
  · have hil : i < l.length := by omega
    obtain ⟨x, hxe⟩ : ∃ x, l.getD i default = x := ⟨_, rfl⟩
    have htk : l.take (i + 1) = l.take i ++ [x] := by
      rw [List.take_add_one, List.getElem?_eq_getElem hil, ← hxe, List.getD_eq_getElem?_getD, List.getElem?_eq_getElem hil]; rfl
    have hfl := List.length_filter_le notE (l.take i)
    rw [List.length_take] at hfl
    repeat (first | refine sc rfl ?_ | refine so rfl ?_)
    refine ⟨by omega, ?_⟩
    simp only [Int.toNat_natCast, hxe]
    repeat refine so rfl ?_
    refine C_if rfl (fun m2 => ?_) (fun m2 => ?_) <;> simp only [pL] at m2
    · have hf : (l.take (i + 1)).filter notE = (l.take i).filter notE ++ [x] := by
        rw [htk, List.filter_append]; simp [notE, m2]
      repeat (first | refine sc rfl ?_ | refine so rfl ?_)
      refine ⟨by omega, ?_⟩
      simp only [Int.toNat_natCast, hxe]
      repeat (first|refine so rfl ?_|refine sb rfl ?_)
      refine O_push wc1 ((l.take i).filter notE) x [(4, SL 1 wc1 l), (5, I64 (i : Nat))] rfl rfl rfl rfl rfl rfl rfl rfl rfl rfl ⟨rfl, rfl, trivial⟩ rfl rfl (by omega) (by simp only [maxLen]; omega) ?_
      rw [← hf]
      repeat (first | refine sc rfl ?_ | refine so rfl ?_)
      rw [w64 (x := (i : Int) + 1) (by omega) (by omega)]
      exact ⟨i + 1, hil, by omega, Le.pick [0] ⟨rfl, rfl, rfl, trivial⟩ rfl⟩
    · have hf : (l.take (i + 1)).filter notE = (l.take i).filter notE := by
        rw [htk, List.filter_append]; simp [notE, m2]
      repeat (first | refine sc rfl ?_ | refine so rfl ?_)
      rw [w64 (x := (i : Int) + 1) (by omega) (by omega), ← hf]
      exact ⟨i + 1, hil, by omega, Le.pick [0] ⟨rfl, rfl, rfl, trivial⟩ rfl⟩
  · obtain rfl : i = l.length := by omega
    rw [List.take_length]
    refine C_le _ (Le.freezeL 3 rfl rfl) ?_
    repeat (first | refine sc rfl ?_ | refine so rfl ?_)
    exact ⟨_, rfl, rfl, rfl⟩
def maxD : List UInt8 := [49, 56, 52, 52, 54, 55, 52, 52, 48, 55, 51, 55, 48, 57, 53, 53, 49, 54, 49, 53]
def dv (w : List UInt8) : Nat := w.foldl (fun n c => n * 10 + (c - 48).toNat) 0
def digB (c : UInt8) : Bool := decide (48 ≤ c.toNat ∧ c.toNat ≤ 57)
def nBad (w : List UInt8) : Prop := w = [] ∨ 20 < w.length ∨ (1 < w.length ∧ w.getD 0 0 = 48) ∨ (w.length = 20 ∧ (!(Op.bytesLess w maxD || w == maxD)) = true)
instance (w : List UInt8) : Decidable (nBad w) := by unfold nBad; infer_instance
def rNumF (w : List UInt8) : Nat × Bool := if nBad w then (0, false) else if w.all digB = true then (dv w % 18446744073709551616, true) else (0, false)
section
variable {P : Program} {T : Tab} {X : Ctx P T} {n : Nat} {st : St}
theorem C_joinP {Q : Exit → St → Prop} {c : Code} (φ : Prop) (J : St) (h : SymC X n c st (fun ex s => match ex with
      | .normal => φ ∧ Le X n s J
      | ex => Q ex s)) (hQ : φ → ∀ s, Le X n s J → Q .normal s) : SymC X n c st Q :=
  h.mono fun ex s h => by cases ex <;> first | exact h | exact hQ h.1 s h.2
end
theorem rNumber_c (w : List UInt8) (hw : w.length ≤ 1000000) : FnP Tryz.prog 73 [.s w] (· = .tup [U64 ((rNumF w).1 : Nat), B (rNumF w).2]) := by
  refine FnP.intro Tryz.tabOK Tryz.wide_ Tryz.func73 rfl (by decide) rfl (fun X => ?_)
  unfold rNumF
  refine C_seq (C_join ⟨[(0, .s w)], []⟩ ?_ (fun s0 hs0 => C_le _ hs0 ?_))
  · repeat (first | refine sc rfl ?_ | refine so rfl ?_)
    exact Le.pick [] ⟨rfl, trivial⟩ rfl
  refine C_seq (C_joinP (¬ nBad w) ⟨[(0, .s w)], []⟩ ?_ (fun hb s0 hs0 => C_le _ hs0 ?_))
  · repeat (first | refine sc rfl ?_ | refine so rfl ?_)
    refine O_case 8 rfl (fun k1 => ?_) (fun k1 => ?_) <;> simp only [pL] at k1
    · repeat refine so rfl ?_
      refine C_true rfl rfl ?_
      repeat (first | refine sc rfl ?_ | refine so rfl ?_)
      rw [if_pos (by unfold nBad; exact .inl k1)]
      exact ⟨_, rfl, rfl, rfl⟩
    repeat refine so rfl ?_
    refine O_case 13 rfl (fun k2 => ?_) (fun k2 => ?_) <;> simp only [pL] at k2
    · repeat refine so rfl ?_
      refine C_true rfl rfl ?_
      repeat (first | refine sc rfl ?_ | refine so rfl ?_)
      rw [if_pos (by unfold nBad; exact .inr (.inl (by omega)))]
      exact ⟨_, rfl, rfl, rfl⟩
    have hpos : 0 < w.length := List.length_pos_iff.2 k1
    repeat refine so rfl ?_
    refine O_case 17 rfl (fun k3 => ?_) (fun k3 => ?_) <;> simp only [pL] at k3
    · repeat refine so rfl ?_
      refine ⟨⟨by decide, by omega⟩, ?_⟩
      repeat refine so rfl ?_
      refine O_case 23 rfl (fun k4 => ?_) (fun k4 => ?_) <;> simp only [pL] at k4
      · repeat refine so rfl ?_
        refine C_true rfl rfl ?_
        repeat (first | refine sc rfl ?_ | refine so rfl ?_)
        rw [if_pos (by unfold nBad; exact .inr (.inr (.inl ⟨by omega, UInt8.toNat_inj.1 (by have : (((w.getD 0 0).toNat : Nat) : Int) = 48 := k4; rw [show (48 : UInt8).toNat = 48 from rfl]; omega)⟩)))]
        exact ⟨_, rfl, rfl, rfl⟩
      repeat refine so rfl ?_
      refine O_case 27 rfl (fun k5 => ?_) (fun k5 => ?_) <;> simp only [pL] at k5
      · repeat refine so rfl ?_
        refine C_if rfl (fun k6 => ?_) (fun k6 => ?_)
        · repeat (first | refine sc rfl ?_ | refine so rfl ?_)
          rw [if_pos (by unfold nBad; exact .inr (.inr (.inr ⟨by omega, k6⟩)))]
          exact ⟨_, rfl, rfl, rfl⟩
        · repeat refine sc rfl ?_
          refine ⟨?_, Le.pick [] ⟨rfl, trivial⟩ rfl⟩
          unfold nBad
          rintro (h | h | h | h)
          · exact k1 h
          · omega
          · exact k4 (by show (((w.getD 0 0).toNat : Nat) : Int) = 48; rw [h.2]; rfl)
          · exact Bool.noConfusion (k6.symm.trans h.2)
      · repeat refine so rfl ?_
        refine C_false rfl rfl ?_
        repeat refine sc rfl ?_
        refine ⟨?_, Le.pick [] ⟨rfl, trivial⟩ rfl⟩
        unfold nBad
        rintro (h | h | h | h)
        · exact k1 h
        · omega
        · exact k4 (by show (((w.getD 0 0).toNat : Nat) : Int) = 48; rw [h.2]; rfl)
        · omega
    · repeat refine so rfl ?_
      refine O_case 27 rfl (fun k5 => ?_) (fun k5 => ?_) <;> simp only [pL] at k5
      · repeat refine so rfl ?_
        refine C_if rfl (fun k6 => ?_) (fun k6 => ?_)
        · repeat (first | refine sc rfl ?_ | refine so rfl ?_)
          rw [if_pos (by unfold nBad; exact .inr (.inr (.inr ⟨by omega, k6⟩)))]
          exact ⟨_, rfl, rfl, rfl⟩
        · repeat refine sc rfl ?_
          refine ⟨?_, Le.pick [] ⟨rfl, trivial⟩ rfl⟩
          unfold nBad
          rintro (h | h | h | h)
          · exact k1 h
          · omega
          · omega
          · exact Bool.noConfusion (k6.symm.trans h.2)
      · repeat refine so rfl ?_
        refine C_false rfl rfl ?_
        repeat refine sc rfl ?_
        refine ⟨?_, Le.pick [] ⟨rfl, trivial⟩ rfl⟩
        unfold nBad
        rintro (h | h | h | h)
        · exact k1 h
        · omega
        · omega
        · omega
  rw [if_neg hb]
  have hlen : w.length ≤ 20 := by unfold nBad at hb; omega
  repeat (first | refine sc rfl ?_ | refine so rfl ?_)
  refine C_loop (fun i : Nat => ⟨[(0, .s w), (4, U64 ((dv (w.take i) % 18446744073709551616 : Nat) : Int)), (5, I64 (i : Nat))], []⟩) (fun i => i ≤ w.length ∧ (w.take i).all digB = true) (fun i => w.length - i) 0 ⟨Nat.zero_le _, rfl⟩ ?_ ?_
  · exact Le.pick [] ⟨rfl, rfl, rfl, trivial⟩ rfl
  rintro i ⟨hi, hall⟩
  repeat (first | refine sc rfl ?_ | refine so rfl ?_)
  refine C_if rfl (fun m1 => ?_) (fun m1 => ?_) <;> simp only [pL] at m1
  · have hil : i < w.length := by omega
    obtain ⟨x, hxe⟩ : ∃ x, w.getD i 0 = x := ⟨_, rfl⟩
    have hxg : w[i] = x := by rw [← hxe, List.getD_eq_getElem?_getD, List.getElem?_eq_getElem hil]; rfl
    have htk : w.take (i + 1) = w.take i ++ [x] := by rw [List.take_succ_eq_append_getElem hil, hxg]
    have hbad : digB x = false → ¬ w.all digB = true := fun h hh => by
      have := List.all_eq_true.1 hh x (by rw [← hxg]; exact List.getElem_mem hil)
      rw [h] at this; cases this
    have hdv : dv (w.take (i + 1)) = dv (w.take i) * 10 + (x - 48).toNat := by
      unfold dv; rw [htk, List.foldl_append]; rfl
    repeat (first | refine sc rfl ?_ | refine so rfl ?_)
    refine ⟨⟨by omega, by omega⟩, ?_⟩
    simp only [Int.toNat_natCast, hxe]
    repeat refine so rfl ?_
    refine O_case 42 rfl (fun m2 => ?_) (fun m2 => ?_) <;> simp only [pL] at m2
    · repeat refine so rfl ?_
      refine C_true rfl rfl ?_
      repeat (first | refine sc rfl ?_ | refine so rfl ?_)
      rw [if_neg (hbad (by unfold digB; simp; omega))]
      exact ⟨_, rfl, rfl, rfl⟩
    repeat refine so rfl ?_
    refine ⟨⟨by omega, by omega⟩, ?_⟩
    simp only [Int.toNat_natCast, hxe]
    repeat refine so rfl ?_
    refine C_if rfl (fun m3 => ?_) (fun m3 => ?_) <;> simp only [pL] at m3
    · repeat (first | refine sc rfl ?_ | refine so rfl ?_)
      rw [if_neg (hbad (by unfold digB; simp; omega))]
      exact ⟨_, rfl, rfl, rfl⟩
    repeat (first | refine sc rfl ?_ | refine so rfl ?_)
    refine ⟨⟨by omega, by omega⟩, ?_⟩
    simp only [Int.toNat_natCast, hxe]
    repeat (first | refine sc rfl ?_ | refine so rfl ?_)
    have hd := UInt8.toNat_lt (x - 48)
    have hval : IntKind.u64.wrap (IntKind.u64.wrap (((dv (w.take i) % 18446744073709551616 : Nat) : Int) * 10) + IntKind.u64.wrap (IntKind.u8.wrap ((x.toNat : Int) - 48))) = ((dv (w.take (i + 1)) % 18446744073709551616 : Nat) : Int) := by
      rw [u8sub, u64wrap (x := (((x - 48).toNat : Nat) : Int)) (by omega) (by omega), show ((dv (w.take i) % 18446744073709551616 : Nat) : Int) * 10 = ((dv (w.take i) % 18446744073709551616 * 10 : Nat) : Int) from rfl, u64mod, ← Int.natCast_add, u64mod, hdv]
      congr 1
      omega
    rw [w64 (x := (i : Int) + 1) (by omega) (by omega)]
    refine ⟨i + 1, ⟨by omega, ?_⟩, by omega, ?_⟩
    · rw [htk, List.all_append, hall]
      show (true && (digB x && true)) = true
      rw [show digB x = true from by unfold digB; simp; omega]; rfl
    · rw [← hval]
      exact Le.pick [] ⟨rfl, rfl, rfl, trivial⟩ rfl
  · obtain rfl : i = w.length := by omega
    rw [List.take_length] at hall ⊢
    rw [if_pos hall]
    repeat (first | refine sc rfl ?_ | refine so rfl ?_)
    exact ⟨_, rfl, rfl, rfl⟩
end Go.Proofs

namespace Go.Proofs
open Go.Sy Go.Lib

def dvF (n : Nat) (l : List UInt8) : Nat := l.foldl (fun n c => n * 10 + (c - 48).toNat) n
theorem dvF_ge : ∀ (l : List UInt8) (n : Nat), n * 10 ^ l.length ≤ dvF n l
  | [], n => by simp [dvF]
  | x :: r, n => by
    have ih := dvF_ge r (n * 10 + (x - 48).toNat)
    show n * 10 ^ (r.length + 1) ≤ dvF (n * 10 + (x - 48).toNat) r
    refine Nat.le_trans ?_ ih
    rw [Nat.pow_succ, Nat.mul_comm (10 ^ r.length) 10, ← Nat.mul_assoc]
    exact Nat.mul_le_mul_right _ (Nat.le_add_right _ _)
theorem dvF_ge1 (l : List UInt8) (n : Nat) : n ≤ dvF n l := by
  have h := dvF_ge l n
  have h2 : 1 ≤ 10 ^ l.length := Nat.one_le_pow _ _ (by decide)
  exact Nat.le_trans (Nat.le_mul_of_pos_right n h2) h
theorem digB_fin : ∀ n : Fin 256, digB (UInt8.ofNat n.val) = decide ((UInt8.ofNat n.val - 48).toNat ≤ 9) := by decide +kernel
theorem digB_eq (c : UInt8) : digB c = decide ((c - 48).toNat ≤ 9) := by
  have h := digB_fin ⟨c.toNat, UInt8.toNat_lt c⟩
  simpa using h
theorem dvF_lt : ∀ (l : List UInt8) (n : Nat), l.all digB = true → dvF n l < (n + 1) * 10 ^ l.length
  | [], n, _ => by simp [dvF]
  | x :: r, n, h => by
    rw [List.all_cons, Bool.and_eq_true] at h
    have hx : (x - 48).toNat ≤ 9 := by have := h.1; rw [digB_eq] at this; exact of_decide_eq_true this
    have ih := dvF_lt r (n * 10 + (x - 48).toNat) h.2
    show dvF (n * 10 + (x - 48).toNat) r < (n + 1) * 10 ^ (r.length + 1)
    refine Nat.lt_of_lt_of_le ih ?_
    rw [Nat.pow_succ, Nat.mul_comm (10 ^ r.length) 10, ← Nat.mul_assoc]
    exact Nat.mul_le_mul_right _ (by omega)
theorem numL_spec (w0 : UInt8) : ∀ (l : List UInt8) (i n : Nat), n ≤ 18446744073709551615 → numL w0 i n l = if l.all digB = true ∧ ¬ (w0 = 48 ∧ (if i = 0 then 1 < l.length else 0 < l.length)) ∧ dvF n l ≤ 18446744073709551615 then some (dvF n l) else none
  | [], i, n, hn => by
    rw [if_pos ⟨rfl, by rintro ⟨_, h⟩; split at h <;> simp at h, hn⟩]; rfl
  | x :: r, i, n, hn => by
    simp only [numL]
    have hge := dvF_ge1 r (n * 10 + (x - 48).toNat)
    have hd : dvF n (x :: r) = dvF (n * 10 + (x - 48).toNat) r := rfl
    by_cases h1 : (x - 48).toNat > 9
    · rw [if_pos (.inl h1), if_neg]
      rintro ⟨h, _, _⟩
      rw [List.all_cons, Bool.and_eq_true, digB_eq] at h
      have := of_decide_eq_true h.1
      omega
    by_cases h2 : n > (18446744073709551615 - (x - 48).toNat) / 10
    · rw [if_pos (.inr (.inl h2)), if_neg]
      rintro ⟨_, _, h⟩
      rw [hd] at h
      omega
    by_cases h3 : 0 < i ∧ w0 = 48
    · rw [if_pos (.inr (.inr h3)), if_neg]
      rintro ⟨_, h, _⟩
      exact h ⟨h3.2, by rw [if_neg (by omega)]; simp⟩
    rw [if_neg (by rintro (h | h | h); exact h1 h; exact h2 h; exact h3 h), numL_spec w0 r (i + 1) _ (by omega), hd]
    congr 1
    have hx : digB x = true := by rw [digB_eq]; exact decide_eq_true (by omega)
    rw [List.all_cons, hx, Bool.true_and]
    refine propext ⟨fun ⟨a, b, c⟩ => ⟨a, fun ⟨e, f⟩ => ?_, c⟩, fun ⟨a, b, c⟩ => ⟨a, fun ⟨e, f⟩ => ?_, c⟩⟩
    · by_cases hi : i = 0
      · rw [if_pos hi] at f
        exact b ⟨e, by rw [if_neg (by omega)]; simpa using f⟩
      · exact h3 ⟨by omega, e⟩
    · rw [if_neg (by omega)] at f
      by_cases hi : i = 0
      · exact b ⟨e, by rw [if_pos hi]; simpa using f⟩
      · exact h3 ⟨by omega, e⟩
theorem dig_sub {c : UInt8} (h : digB c = true) : (c - 48).toNat + 48 = c.toNat ∧ 48 ≤ c.toNat := by
  unfold digB at h
  have h1 := of_decide_eq_true h
  have h2 := UInt8.toNat_sub c 48
  have h3 : (48 : UInt8).toNat = 48 := rfl
  rw [h3] at h2
  omega
theorem dvF_pre (a b : List UInt8) (n m : Nat) (hab : a.length = b.length) (ha : a.all digB = true) (h : n < m) : dvF n a < dvF m b := by
  have h1 := dvF_lt a n ha
  have h2 := dvF_ge b m
  rw [hab] at h1
  have h3 : (n + 1) * 10 ^ b.length ≤ m * 10 ^ b.length := Nat.mul_le_mul_right _ h
  omega
theorem less_dv : ∀ (a b : List UInt8) (n : Nat), a.length = b.length → a.all digB = true → b.all digB = true → (Op.bytesLess a b = true ↔ dvF n a < dvF n b)
  | [], [], n, _, _, _ => by simp [Op.bytesLess, dvF]
  | [], _ :: _, _, h, _, _ => by simp at h
  | _ :: _, [], _, h, _, _ => by simp at h
  | a :: x, b :: y, n, h, ha, hb => by
    rw [List.all_cons, Bool.and_eq_true] at ha hb
    obtain ⟨a1, a2⟩ := dig_sub ha.1
    obtain ⟨b1, b2⟩ := dig_sub hb.1
    have hl : x.length = y.length := by simpa using h
    have ih := less_dv x y (n * 10 + (a - 48).toNat) hl ha.2 hb.2
    have da : dvF n (a :: x) = dvF (n * 10 + (a - 48).toNat) x := rfl
    have db : dvF n (b :: y) = dvF (n * 10 + (b - 48).toNat) y := rfl
    rw [da, db]
    simp only [Op.bytesLess, Bool.or_eq_true, Bool.and_eq_true, decide_eq_true_eq, beq_iff_eq]
    have hlt : a < b ↔ a.toNat < b.toNat := UInt8.lt_iff_toNat_lt
    constructor
    · rintro (h1 | ⟨rfl, h1⟩)
      · exact dvF_pre x y _ _ hl ha.2 (by rw [hlt] at h1; omega)
      · exact ih.1 h1
    · intro h1
      rcases Nat.lt_trichotomy a.toNat b.toNat with h2 | h2 | h2
      · exact .inl (hlt.2 h2)
      · obtain rfl : a = b := UInt8.toNat_inj.1 h2
        exact .inr ⟨rfl, ih.2 h1⟩
      · have := dvF_pre y x (n * 10 + (b - 48).toNat) (n * 10 + (a - 48).toNat) hl.symm hb.2 (by omega)
        omega
theorem dvF_inj : ∀ (a b : List UInt8) (n : Nat), a.length = b.length → a.all digB = true → b.all digB = true → dvF n a = dvF n b → a = b
  | [], [], _, _, _, _, _ => rfl
  | [], _ :: _, _, h, _, _, _ => by simp at h
  | _ :: _, [], _, h, _, _, _ => by simp at h
  | a :: x, b :: y, n, h, ha, hb, he => by
    rw [List.all_cons, Bool.and_eq_true] at ha hb
    obtain ⟨a1, a2⟩ := dig_sub ha.1
    obtain ⟨b1, b2⟩ := dig_sub hb.1
    have hl : x.length = y.length := by simpa using h
    have he2 : dvF (n * 10 + (a - 48).toNat) x = dvF (n * 10 + (b - 48).toNat) y := he
    rcases Nat.lt_trichotomy a.toNat b.toNat with h2 | h2 | h2
    · have := dvF_pre x y (n * 10 + (a - 48).toNat) (n * 10 + (b - 48).toNat) hl ha.2 (by omega)
      omega
    · obtain rfl : a = b := UInt8.toNat_inj.1 h2
      rw [dvF_inj x y _ hl ha.2 hb.2 he2]
    · have := dvF_pre y x (n * 10 + (b - 48).toNat) (n * 10 + (a - 48).toNat) hl.symm hb.2 (by omega)
      omega
theorem maxD_dv : dvF 0 maxD = 18446744073709551615 := by decide
theorem rNumF_eq (w : List UInt8) (hw : w ≠ []) : rNumF w = match numF w with
    | some n => (n, true)
    | none => (0, false) := by
  have hdv : dv w = dvF 0 w := rfl
  have hw0 : w.headD 0 = w.getD 0 0 := by cases w <;> rfl
  unfold rNumF numF
  rw [numL_spec _ w 0 0 (by omega), hw0]
  by_cases hb : nBad w
  · rw [if_pos hb, if_neg]
    rintro ⟨h1, h2, h3⟩
    unfold nBad at hb
    rcases hb with h | h | h | h
    · exact hw h
    · cases w with
      | nil => exact hw rfl
      | cons x r =>
        rw [List.all_cons, Bool.and_eq_true] at h1
        obtain ⟨b1, b2⟩ := dig_sub h1.1
        have hx : ¬ x = 48 := fun e => h2 ⟨e, by rw [if_pos rfl]; omega⟩
        have hx2 : 1 ≤ (x - 48).toNat := by
          rcases Nat.eq_or_lt_of_le b2 with e | e
          · exact absurd (UInt8.toNat_inj.1 (show x.toNat = (48 : UInt8).toNat from e.symm)) hx
          · omega
        have hge := dvF_ge r (0 * 10 + (x - 48).toNat)
        have hp : 10 ^ 20 ≤ 10 ^ r.length := Nat.pow_le_pow_right (by decide) (by simp at h; omega)
        have h4 : 10 ^ r.length ≤ (0 * 10 + (x - 48).toNat) * 10 ^ r.length := Nat.le_mul_of_pos_left _ (by omega)
        have h5 : dvF 0 (x :: r) = dvF (0 * 10 + (x - 48).toNat) r := rfl
        rw [h5] at h3
        omega
    · exact h2 ⟨h.2, by rw [if_pos rfl]; exact h.1⟩
    · have hl := less_dv maxD w 0 (by rw [h.1]; rfl) (by decide) h1
      have hl2 := less_dv w maxD 0 (by rw [h.1]; rfl) h1 (by decide)
      have hh := h.2
      simp only [Bool.not_eq_true', Bool.or_eq_false_iff, beq_eq_false_iff_ne] at hh
      rw [maxD_dv] at hl hl2
      have h6 : ¬ dvF 0 w < 18446744073709551615 := fun e => by rw [hl2.2 e] at hh; cases hh.1
      have h7 : dvF 0 w = dvF 0 maxD := by rw [maxD_dv]; omega
      exact hh.2 (dvF_inj w maxD 0 (by rw [h.1]; rfl) h1 (by decide) h7)
  · rw [if_neg hb]
    by_cases h1 : w.all digB = true
    · have hlen : w.length ≤ 20 := by unfold nBad at hb; omega
      have hmax : dvF 0 w ≤ 18446744073709551615 := by
        rcases Nat.lt_or_ge w.length 20 with h | h
        · have h2 := dvF_lt w 0 h1
          have hp : 10 ^ w.length ≤ 10 ^ 19 := Nat.pow_le_pow_right (by decide) (by omega)
          omega
        · have h20 : w.length = 20 := by omega
          have hl2 := less_dv w maxD 0 (by rw [h20]; rfl) h1 (by decide)
          rw [maxD_dv] at hl2
          have hh : (Op.bytesLess w maxD || w == maxD) = true := by
            cases e : (Op.bytesLess w maxD || w == maxD) with
            | true => rfl
            | false => exact absurd (.inr (.inr (.inr ⟨h20, by rw [e]; rfl⟩))) hb
          simp only [Bool.or_eq_true, beq_iff_eq] at hh
          rcases hh with hh | hh
          · exact Nat.le_of_lt (hl2.1 hh)
          · rw [hh, maxD_dv]; exact Nat.le_refl _
      rw [if_pos h1, if_pos ⟨h1, fun h => hb (.inr (.inr (.inl ⟨by have := h.2; rw [if_pos rfl] at this; exact this, h.1⟩))), hmax⟩, hdv, Nat.mod_eq_of_lt (by omega)]
    · rw [if_neg h1, if_neg (fun h => h1 h.1)]
end Go.Proofs
