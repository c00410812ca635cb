/- The symbolic walk, part 5: making and writing boxes; struct and slice literals. -/
import Derived.Test.YtpkbclagmkgpkaaGreatDoorQ1
import Derived.Deep.LoopGhost
import Derived.Laws.AppendOwnNone
set_option linter.unusedSimpArgs false
set_option linter.unusedVariables false
namespace Go.Sy
open Go.RowKit

def eraseS (d : Nat) : List (Nat × AV) → List (Nat × AV)
  | [] => []
  | (j, x) :: r => match Nat.beq j d with
    | true => eraseS d r
    | false => (j, x) :: eraseS d r
def freshS (d : Nat) : List (Nat × AV) → Bool
  | [] => true
  | (_, x) :: r => x.no d && freshS d r
def freshC (d : Nat) : List Ch → Bool
  | [] => true
  | c :: r => c.no d && freshC d r
def eraseC (d : Nat) : List Ch → List Ch
  | [] => []
  | c :: r => match Nat.beq c.id d with
    | true => eraseC d r
    | false => c :: eraseC d r

theorem beq_ne {a b : Nat} (h : Nat.beq a b = false) : a ≠ b := by
  intro e; subst e; simp [Nat.beq_refl] at h

theorem get_eraseS (d : Nat) : ∀ (s : List (Nat × AV)) (i : Nat), get (eraseS d s) i = if d = i then none else get s i
  | [], i => by simp [eraseS, get]
  | (j, x) :: r, i => by
    have ih := get_eraseS d r i
    simp only [eraseS]
    cases hb : Nat.beq j d
    · simp only
      rw [get_cons, ih, get_cons]
      have := beq_ne hb
      by_cases h1 : j = i <;> by_cases h2 : d = i <;> simp_all
    · have := Nat.eq_of_beq_eq_true hb
      subst this
      simp only
      rw [ih, get_cons]
      by_cases h1 : j = i <;> simp_all

theorem freshS_get {d : Nat} : ∀ {s : List (Nat × AV)}, freshS d s = true → ∀ i x, get s i = some x → x.no d = true
  | [], _, i, x, h => by simp [get] at h
  | (j, y) :: r, hf, i, x, h => by
    simp only [freshS, Bool.and_eq_true] at hf
    rw [get_cons] at h
    by_cases h1 : j = i
    · rw [if_pos h1] at h; cases h; exact hf.1
    · rw [if_neg h1] at h; exact freshS_get hf.2 i x h
theorem freshC_mem {d : Nat} : ∀ {c : List Ch}, freshC d c = true → ∀ x ∈ c, x.no d = true
  | [], _, x, h => by simp at h
  | y :: r, hf, x, h => by
    simp only [freshC, Bool.and_eq_true] at hf
    rcases List.mem_cons.1 h with rfl | h
    · exact hf.1
    · exact freshC_mem hf.2 x h
theorem HeapOK.erase {P : Program} {T : Tab} {X : Ctx P T} {e : Env} {w : World} (d : Nat) {cs : List Ch} (h : HeapOK X e w cs) : HeapOK X e w (eraseC d cs) := by
  obtain ⟨pl, h1, h2, h3, h4⟩ := h
  subst h1
  have key : ∀ (pl : List (Ch × List Nat)), (pl.filter (fun p => !(Nat.beq p.1.id d))).map (·.1) = eraseC d (pl.map (·.1)) := by
    intro pl
    induction pl with
    | nil => rfl
    | cons p pl ih =>
      simp only [List.map_cons, eraseC, List.filter_cons]
      cases Nat.beq p.1.id d <;> simp [ih]
  have hsub : ((pl.filter (fun p => !(Nat.beq p.1.id d))).flatMap (·.2)).Sublist (pl.flatMap (·.2)) := by
    clear key h2 h3 h4
    induction pl with
    | nil => simp
    | cons p pl ih =>
      simp only [List.filter_cons, List.flatMap_cons]
      cases Nat.beq p.1.id d
      · simpa using ih
      · simp; exact ih.trans (List.sublist_append_right _ _)
  exact ⟨_, key pl, fun p hp => h2 p (List.mem_filter.1 hp).1, h3.sublist hsub, fun b hb => h4 b (hsub.subset hb)⟩

theorem Rel.less {P : Program} {T : Tab} {X : Ctx P T} {n : Nat} {e : Env} {st : St} {a : Act} {w : World} (r : Rel X n e st a w) {s : List (Nat × AV)} {c : List Ch}
    (hs : ∀ i x, get s i = some x → get st.s i = some x) (hc : HeapOK X e w st.c → HeapOK X e w c) : Rel X n e ⟨s, c⟩ a w :=
  { r with slots := fun i x h => r.slots i x (hs i x h), heap := hc r.heap }

def upd {α : Type} (f : Nat → α) (k : Nat) (v : α) : Nat → α := fun j => if j = k then v else f j

def boxable : AV → Bool
  | .agg _ => true
  | x => x.cellB

theorem cellB_one {e : Env} {x : AV} {v : Value} (h : Rep e x v) (hb : x.cellB = true) : v.oneCell' = true := by
  cases x with
  | v x => simp only [Rep] at h; subst h; exact hb
  | bad => simp [AV.cellB] at hb
  | agg _ => simp [AV.cellB] at hb
  | tup _ => simp [AV.cellB] at hb
  | s l => simp only [Rep] at h; subst h; rfl
  | sl n esz row => simp only [Rep, RepI] at h; obtain ⟨a, c, rfl, _⟩ := h; rfl
  | cp cells => simp only [Rep, RepI] at h; obtain ⟨b, o, rfl, _⟩ := h; rfl
  | bp k o => simp only [Rep] at h; subst h; rfl
  | own k => simp only [Rep] at h; obtain ⟨_, a, n, c, rfl⟩ := h; rfl
  | ep k i esz j => simp only [Rep] at h; subst h; rfl
  | p R => simp only [Rep] at h; exact R.one h
  | clo f caps => simp only [Rep] at h; obtain ⟨vs, rfl, _⟩ := h; rfl
  | ifc tt x => simp only [Rep] at h; obtain ⟨v, rfl, _⟩ := h; rfl
  | mp k => simp only [Rep] at h; subst h; rfl
  | mapI ks xs => simp only [Rep, RepI] at h; obtain ⟨b, vs, rfl, _⟩ := h; rfl

theorem cellsA_sound {e : Env} {x : AV} {v : Value} (h : Rep e x v) (hb : boxable x = true) : RepL e (cellsA x) v.cells.toList := by
  have scal : x.cellB = true → RepL e [x] v.cells.toList := by
    intro hc
    have h1 := cellB_one h hc
    have : v.cells.toList = [v] := by cases v <;> simp_all [Value.cells, Value.oneCell']
    rw [this]
    simp only [RepL]
    exact ⟨v, [], rfl, h, h1, rfl⟩
  cases x with
  | agg cs =>
    simp only [Rep] at h
    obtain ⟨ys, rfl, h⟩ := h
    exact h
  | _ => exact scal hb

theorem RepL.app {e : Env} : ∀ {cs ds : List AV} {ys zs : List Value}, RepL e cs ys → RepL e ds zs → RepL e (cs ++ ds) (ys ++ zs)
  | [], ds, ys, zs, h, k => by simp only [RepL] at h; subst h; simpa using k
  | c :: cs, ds, ys, zs, h, k => by
    simp only [RepL] at h
    obtain ⟨z, zs', rfl, h1, h2, h3⟩ := h
    simp only [List.cons_append, RepL]
    exact ⟨z, _, rfl, h1, h2, RepL.app h3 k⟩
theorem RepL.take {e : Env} : ∀ (k : Nat) {cs : List AV} {ys : List Value}, RepL e cs ys → RepL e (cs.take k) (ys.take k)
  | 0, cs, ys, h => by simp [RepL]
  | k + 1, [], ys, h => by simp only [RepL] at h; subst h; simp [RepL]
  | k + 1, c :: cs, ys, h => by
    simp only [RepL] at h
    obtain ⟨z, zs', rfl, h1, h2, h3⟩ := h
    simp only [List.take_succ_cons, RepL]
    exact ⟨z, _, rfl, h1, h2, RepL.take k h3⟩
theorem RepL.drop {e : Env} : ∀ (k : Nat) {cs : List AV} {ys : List Value}, RepL e cs ys → RepL e (cs.drop k) (ys.drop k)
  | 0, cs, ys, h => by simpa using h
  | k + 1, [], ys, h => by simp only [RepL] at h; subst h; simp [RepL]
  | k + 1, c :: cs, ys, h => by
    simp only [RepL] at h
    obtain ⟨z, zs', rfl, h1, h2, h3⟩ := h
    simpa using RepL.drop k h3
theorem RepL.one {e : Env} : ∀ {cs : List AV} {ys : List Value}, RepL e cs ys → ∀ y ∈ ys, y.oneCell' = true
  | [], ys, h, y, hy => by simp only [RepL] at h; subst h; simp at hy
  | c :: cs, ys, h, y, hy => by
    simp only [RepL] at h
    obtain ⟨z, zs', rfl, h1, h2, h3⟩ := h
    rcases List.mem_cons.1 hy with rfl | hy
    · exact h2
    · exact RepL.one h3 y hy

def constA : Value → AV
  | .string b => .s b.data.toList
  | x => .v x
theorem constA_sound (e : Env) {v : Value} : Rep e (constA v) v := by
  cases v <;> simp [constA, Rep, S]
theorem zero_sound (e : Env) : ∀ {zs : List Value}, zs.all (·.oneCell') = true → RepL e (zs.map constA) zs
  | [], _ => by simp [RepL]
  | z :: zs, h => by
    simp only [List.all_cons, Bool.and_eq_true] at h
    simp only [List.map_cons, RepL]
    exact ⟨z, zs, rfl, constA_sound e, h.1, zero_sound e h.2⟩

section
variable {P : Program} {T : Tab} {X : Ctx P T} {n : Nat} {e : Env} {st : St} {a : Act} {w : World}

theorem Rel.alloc (r : Rel X n e st a w) {d : Nat} {cells : List AV} {arr : Array Value} {t : TypeId} (hd : Nat.blt d n = true) (hf : freshS d st.s = true) (hc : freshC d st.c = true)
    (hcells : RepL e cells arr.toList) (hno : AV.no.noL d cells = true) :
    Rel X n { e with μ := upd e.μ d w.heap.size } ⟨(d, .bp d 0) :: st.s, .box d t cells :: st.c⟩ (a.put (some d) (.pointer (some ⟨w.heap.size, 0, none⟩))) (w.alloc (.cells arr t)) := by
  have hid : ∀ (k : Nat), k ≠ d → upd e.μ d w.heap.size k = e.μ k := fun k hk => by simp [upd, hk]
  have hnod : ∀ {x : AV}, x.no d = true → ∀ j, x.no j = false → j ≠ d := fun hx j hj he => by subst he; rw [hx] at hj; cases hj
  have hGlt : ∀ b o v, e.G b o = some v → b < w.heap.size := fun b o v h => by
    have := block_lt_of_cell (r.im b o v h); exact this
  have r1 : Rel X n { e with μ := upd e.μ d w.heap.size } ⟨st.s, .box d t cells :: st.c⟩ a (w.alloc (.cells arr t)) :=
    { defers := r.defers
      size := r.size
      slots := fun i x h => by
        obtain ⟨v, h1, h2⟩ := r.slots i x h
        exact ⟨v, h1, Rep.mono (e := e) (f := { e with μ := upd e.μ d w.heap.size }) (IM.le_refl _) x (fun j hj => ⟨hid j (hnod (freshS_get hf i x h) j hj), rfl⟩) h2⟩
      im := fun b o v h => by
        have h1 := r.im b o v h
        have h2 := hGlt b o v h
        simp only [World.cell?] at h1 ⊢
        rw [Go.heap_alloc_old w _ h2]
        exact h1
      heap := by
        refine HeapOK.push r.heap (IM.le_refl _) (fun c hcm j hj => ⟨hid j ?_, rfl⟩) (fun b hb => Go.heap_alloc_old w _ hb) (bs' := [w.heap.size]) ?_ (by simp) (by simp) ?_ (by simp) (fun b _ h => h)
        · intro he; subst he; rw [freshC_mem hc c hcm] at hj; cases hj
        · refine ⟨by simp [upd], arr, ?_, RepL.mono (e := e) (f := { e with μ := upd e.μ d w.heap.size }) (IM.le_refl _) cells (fun j hj => ⟨hid j ?_, rfl⟩) hcells⟩
          · simp only [upd, if_true]; exact Go.heap_alloc_new w _
          · intro he; subst he; rw [hno] at hj; cases hj
        · intro b hb
          simp only [List.mem_singleton] at hb
          subst hb
          exact ⟨by simp, .inl r.sz, r.free (Nat.le_refl _)⟩
      mz := r.mzKeep (fun b hb _ => Go.heap_alloc_old w _ hb)
      newm := r.newm
      le := r.le
      new := r.new
      os := r.os
      tape := r.tape
      output := r.output
      sz := by have := r.sz; simp; omega
      keep := fun b hb hbs hs => by rw [Go.heap_alloc_old w _ (by have := r.sz; omega)]; exact r.keep b hb hbs hs
      fix := fun k hk => by rw [show ({ e with μ := upd e.μ d w.heap.size } : Env).μ k = e.μ k from hid k (by simp [Nat.blt] at hd; omega)]; exact r.fix k hk }
  have := r1.put (d := d) (x := .bp d 0) (v := .pointer (some ⟨w.heap.size, 0, none⟩)) hd (by simp [Rep, upd])
  exact this

theorem Rel.write (r : Rel X n e st a w) {k o : Nat} {t : TypeId} {cells new : List AV} {rest : List Ch} {vs : List Value} (hk : takeCh k st.c = some (.box k t cells, rest))
    (hv : RepL e new vs) (hl : o + new.length ≤ cells.length) :
    ∃ w', (storeCells ⟨e.μ k, o, none⟩ vs).run P w = .ok () w' ∧ Rel X n e ⟨st.s, .box k t (cells.take o ++ new ++ cells.drop (o + new.length)) :: rest⟩ a w' := by
  have hh := r.heap.perm (takeCh_perm hk)
  obtain ⟨bs, ⟨hbs, arr, g1, g2⟩, _, hgood⟩ := hh.head
  have hlen : arr.toList.length = cells.length := RepL.len g2
  have hvl : vs.length = new.length := RepL.len hv
  have hrun := run_storeCells_at P (e.μ k) o t vs 0 arr w g1 (by rw [hvl]; simp at hlen; omega) (RepL.one hv)
  simp only [Nat.add_zero] at hrun
  refine ⟨_, hrun, ?_⟩
  have hother : ∀ b, b ≠ e.μ k → (w.setRow (e.μ k) (arr.toList.take o ++ vs ++ arr.toList.drop (o + vs.length)).toArray).heap[b]? = w.heap[b]? := fun b hb => setRow_other w _ b _ hb
  have hGk : e.G.free (e.μ k) := (hgood (e.μ k) (by rw [hbs]; simp)).2.2
  refine { r with defers := r.defers, size := r.size, slots := r.slots, im := ?_, mz := r.mzKeep (fun b _ hb => hother b (fun he => hb (by rw [he]; exact hGk))), heap := ?_, os := r.os, tape := r.tape, output := r.output, sz := by rw [setRow_size]; exact r.sz, keep := ?_ }
  · intro b oo v h
    have hne : b ≠ e.μ k := fun he => by subst he; rw [hGk.1 oo] at h; cases h
    have h1 := r.im b oo v h
    simp only [World.cell?] at h1 ⊢
    rw [hother b hne]
    exact h1
  · refine HeapOK.update hh (IM.le_refl _) (fun _ _ _ _ => ⟨rfl, rfl⟩) ?_ (by rw [setRow_size]; exact Nat.le_refl _) (fun _ _ _ h => h)
    intro bs' hc hnd hg
    obtain ⟨rfl, _⟩ := hc
    refine ⟨fun b _ hb => hother b (by simpa using hb), [e.μ k], ⟨rfl, _, setRow_heap w _ arr _ t _ g1, ?_⟩, by simp, fun b hb => .inl hb, fun b hb => ?_⟩
    · rw [hvl]
      simpa using ((g2.take o).app hv).app (g2.drop (o + new.length))
    · obtain ⟨q1, q2, q3⟩ := hg b hb
      exact ⟨by rw [setRow_size]; exact q1, q2, q3⟩
  · intro b hb hbs' hs
    have hne : b ≠ e.μ k := by
      intro he
      subst he
      rcases (hgood (e.μ k) (by rw [hbs]; simp)).2.1 with h | h
      · omega
      · exact hbs' h
    rw [hother b hne]
    exact r.keep b hb hbs' hs
end

def normL {β : Type} : List AV → (List AV → β) → β
  | [], k => k []
  | x :: xs, k => normL xs fun ys => k (x :: ys)
theorem normL_eq {β : Type} : ∀ (l : List AV) (k : List AV → β), normL l k = k l
  | [], k => rfl
  | x :: xs, k => by simp only [normL]; rw [normL_eq xs]
def normA {β : Type} (x : AV) (k : AV → β) : β :=
  match x with
  | .agg cs => normL cs fun cs => k (.agg cs)
  | _ => k x
theorem normA_eq {β : Type} (x : AV) (k : AV → β) : normA x k = k x := by
  unfold normA
  split
  · rw [normL_eq]
  · rfl

def splice (cells : List AV) (off : Nat) (new : List AV) : List AV := cells.take off ++ new ++ cells.drop (off + new.length)

def fillA (place : Nat → Option (Nat × Nat)) (cells : List AV) : List (Nat × AV) → Option (List AV)
  | [] => some cells
  | (i, x) :: rest => match place i with
    | none => none
    | some (off, size) => match Nat.beq (cellsA x).length size && Nat.ble (off + size) cells.length && boxable x with
      | true => normL (splice cells off (cellsA x)) fun c => fillA place c rest
      | false => none

theorem foldl_set : ∀ (vs : List Value) (j0 : Nat) (off : Nat) (cells : Array Value), off + j0 + vs.length ≤ cells.size →
    ((vs.zipIdx j0).foldl (fun (cs : Array Value) (x : Value × Nat) => cs.setIfInBounds (off + x.2) x.1) cells).toList = cells.toList.take (off + j0) ++ vs ++ cells.toList.drop (off + j0 + vs.length)
  | [], j0, off, cells, h => by simp
  | v :: vs, j0, off, cells, h => by
    simp only [List.zipIdx_cons, List.foldl_cons]
    have ih := foldl_set vs (j0 + 1) off (cells.setIfInBounds (off + j0) v) (by simp at h ⊢; omega)
    rw [ih]
    have e := list_seg_step cells.toList (off + j0) v vs (by simp at h ⊢; omega)
    simpa [Array.toList_setIfInBounds, Nat.add_assoc] using e

theorem fill_sound {e : Env} {place : Nat → Option (Nat × Nat)} {cp : Nat → Option (Nat × Nat)} (hp : ∀ i q, place i = some q → cp i = some q) :
    ∀ (parts : List (Nat × AV)) (vals : List (Nat × Value)) (cells : List AV) (cur : Array Value) (res : List AV),
      parts.length = vals.length → (∀ (j : Nat) (p : Nat × AV) (q : Nat × Value), parts[j]? = some p → vals[j]? = some q → p.1 = q.1 ∧ Rep e p.2 q.2) → RepL e cells cur.toList → fillA place cells parts = some res →
      ∃ out, Instr.fill cp cur vals = some out ∧ RepL e res out.toList
  | [], [], cells, cur, res, _, _, hc, h => by
    simp only [fillA, Option.some.injEq] at h
    subst h
    exact ⟨cur, rfl, hc⟩
  | (i, x) :: parts, (i', v) :: vals, cells, cur, res, hl, hr, hc, h => by
    obtain ⟨h1, h2⟩ := hr 0 (i, x) (i', v) rfl rfl
    simp only at h1 h2
    subst h1
    simp only [fillA] at h
    split at h
    · cases h
    · rename_i off size hpl
      split at h
      · rename_i hok
        simp only [Bool.and_eq_true] at hok
        rw [normL_eq] at h
        obtain ⟨⟨k1, k2⟩, k3⟩ := hok
        have k1 := Nat.eq_of_beq_eq_true k1
        have k2 := Nat.le_of_ble_eq_true k2
        have hv := cellsA_sound h2 k3
        have hvl := RepL.len hv
        have hcl := RepL.len hc
        simp only [Array.length_toList] at hvl hcl
        have hf := foldl_set v.cells.toList 0 off cur (by simp; omega)
        have hz : (v.cells.zipIdx.foldl (fun (cs : Array Value) (x : Value × Nat) => cs.setIfInBounds (off + x.2) x.1) cur) = ((v.cells.toList.zipIdx 0).foldl (fun (cs : Array Value) (x : Value × Nat) => cs.setIfInBounds (off + x.2) x.1) cur) := by
          rw [← Array.foldl_toList]; simp
        have hnew : RepL e (splice cells off (cellsA x)) ((v.cells.zipIdx.foldl (fun (cs : Array Value) (x : Value × Nat) => cs.setIfInBounds (off + x.2) x.1) cur)).toList := by
          rw [hz, hf]
          unfold splice
          have := ((hc.take off).app hv).app (hc.drop (off + (cellsA x).length))
          simpa [hvl] using this
        obtain ⟨out, g1, g2⟩ := fill_sound hp parts vals _ _ res (by simpa using hl) (fun j p q hj hq => hr (j + 1) p q (by simpa using hj) (by simpa using hq)) hnew h
        refine ⟨out, ?_, g2⟩
        unfold Instr.fill
        rw [hp _ _ hpl]
        have : ¬ (v.cells.size ≠ size || decide (off + v.cells.size > cur.size)) = true := by
          simp; omega
        simp only [this, if_false]
        exact g1
      · cases h
  | [], _ :: _, _, _, _, hl, _, _, _ => by simp at hl
  | _ :: _, [], _, _, _, hl, _, _, _ => by simp at hl

end Go.Sy

namespace Go.Sy
open Go.RowKit

def putK (n : Nat) (d : Option Tmp) (x : AV) (st : St) (k : St → Prop) : Option Prop :=
  match d with
  | none => some (k st)
  | some d => match Nat.blt d n, st with
    | true, ⟨s, c⟩ => normA x fun x => some (k ⟨(d, x) :: s, c⟩)
    | false, _ => none

def hasC (d : Nat) : List Ch → Bool
  | [] => false
  | c :: r => match Nat.beq c.id d with
    | true => true
    | false => hasC d r

def boxK (n d : Nat) (t : TypeId) (cells : List AV) (st : St) (k : St → Prop) : Option Prop :=
  match st with
  | ⟨s, c⟩ => match get s d, hasC d c with
    | none, false => (match Nat.blt d n && freshS d s && freshC d c && AV.no.noL d cells with
      | true => normL cells fun cells => some (k ⟨(d, .bp d 0) :: s, .box d t cells :: c⟩)
      | false => none)
    | _, _ => (match Nat.blt d n && freshS d (eraseS d s) && freshC d (eraseC d c) && AV.no.noL d cells with
      | true => normL cells fun cells => some (k ⟨(d, .bp d 0) :: eraseS d s, .box d t cells :: eraseC d c⟩)
      | false => none)

def opdP (s : List (Nat × AV)) : List (Nat × Operand) → Option (List (Nat × AV))
  | [] => some []
  | (i, o) :: r => match opd s o, opdP s r with
    | some x, some xs => some ((i, x) :: xs)
    | _, _ => none

def opds (s : List (Nat × AV)) : List Operand → Option (List AV)
  | [] => some []
  | o :: r => match opd s o, opds s r with
    | some x, some xs => some (x :: xs)
    | _, _ => none

def memOp (T : Tab) (n : Nat) (dst : Option Tmp) (op : Op) (st : St) (k : St → Prop) : Option Prop :=
  match op with
  | .alloc t => (match dst, T t with
    | some d, some i => boxK n d t (i.zero.map constA) st k
    | _, _ => none)
  | .box t x => (match dst, opd st.s x with
    | some d, some av => (match boxable av with
      | true => boxK n d t (cellsA av) st k
      | false => none)
    | _, _ => none)
  | .store t a x => (match dst, T t, opd st.s a, opd st.s x with
    | none, some i, some (.bp b o), some av => (match takeCh b st.c with
      | some (.box kk tt cells, rest) => (match boxable av && Nat.beq (cellsA av).length i.size && Nat.ble (o + i.size) cells.length with
        | true => (match st with
          | ⟨s, _⟩ => normL (splice cells o (cellsA av)) fun new => some (k ⟨s, .box kk tt new :: rest⟩))
        | false => none)
      | _ => none)
    | _, _, _, _ => none)
  | .build t parts => (match T t with
    | some ⟨_, _, _, zero, .struct fs⟩ => (match opdP st.s parts.toList with
      | some ps => (match fillA (fs[·]?) (zero.map constA) ps with
        | some cs => putK n dst (.agg cs) st k
        | none => none)
      | none => none)
    | some ⟨_, _, _, zero, .arr _ el⟩ => (match opdP st.s parts.toList, T el with
      | some ps, some ei => (match fillA (fun i => some (i * ei.size, ei.size)) (zero.map constA) ps with
        | some cs => putK n dst (.agg cs) st k
        | none => none)
      | _, _ => none)
    | _ => none)
  | _ => none

section
variable {P : Program} {T : Tab} {X : Ctx P T} {n : Nat} {e : Env} {st : St} {a : Act} {w : World}

theorem putK_sound {d : Option Tmp} {x : AV} {k : St → Prop} {p : Prop} (r : Rel X n e st a w) (h : putK n d x st k = some p) (hp : p) {v : Value} (hv : Rep e x v) : ∃ st', k st' ∧ Rel X n e st' (a.put d v) w := by
  unfold putK at h
  cases d with
  | none =>
    simp only [Option.some.injEq] at h
    subst h
    exact ⟨st, hp, by simpa [Act.put] using r⟩
  | some d =>
    simp only at h
    split at h
    · rename_i hb
      rw [normA_eq] at h
      simp only [Option.some.injEq] at h
      subst h
      exact ⟨_, hp, r.put hb hv⟩
    · cases h

theorem boxK_sound {d : Nat} {t : TypeId} {cells : List AV} {k : St → Prop} {p : Prop} (r : Rel X n e st a w) (h : boxK n d t cells st k = some p) (hp : p) {arr : Array Value} (hc : RepL e cells arr.toList) :
    ∃ e' st', k st' ∧ Rel X n e' st' (a.put (some d) (.pointer (some ⟨w.heap.size, 0, none⟩))) (w.alloc (.cells arr t)) := by
  obtain ⟨s, c⟩ := st
  simp only [boxK] at h
  split at h
  · split at h
    · rename_i hb
      simp only [Bool.and_eq_true] at hb
      obtain ⟨⟨⟨h1, h2⟩, h3⟩, h4⟩ := hb
      rw [normL_eq] at h
      simp only [Option.some.injEq] at h
      subst h
      exact ⟨_, _, hp, r.alloc h1 h2 h3 hc h4⟩
    · cases h
  · split at h
    · rename_i hb
      simp only [Bool.and_eq_true] at hb
      obtain ⟨⟨⟨h1, h2⟩, h3⟩, h4⟩ := hb
      rw [normL_eq] at h
      simp only [Option.some.injEq] at h
      subst h
      have r' : Rel X n e ⟨eraseS d s, eraseC d c⟩ a w := r.less (fun i x hx => by
        rw [get_eraseS] at hx
        split at hx
        · cases hx
        · exact hx) (fun hh => hh.erase d)
      exact ⟨_, _, hp, r'.alloc h1 h2 h3 hc h4⟩
    · cases h

theorem opdP_sound (r : Rel X n e st a w) : ∀ {ps : List (Nat × Operand)} {xs : List (Nat × AV)}, opdP st.s ps = some xs →
    xs.length = ps.length ∧ ∀ (j : Nat) (p : Nat × AV) (q : Nat × Value), xs[j]? = some p → (ps.map fun (i, x) => (i, a.eval x))[j]? = some q → p.1 = q.1 ∧ Rep e p.2 q.2
  | [], xs, h => by simp only [opdP, Option.some.injEq] at h; subst h; simp
  | (i, o) :: ps, xs, h => by
    simp only [opdP] at h
    split at h
    · rename_i x xs' h1 h2
      simp only [Option.some.injEq] at h
      subst h
      obtain ⟨g1, g2⟩ := opdP_sound r h2
      refine ⟨by simp [g1], fun j p q hp hq => ?_⟩
      cases j with
      | zero => simp at hp hq; subst hp hq; exact ⟨rfl, opd_sound r h1⟩
      | succ j => exact g2 j p q (by simpa using hp) (by simpa using hq)
    · cases h

theorem opds_sound (r : Rel X n e st a w) : ∀ {os : List Operand} {xs : List AV}, opds st.s os = some xs → RepT e xs (os.map a.eval)
  | [], xs, h => by simp only [opds, Option.some.injEq] at h; subst h; simp [RepT]
  | o :: os, xs, h => by
    simp only [opds] at h
    split at h
    · rename_i x xs' h1 h2
      simp only [Option.some.injEq] at h
      subst h
      simp only [List.map_cons, RepT]
      exact ⟨_, _, rfl, opd_sound r h1, opds_sound r h2⟩
    · cases h

theorem run_mapM_list {α β : Type} {P : Program} {w : World} {g : α → Sem β} {h : α → β} : ∀ (l : List α), (∀ x ∈ l, (g x).run P w = .ok (h x) w) → (l.mapM g).run P w = .ok (l.map h) w
  | [], _ => rfl
  | x :: l, hx => by
    have ih := run_mapM_list l (fun y hy => hx y (List.mem_cons_of_mem _ hy))
    simp only [List.mapM_cons, Sem.run_bind, hx x (List.mem_cons_self ..), Result.andThen_ok, ih, Sem.run_pure, List.map_cons]
theorem run_mapM_array {α β : Type} {P : Program} {w : World} {g : α → Sem β} {h : α → β} (l : Array α) (hx : ∀ x ∈ l, (g x).run P w = .ok (h x) w) : (l.mapM g).run P w = .ok (l.map h) w := by
  rw [Array.mapM_eq_mapM_toList, Sem.run_map, run_mapM_list l.toList (fun x hm => hx x (by simpa using hm))]
  simp only [Result.andThen_ok]
  congr 1
  apply Array.ext'
  simp
theorem run_places {P : Program} {w : World} (fields : Array Field) (h : ∀ f ∈ fields, (P.info? f.type).isSome = true) :
    (fields.mapM fun f => (do pure (f.offset, ← sizeOf f.type) : Sem (Nat × Nat))).run P w = .ok (fields.map fun f => (f.offset, P.cellsOf f.type)) w := by
  refine run_mapM_array fields (fun f hf => ?_)
  obtain ⟨fi, hfi⟩ := Option.isSome_iff_exists.1 (h f hf)
  simp [sizeOf, typeInfo, hfi, Program.cellsOf]

theorem memOp_sound {o : Oper} {k : St → Prop} {p : Prop} (r : Rel X n e st a w) (h : memOp T n o.dst o.op st k = some p) (hp : p) {K : Act → World → Prop} {Q : Exit → Act → World → Prop}
    (hk : ∀ e' st' a' w', k st' → Rel X n e' st' a' w' → K a' w') : o.wp P a w K Q := by
  have hT := X.ok
  obtain ⟨dst, op, ty, pos, aft, gd⟩ := o
  simp only at h
  unfold memOp at h
  unfold Oper.wp
  split at h
  · rename_i t
    split at h
    · rename_i d i hTt
      obtain ⟨pi, z, g1, g2, g3, g4, g5, g6, g7⟩ := (hT _ _ hTt).info
      obtain ⟨e', st', h1, h2⟩ := boxK_sound r h hp (arr := z.cells) (by rw [g5]; exact zero_sound e g6)
      have : (execOp a.eval ⟨some d, .alloc t, ty, pos, aft, gd⟩).run P w = .ok (.value (.pointer (some ⟨w.heap.size, 0, none⟩))) (w.alloc (.cells z.cells t)) := by
        simp [execOp, Instr.alloc, zeroValue, typeInfo, g1, g4, newVar, newRow]
      rw [this]
      exact hk _ _ _ _ h1 h2
    · exact (by cases h)
  · rename_i t x
    split at h
    · rename_i d av hx
      split at h
      · rename_i hb
        obtain ⟨e', st', h1, h2⟩ := boxK_sound r h hp (arr := (a.eval x).cells) (cellsA_sound (opd_sound r hx) hb)
        have : (execOp a.eval ⟨some d, .box t x, ty, pos, aft, gd⟩).run P w = .ok (.value (.pointer (some ⟨w.heap.size, 0, none⟩))) (w.alloc (.cells (a.eval x).cells t)) := by
          simp [execOp, Instr.box, newVar, newRow]
        rw [this]
        exact hk _ _ _ _ h1 h2
      · exact (by cases h)
    · exact (by cases h)
  · rename_i t ad x
    split at h
    · rename_i i b o av hTt hb hx
      split at h
      · rename_i kk tt cells rest htk
        split at h
        · rename_i hok
          simp only [Bool.and_eq_true] at hok
          obtain ⟨⟨k1, k2⟩, k3⟩ := hok
          have k2 := Nat.eq_of_beq_eq_true k2
          have k3 := Nat.le_of_ble_eq_true k3
          have hkk : kk = b := kid_of_take htk
          subst hkk
          have hv := cellsA_sound (opd_sound r hx) k1
          have hbp := opd_sound r hb
          simp only [Rep] at hbp
          obtain ⟨w', g1, g2⟩ := r.write htk hv (o := o) (by omega)
          have hsz : (a.eval x).cells.size = i.size := by have := RepL.len hv; simp at this; omega
          have : (execOp a.eval ⟨none, .store t ad x, ty, pos, aft, gd⟩).run P w = .ok .skip w' := by
            simp only [execOp, Instr.storeAt, hbp, Instr.sureAddr, Sem.run_bind, Sem.run_pure, Result.andThen_ok, storeVar, hT.size hTt, hsz]
            simp [g1]
          rw [this]
          simp only [normL_eq, Option.some.injEq] at h
          subst h
          exact hk _ _ _ _ hp g2
        · exact (by cases h)
      · exact (by cases h)
    · exact (by cases h)
  · rename_i t parts
    split at h
    · rename_i sz by_ ag zero fs hTt
      split at h
      · rename_i ps hps
        split at h
        · rename_i cs hcs
          obtain ⟨pi, z, g1, g2, g3, g4, g5, g6, g7⟩ := (hT _ _ hTt).info
          obtain ⟨d, e1, _, e3⟩ := (hT _ _ hTt).desc
          simp only [TDOK] at e3
          obtain ⟨fields, rfl, e4, e5⟩ := e3
          obtain ⟨q1, q2⟩ := opdP_sound r hps
          simp only at g5 g6
          have hmm := run_places (w := w) fields e5
          have hplace : ∀ (i : Nat) (q : Nat × Nat), fs[i]? = some q → (fields.map fun f => (f.offset, P.cellsOf f.type))[i]? = some q := by
            intro i q hq
            rw [← e4] at hq
            simpa using hq
          obtain ⟨out, o1, o2⟩ := fill_sound (e := e) hplace ps (parts.toList.map fun (i, x) => (i, a.eval x)) _ z.cells cs (by simp [q1]) q2 (by rw [g5]; exact zero_sound e g6) hcs
          have : (execOp a.eval ⟨dst, .build t parts, ty, pos, aft, gd⟩).run P w = .ok (.value (.agg out)) w := by
            simp only [execOp, Instr.build, Sem.run_bind, zeroValue, typeInfo, run_program, Result.andThen_ok, g1, Sem.run_pure, g4, run_underlying e1, hmm, Array.toList_map]
            rw [o1]
            rfl
          rw [this]
          obtain ⟨st', s1, s2⟩ := putK_sound r h hp (v := .agg out) (by simp only [Rep]; exact ⟨_, rfl, o2⟩)
          exact hk _ _ _ _ s1 s2
        · exact (by cases h)
      · exact (by cases h)
    · rename_i sz by_ ag zero len el hTt
      split at h
      · rename_i ps ei hps hei
        split at h
        · rename_i cs hcs
          obtain ⟨pi, z, g1, g2, g3, g4, g5, g6, g7⟩ := (hT _ _ hTt).info
          obtain ⟨d, e1, _, e3⟩ := (hT _ _ hTt).desc
          simp only [TDOK] at e3
          subst e3
          obtain ⟨q1, q2⟩ := opdP_sound r hps
          simp only at g5 g6
          have hplace : ∀ (i : Nat) (q : Nat × Nat), (fun i => some (i * ei.size, ei.size)) i = some q → (fun i => some (i * ei.size, ei.size)) i = some q := fun _ _ h => h
          obtain ⟨out, o1, o2⟩ := fill_sound (e := e) hplace ps (parts.toList.map fun (i, x) => (i, a.eval x)) _ z.cells cs (by simp [q1]) q2 (by rw [g5]; exact zero_sound e g6) hcs
          have : (execOp a.eval ⟨dst, .build t parts, ty, pos, aft, gd⟩).run P w = .ok (.value (.agg out)) w := by
            simp only [execOp, Instr.build, Sem.run_bind, zeroValue, typeInfo, run_program, Result.andThen_ok, g1, Sem.run_pure, g4, run_underlying e1, hT.size hei, Array.toList_map]
            rw [o1]
            rfl
          rw [this]
          obtain ⟨st', s1, s2⟩ := putK_sound r h hp (v := .agg out) (by simp only [Rep]; exact ⟨_, rfl, o2⟩)
          exact hk _ _ _ _ s1 s2
        · exact (by cases h)
      · exact (by cases h)
    · exact (by cases h)
  · exact (by cases h)
end
end Go.Sy

namespace Go.Sy
open Go.RowKit

def opK (T : Tab) (n : Nat) (dst : Option Tmp) (op : Op) (st : St) (k : St → Prop) : Option Prop :=
  match still T st op with
  | some av => putK n dst av st k
  | none => match still1 T st op with
    | some (vc, av) => (match putK n dst av st k with
      | some p => some (vc ∧ p)
      | none => none)
    | none => memOp T n dst op st k

def guardA (ops : Array Oper) (st : St) (o : Oper) : Option Bool :=
  match o.guard with
  | none => some true
  | some (j, want) => match ops.toList[j]? with
    | none => none
    | some oj => match oj.dst with
      | none => none
      | some d => match get st.s d with
        | some (.v (.bool true)) => some want
        | some (.v (.bool false)) => some (!want)
        | some (.tup []) => some false
        | _ => none

def stepO {P : Program} {T : Tab} (X : Ctx P T) (n : Nat) (ops : Array Oper) (K : St → Prop) : List Oper → St → Option Prop
  | [], st => some (K st)
  | o :: rest, st => match guardA ops st o with
    | some true => opK T n o.dst o.op st (fun s => SymO X n ops rest s K)
    | some false => putK n o.dst (.tup []) st (fun s => SymO X n ops rest s K)
    | none => none

section
variable {P : Program} {T : Tab} {X : Ctx P T} {n : Nat} {e : Env} {st : St} {a : Act} {w : World} {ops : Array Oper} {K : St → Prop}

theorem opK_sound {o : Oper} {k : St → Prop} {p : Prop} (r : Rel X n e st a w) (h : opK T n o.dst o.op st k = some p) (hp : p) {K : Act → World → Prop} {Q : Exit → Act → World → Prop}
    (hk : ∀ e' st' a' w', k st' → Rel X n e' st' a' w' → K a' w') : o.wp P a w K Q := by
  unfold opK at h
  split at h
  · rename_i av hs
    obtain ⟨v, h2, h1⟩ := still_sound r hs
    obtain ⟨st', s1, s2⟩ := putK_sound r h hp h2
    unfold Oper.wp
    rw [h1 w (SameAs.refl w)]
    exact hk _ _ _ _ s1 s2
  · split at h
    · rename_i vc av hs
      split at h
      · rename_i q hq
        simp only [Option.some.injEq] at h
        subst h
        obtain ⟨v, h2, h1⟩ := still1_sound r hs hp.1
        obtain ⟨st', s1, s2⟩ := putK_sound r hq hp.2 h2
        unfold Oper.wp
        rw [h1 w (SameAs.refl w)]
        exact hk _ _ _ _ s1 s2
      · cases h
    · exact memOp_sound r h hp hk

theorem guardA_sound (r : Rel X n e st a w) {o : Oper} {b : Bool} (h : guardA ops st o = some b) : Region.wanted o (yielded ops a.tmps) = b := by
  unfold guardA at h
  unfold Region.wanted
  split at h
  · rename_i hg
    simp only [Option.some.injEq] at h
    rw [hg, ← h]
  · rename_i j want hg
    rw [hg]
    simp only
    split at h
    · cases h
    · rename_i oj hj
      split at h
      · cases h
      · rename_i d hd
        have hj' : ops[j]? = some oj := by simpa using hj
        have hy : ∀ x : Bool, get st.s d = some (.v (.bool x)) → yielded ops a.tmps j = some x := by
          intro x hx
          obtain ⟨v, h1, h2⟩ := r.slots d _ hx
          simp only [Rep] at h2
          subst h2
          simp [yielded, hj', hd, h1]
        split at h
        · rename_i hx
          simp only [Option.some.injEq] at h
          rw [hy _ hx, ← h]
          cases want <;> rfl
        · rename_i hx
          simp only [Option.some.injEq] at h
          rw [hy _ hx, ← h]
          cases want <;> rfl
        · rename_i hx
          simp only [Option.some.injEq] at h
          obtain ⟨v, h1, h2⟩ := r.slots d _ hx
          have h3 : v = .tuple #[] := by
            simp only [Rep, RepT] at h2
            obtain ⟨ys, rfl, h2⟩ := h2
            congr 1
            exact Array.toList_eq_nil_iff.1 h2
          subst h3
          have : yielded ops a.tmps j = none := by simp [yielded, hj', hd, h1]
          rw [this, ← h]
          rfl
        · cases h

theorem so {l : List Oper} {p : Prop} (h : stepO X n ops K l st = some p) (hp : p) : SymO X n ops l st K := by
  cases l with
  | nil =>
    simp only [stepO, Option.some.injEq] at h
    subst h
    exact O_nil hp
  | cons o rest =>
    intro e a w Q r hq
    simp only [stepO] at h
    split at h
    · rename_i hg
      have hw := guardA_sound r hg
      unfold wpList
      rw [if_pos hw]
      refine .inl (opK_sound r h hp (fun e' st' a' w' hk hr => ?_))
      exact hk e' a' w' Q hr hq
    · rename_i hg
      have hw := guardA_sound r hg
      unfold wpList
      rw [if_neg (by rw [hw]; decide)]
      obtain ⟨st', s1, s2⟩ := putK_sound r h hp (v := undef) (by simp [Rep, RepT, undef])
      exact s1 e _ w Q s2 hq
    · cases h

theorem O_case {l : List Oper} {s : List (Nat × AV)} {c : List Ch} (d : Nat) {b : Bool} (hb : get s d = some (.v (.bool b)))
    (ht : b = true → SymO X n ops l ⟨(d, .v (.bool true)) :: s, c⟩ K) (hf : b = false → SymO X n ops l ⟨(d, .v (.bool false)) :: s, c⟩ K) : SymO X n ops l ⟨s, c⟩ K := by
  intro e a w Q r hq
  obtain ⟨v, h1, h2⟩ := r.slots d _ hb
  have key : ∀ x, b = x → Rel X n e ⟨(d, .v (.bool x)) :: s, c⟩ a w := by
    intro x hx
    subst hx
    refine { r with slots := ?_ }
    intro i y hy
    rw [get_cons] at hy
    by_cases h : d = i
    · subst h
      simp only [if_true, Option.some.injEq] at hy
      subst hy
      exact ⟨v, h1, h2⟩
    · rw [if_neg h] at hy; exact r.slots i y hy
  cases b with
  | true => exact ht rfl e a w Q (key _ rfl) hq
  | false => exact hf rfl e a w Q (key _ rfl) hq

theorem O_true {l : List Oper} {s : List (Nat × AV)} {c : List Ch} (d : Nat) {b : Bool} (hb : get s d = some (.v (.bool b))) (ht : b = true)
    (h : SymO X n ops l ⟨(d, .v (.bool true)) :: s, c⟩ K) : SymO X n ops l ⟨s, c⟩ K :=
  O_case d hb (fun _ => h) (fun hf => by rw [ht] at hf; cases hf)
theorem O_false {l : List Oper} {s : List (Nat × AV)} {c : List Ch} (d : Nat) {b : Bool} (hb : get s d = some (.v (.bool b))) (ht : b = false)
    (h : SymO X n ops l ⟨(d, .v (.bool false)) :: s, c⟩ K) : SymO X n ops l ⟨s, c⟩ K :=
  O_case d hb (fun hf => by rw [ht] at hf; cases hf) (fun _ => h)

def stepC {P : Program} {T : Tab} (X : Ctx P T) (n : Nat) (Q : Exit → St → Prop) (st : St) : Code → Option Prop
  | .skip => some (Q .normal st)
  | .label _ => some (Q .normal st)
  | .ret => some (Q .ret st)
  | .exit id => some (Q (.exit id) st)
  | .seq x y => some (SymC X n x st (fun ex s => match ex with
    | .normal => SymC X n y s Q
    | ex => Q ex s))
  | .block id c => some (SymC X n c st (fun ex s => match ex with
    | .exit j => (match Nat.beq j id with
      | true => Q .normal s
      | false => Q (.exit j) s)
    | ex => Q ex s))
  | .region _ ops false => some (SymO X n ops ops.toList st (fun s => Q .normal s))
  | _ => none

theorem sc {Q : Exit → St → Prop} {c : Code} {p : Prop} (h : stepC X n Q st c = some p) (hp : p) : SymC X n c st Q := by
  cases c with
  | skip => cases h; exact C_skip hp
  | label l => cases h; exact C_label hp
  | ret => cases h; exact C_ret hp
  | exit id => cases h; exact C_exit hp
  | seq x y => cases h; exact C_seq hp
  | block id c => cases h; exact C_block hp
  | region id ops draw =>
    cases draw with
    | true => cases h
    | false => cases h; exact fun e a w r => wp_region_list (hp e a w (concX X n Q) r fun e' st' _ _ hk hr => ⟨e', st', hr, hk⟩)
  | _ => cases h

theorem C_if {Q : Exit → St → Prop} {c : Operand} {x y : Code} {b : Bool} (hb : opd st.s c = some (.v (.bool b))) (ht : b = true → SymC X n x st Q) (hf : b = false → SymC X n y st Q) :
    SymC X n (.cond c x y) st Q := by
  intro e a w r
  have := opd_sound r hb
  simp only [Rep] at this
  exact wp_cond_split this (fun h => ht h e a w r) (fun h => hf h e a w r)
theorem C_true {Q : Exit → St → Prop} {c : Operand} {x y : Code} {b : Bool} (hb : opd st.s c = some (.v (.bool b))) (ht : b = true) (h : SymC X n x st Q) :
    SymC X n (.cond c x y) st Q := C_if hb (fun _ => h) (fun hf => by rw [ht] at hf; cases hf)
theorem C_false {Q : Exit → St → Prop} {c : Operand} {x y : Code} {b : Bool} (hb : opd st.s c = some (.v (.bool b))) (hf : b = false) (h : SymC X n y st Q) :
    SymC X n (.cond c x y) st Q := C_if hb (fun ht => by rw [ht] at hf; cases hf) (fun _ => h)

def Le (X : Ctx P T) (n : Nat) (s s2 : St) : Prop := ∀ e a w, Rel X n e s a w → ∃ e', Rel X n e' s2 a w
theorem Le.trans {s1 s2 s3 : St} (h : Le X n s1 s2) (k : Le X n s2 s3) : Le X n s1 s3 := fun e a w r => let ⟨e', r'⟩ := h e a w r; k e' a w r'

def subS : List (Nat × AV) → List (Nat × AV) → Prop
  | [], _ => True
  | (i, x) :: r, s => get s i = some x ∧ subS r s
theorem subS_get : ∀ {r s : List (Nat × AV)}, subS r s → ∀ i x, get r i = some x → get s i = some x
  | [], s, _, i, x, h => by simp [get] at h
  | (j, y) :: r, s, hs, i, x, h => by
    rw [get_cons] at h
    by_cases hj : j = i
    · subst hj
      simp only [if_true, Option.some.injEq] at h
      subst h
      exact hs.1
    · rw [if_neg hj] at h; exact subS_get hs.2 i x h
def takeAll : List Nat → List Ch → Option (List Ch)
  | [], _ => some []
  | k :: ks, cs => match takeCh k cs with
    | some (c, r) => (match takeAll ks r with
      | some l => some (c :: l)
      | none => none)
    | none => none
theorem HeapOK.pick {w : World} : ∀ {ks : List Nat} {cs l : List Ch}, takeAll ks cs = some l → ∀ {pre : List Ch}, HeapOK X e w (pre ++ cs) → HeapOK X e w (pre ++ l)
  | [], cs, l, h, pre, hh => by
    simp only [takeAll, Option.some.injEq] at h
    subst h
    rw [List.append_nil]
    have : ∀ (cs : List Ch), HeapOK X e w (pre ++ cs) → HeapOK X e w pre := by
      intro cs
      induction cs with
      | nil => intro h; simpa using h
      | cons c cs ih =>
        intro h
        have hp : (pre ++ c :: cs).Perm (c :: (pre ++ cs)) := List.perm_middle
        exact ih (h.perm hp).drop
    exact this cs hh
  | k :: ks, cs, l, h, pre, hh => by
    simp only [takeAll] at h
    split at h
    · rename_i c r htk
      split at h
      · rename_i l' hl'
        simp only [Option.some.injEq] at h
        subst h
        have hp : (pre ++ cs).Perm ((pre ++ [c]) ++ r) := by
          rw [List.append_assoc]
          exact (takeCh_perm htk).append_left pre
        have := HeapOK.pick (ks := ks) hl' (pre := pre ++ [c]) (hh.perm hp)
        simpa using this
      · cases h
    · cases h

theorem Le.sub {s s2 : St} (ks : List Nat) (hs : subS s2.s s.s) (hc : takeAll ks s.c = some s2.c) : Le X n s s2 :=
  fun e a w r => ⟨e, r.less (fun i x hx => subS_get hs i x hx) (fun hh => HeapOK.pick hc (pre := []) hh)⟩

theorem C_le {Q : Exit → St → Prop} {c : Code} (s2 : St) (hl : Le X n st s2) (h : SymC X n c s2 Q) : SymC X n c st Q :=
  fun e a w r => let ⟨e', r'⟩ := hl e a w r; h e' a w r'
theorem O_le {l : List Oper} (s2 : St) (hl : Le X n st s2) (h : SymO X n ops l s2 K) : SymO X n ops l st K :=
  fun e a w Q r hq => let ⟨e', r'⟩ := hl e a w r; h e' a w Q r' hq

theorem C_ifJ {Q : Exit → St → Prop} {c : Operand} {x y : Code} {b : Bool} (s2 : St) (hb : opd st.s c = some (.v (.bool b)))
    (ht : b = true → SymC X n x st (fun ex s => match ex with
      | .normal => Le X n s s2
      | ex => Q ex s)) (hf : b = false → SymC X n y st (fun ex s => match ex with
      | .normal => Le X n s s2
      | ex => Q ex s)) (hQ : ∀ s, Le X n s s2 → Q .normal s) : SymC X n (.cond c x y) st Q :=
  C_if hb (fun h => (ht h).mono fun ex s h => by cases ex <;> first | exact h | exact hQ s h) (fun h => (hf h).mono fun ex s h => by cases ex <;> first | exact h | exact hQ s h)

theorem C_loop {α : Type} {Q : Exit → St → Prop} {c : Code} (S : α → St) (I : α → Prop) (m : α → Nat) (x0 : α) (hI : I x0) (h0 : Le X n st (S x0))
    (round : ∀ x, I x → SymC X n c (S x) (fun ex s => match ex with
      | .normal => ∃ y, I y ∧ m y < m x ∧ Le X n s (S y)
      | ex => Q ex s)) : SymC X n (.loop c) st Q := by
  intro e a w r
  refine wp_loop_ghost (fun k a w => ∃ x e, m x = k ∧ I x ∧ Rel X n e (S x) a w) (m x0) ?_ ?_
  · obtain ⟨e', r'⟩ := h0 e a w r
    exact ⟨x0, e', rfl, hI, r'⟩
  · rintro k a w ⟨x, e, rfl, hx, r⟩
    refine Code.wp_mono (fun ex a' w' hc => ?_) (round x hx e a w r)
    cases ex with
    | normal =>
      obtain ⟨e', st', h1, y, hy, hlt, hle⟩ := hc
      obtain ⟨e2, h2⟩ := hle e' a' w' h1
      exact ⟨m y, hlt, y, e2, rfl, hy, h2⟩
    | exit id => exact hc
    | goto l => exact hc
    | ret => exact hc
    | panic ch => exact hc
    | outgrown => exact hc
end

theorem w64 {x : Int} (h : -9223372036854775808 ≤ x) (h2 : x ≤ 9223372036854775807) : IntKind.i64.wrap x = x := by
  simp only [IntKind.wrap, IntKind.bits, IntKind.signed, Bool.true_and]
  split <;> rename_i h3 <;> simp at h3 <;> omega

abbrev SL {α : Type} [Inhabited α] (esz : Nat) (cells : α → List AV) (l : List α) : AV := .sl l.length esz (fun i => cells (l.getD i default))
abbrev I64 (n : Int) : AV := .v (.int .i64 n)
abbrev B (b : Bool) : AV := .v (.bool b)

def ImOK (G : IM) (w : World) : Prop := (∀ b o v, G b o = some v → w.cell? ⟨b, o, none⟩ = some v) ∧ ∀ b x, G.m b = some x → MzOK G w b x
def NewIn (G G' : IM) (N : Nat) : Prop := (∀ b o v, G' b o = some v → G b o = some v ∨ N ≤ b) ∧ ∀ b x, G'.m b = some x → G.m b = some x ∨ N ≤ b
theorem NewIn.free {G G' : IM} {N b : Nat} (h : NewIn G G' N) (hb : b < N) (hf : G.free b) : G'.free b := by
  refine ⟨fun o => ?_, ?_⟩
  · cases hg : G' b o with
    | none => rfl
    | some v =>
      rcases h.1 b o v hg with k | k
      · rw [hf.1 o] at k; cases k
      · omega
  · cases hg : G'.m b with
    | none => rfl
    | some v =>
      rcases h.2 b v hg with k | k
      · rw [hf.2] at k; cases k
      · omega
theorem NewIn.refl (G : IM) (N : Nat) : NewIn G G N := ⟨fun _ _ _ h => .inl h, fun _ _ h => .inl h⟩
structure BelowL (G : IM) (w w' : World) : Prop where
  os : w'.os = w.os
  tape : w'.tape = w.tape
  output : w'.output = w.output
  size : w.heap.size ≤ w'.heap.size
  block : ∀ k, k < w.heap.size → G.still k → w'.heap[k]? = w.heap[k]?
theorem BelowL.of {G : IM} {w w' : World} (h : Below w.heap.size w w') : BelowL G w w' := ⟨h.os, h.tape, h.output, h.size, fun k hk _ => h.block k hk⟩
theorem IM.free_still {G : IM} {b : Nat} (h : G.free b) : G.still b := fun L hL => by rw [h.2] at hL; cases hL

def Callable (P : Program) (f : FuncId) : Prop := ∃ fn, P.funcs[f]? = some fn ∧ fn.body.isNone = false ∧ (fn.name == "runtime.NumGoroutine") = false

def FnP (P : Program) (f : FuncId) (args : List AV) (post : AV → Prop) : Prop :=
  Callable P f ∧ ∀ (G : IM) (w : World) (cargs : List Value), ImOK G w → RepIT G args cargs →
    Calls P f cargs.toArray w fun e w' => ∃ r cr G', post r ∧ e = .returned cr ∧ RepI G' r cr ∧ IM.le G G' ∧
      NewIn G G' w.heap.size ∧ ImOK G' w' ∧ BelowL G w w'

def FnB (P : Program) (Gb : IM) (f : FuncId) (args : List AV) (post : AV → Prop) : Prop :=
  Callable P f ∧ ∀ (G : IM) (w : World) (cargs : List Value), IM.le Gb G → ImOK G w → RepIT G args cargs →
    Calls P f cargs.toArray w fun e w' => ∃ r cr G', post r ∧ e = .returned cr ∧ RepI G' r cr ∧ IM.le G G' ∧
      NewIn G G' w.heap.size ∧ ImOK G' w' ∧ BelowL G w w'

theorem FnP.toB {P : Program} {Gb : IM} {f : FuncId} {args : List AV} {post : AV → Prop} (h : FnP P f args post) : FnB P Gb f args post :=
  ⟨h.1, fun G w c _ h1 h2 => h.2 G w c h1 h2⟩

def enumA (i : Nat) : List AV → List (Nat × AV)
  | [] => []
  | x :: r => (i, x) :: enumA (i + 1) r

def resL (T : Tab) (st : St) : List ResultVar → Option (List AV)
  | [] => some []
  | .tmp t :: r => (match get st.s t, resL T st r with
    | some x, some xs => some (x :: xs)
    | _, _ => none)
  | .cell t ty :: r => (match get st.s t, T ty, resL T st r with
    | some (.bp k o), some i, some xs => (match boxCells k st.c with
      | some cells => (match loadA i (cells.drop o) with
        | some x => some (x :: xs)
        | none => none)
      | none => none)
    | _, _, _ => none)
def resA (T : Tab) (st : St) (rs : List ResultVar) : Option AV :=
  match resL T st rs with
  | some [x] => some x
  | some xs => some (.tup xs)
  | none => none

def Ends (T : Tab) (rs : Array ResultVar) (post : AV → Prop) : Exit → St → Prop
  | .normal, st => ∃ r, resA T st rs.toList = some r ∧ r.imm = true ∧ post r
  | .ret, st => ∃ r, resA T st rs.toList = some r ∧ r.imm = true ∧ post r
  | _, _ => False

section
variable {P : Program} {T : Tab} {X : Ctx P T} {n : Nat} {e : Env} {st : St} {a : Act} {w : World} {ops : Array Oper} {K : St → Prop}

def resF (tmps : Array Value) : ResultVar → Sem Value
  | .tmp t => pure (tmps.getD t undef)
  | .cell c t => do loadVar t (← asAddr (tmps.getD c undef))
theorem results_eq (fn : Func) (tmps : Array Value) : results fn tmps = (do
    let vs ← fn.results.mapM (resF tmps)
    pure (if h : vs.size = 1 then vs[0] else .tuple vs)) := by
  unfold results
  congr 1

theorem resL_sound (r : Rel X n e st a w) : ∀ {rs : List ResultVar} {xs : List AV}, resL T st rs = some xs →
    ∃ vs, (rs.mapM (resF a.tmps)).run P w = .ok vs w ∧ RepT e xs vs
  | [], xs, h => by simp only [resL, Option.some.injEq] at h; subst h; exact ⟨[], rfl, by simp [RepT]⟩
  | .tmp t :: rs, xs, h => by
    simp only [resL] at h
    split at h
    · rename_i x xs' h1 h2
      simp only [Option.some.injEq] at h
      subst h
      obtain ⟨vs, g1, g2⟩ := resL_sound r h2
      obtain ⟨v, g3, g4⟩ := r.slots t x h1
      refine ⟨v :: vs, ?_, by simp only [RepT]; exact ⟨v, vs, rfl, g4, g2⟩⟩
      simp only [List.mapM_cons, resF, Sem.run_bind, Sem.run_pure, Result.andThen_ok, g1]
      simp [Array.getD_eq_getD_getElem?, g3]
    · cases h
  | .cell t ty :: rs, xs, h => by
    simp only [resL] at h
    split at h
    · rename_i k o i xs' h1 h2 h3
      split at h
      · rename_i cells hb
        split at h
        · rename_i x hx
          simp only [Option.some.injEq] at h
          subst h
          obtain ⟨vs, g1, g2⟩ := resL_sound r h3
          obtain ⟨v, g3, g4⟩ := r.slots t _ h1
          simp only [Rep] at g4
          subst g4
          obtain ⟨arr, Tt, q1, q2⟩ := boxCells_sound r.heap hb
          obtain ⟨v', g6, g5⟩ := load_sound X.ok h2 (readable_bp q1 q2 o) hx
          refine ⟨v' :: vs, ?_, by simp only [RepT]; exact ⟨v', vs, rfl, g6, g2⟩⟩
          simp only [List.mapM_cons, resF, Sem.run_bind, Sem.run_pure, Result.andThen_ok]
          simp only [Array.getD_eq_getD_getElem?, g3, Option.getD_some, asAddr, Sem.run_pure, Result.andThen_ok, g5 w (SameAs.refl w)]
          rw [g1]
          rfl
        · cases h
      · cases h
    · cases h

theorem resA_sound (r : Rel X n e st a w) {fn : Func} {x : AV} (h : resA T st fn.results.toList = some x) : ∃ v, (results fn a.tmps).run P w = .ok v w ∧ Rep e x v := by
  have key : ∀ xs, resL T st fn.results.toList = some xs → ∃ vs : List Value, (results fn a.tmps).run P w = .ok (if h : vs.toArray.size = 1 then vs.toArray[0] else .tuple vs.toArray) w ∧ RepT e xs vs := by
    intro xs hxs
    obtain ⟨vs, h1, h2⟩ := resL_sound r hxs
    refine ⟨vs, ?_, h2⟩
    rw [results_eq, Array.mapM_eq_mapM_toList]
    simp only [Sem.run_bind, Sem.run_map, h1, Result.andThen_ok, Sem.run_pure]
  unfold resA at h
  split at h
  · rename_i y hy
    simp only [Option.some.injEq] at h
    subst h
    obtain ⟨vs, h1, h2⟩ := key _ hy
    simp only [RepT] at h2
    obtain ⟨z, zs, rfl, h3, rfl⟩ := h2
    exact ⟨z, by simpa using h1, h3⟩
  · rename_i xs hne hxs
    simp only [Option.some.injEq] at h
    subst h
    obtain ⟨vs, h1, h2⟩ := key _ hxs
    have hl : vs.length ≠ 1 := by
      intro hv
      match vs, hv with
      | [z], _ =>
        match xs, h2 with
        | [], h2 => simp [RepT] at h2
        | [y], h2 => exact hne y rfl
        | y :: y' :: ys, h2 =>
          simp only [RepT, List.cons.injEq] at h2
          obtain ⟨z', zs, ⟨_, rfl⟩, _, z2, zs2, h, _⟩ := h2
          cases h
    refine ⟨.tuple vs.toArray, ?_, by simp only [Rep]; exact ⟨_, rfl, by simpa using h2⟩⟩
    rw [h1]
    simp [hl]
  · cases h

theorem FnB.intro {Gb : IM} (ok : TabOK P T) (wide : P.follows .mixedOrders = true) {f : FuncId} {fn : Func} {c : Code} {args : List AV} {post : AV → Prop} (hf : P.funcs[f]? = some fn) (hb : fn.body = some c)
    (hn : (fn.name == "runtime.NumGoroutine") = false) (hargs : Nat.ble args.length fn.ntmps = true)
    (h : ∀ X : Ctx P T, IM.le Gb X.G0 → SymC X fn.ntmps c ⟨enumA 0 args, []⟩ (Ends T fn.results post)) : FnB P Gb f args post := by
  refine ⟨⟨fn, hf, by simp [hb], hn⟩, ?_⟩
  intro G w cargs hGb him hrep
  have hlen : ∀ {xs : List AV} {vs : List Value}, RepIT G xs vs → vs.length = xs.length := by
    intro xs
    induction xs with
    | nil => intro vs h; simp only [RepIT] at h; subst h; rfl
    | cons x xs ih =>
      intro vs h
      simp only [RepIT] at h
      obtain ⟨z, zs, rfl, _, h3⟩ := h
      simp [ih h3]
  have hl := hlen hrep
  have hargs := Nat.le_of_ble_eq_true hargs
  refine calls_of_wp hf hb ?_
  let X : Ctx P T := ⟨ok, wide, w, G, [], fun _ => 0, fun _ _ _ => False, []⟩
  let e : Env := ⟨G, fun _ => 0, fun _ => undef⟩
  have hslots : ∀ (xs : List AV) (vs : List Value) (i0 : Nat), RepIT G xs vs → ∀ i x, get (enumA i0 xs) i = some x → ∃ v, i0 ≤ i ∧ vs[i - i0]? = some v ∧ RepI G x v := by
    intro xs
    induction xs with
    | nil => intro vs i0 _ i x h; simp [enumA, get] at h
    | cons y ys ih =>
      intro vs i0 hr i x h
      simp only [RepIT] at hr
      obtain ⟨z, zs, rfl, h1, h2⟩ := hr
      simp only [enumA] at h
      rw [get_cons] at h
      by_cases hi : i0 = i
      · subst hi
        simp only [if_true, Option.some.injEq] at h
        subst h
        exact ⟨z, Nat.le_refl _, by simp, h1⟩
      · rw [if_neg hi] at h
        obtain ⟨v, g1, g2, g3⟩ := ih zs (i0 + 1) h2 i x h
        refine ⟨v, by omega, ?_, g3⟩
        rw [show i - i0 = (i - (i0 + 1)) + 1 by omega]
        simpa using g2
  have r : Rel X fn.ntmps e ⟨enumA 0 args, []⟩ { tmps := cargs.toArray ++ Array.replicate (fn.ntmps - cargs.toArray.size) undef, defers := [] } w :=
    { defers := rfl
      size := by simp; omega
      slots := fun i x hx => by
        obtain ⟨v, _, g2, g3⟩ := hslots args cargs 0 hrep i x hx
        simp only [Nat.sub_zero] at g2
        have hi : i < cargs.length := by
          rcases Nat.lt_or_ge i cargs.length with h | h
          · exact h
          · rw [List.getElem?_eq_none h] at g2; cases g2
        refine ⟨v, ?_, RepI.toRep x g3⟩
        rw [Array.getElem?_append_left (by simpa using hi)]
        simpa using g2
      im := him.1
      mz := him.2
      newm := fun b x hx => .inl hx
      heap := ⟨[], rfl, by simp, by simp, by simp⟩
      le := IM.le_refl _
      new := fun b o v hv => .inl hv
      os := rfl
      tape := rfl
      output := rfl
      sz := Nat.le_refl _
      keep := fun b _ _ _ => rfl
      fix := fun _ _ => rfl }
  refine Code.wp_mono (fun ex a' w' hc => ?_) (h X hGb e _ w r)
  have fin : ∀ (e' : Env) (st' : St), Rel X fn.ntmps e' st' a' w' → (∃ r, resA T st' fn.results.toList = some r ∧ r.imm = true ∧ post r) →
      a'.defers = [] ∧ ∃ v, (results fn a'.tmps).run P w' = .ok v w' ∧ (∃ r cr G', post r ∧ Ending.returned v = .returned cr ∧ RepI G' r cr ∧ IM.le G G' ∧
      NewIn G G' w.heap.size ∧ ImOK G' w' ∧ BelowL G w w') := by
    intro e' st' hr ⟨x, h1, h2, h3⟩
    obtain ⟨v, h4, h5⟩ := resA_sound hr h1
    refine ⟨hr.defers, v, h4, x, v, e'.G, h3, rfl, Rep.toI x h2 h5, hr.le, ⟨?_, ?_⟩, ⟨hr.im, hr.mz⟩, ?_⟩
    · intro b o v hv
      rcases hr.new b o v hv with h | h | h
      · exact .inl h
      · exact .inr h
      · simp [X] at h
    · intro b x hv
      rcases hr.newm b x hv with h | h | h
      · exact .inl h
      · exact .inr h
      · simp [X] at h
    · exact ⟨hr.os, hr.tape, hr.output, hr.sz, fun b hb hs => hr.keep b hb (by simp [X]) hs⟩
  cases ex with
  | normal => obtain ⟨e', st', h1, h2⟩ := hc; exact fin e' st' h1 h2
  | ret => obtain ⟨e', st', h1, h2⟩ := hc; exact fin e' st' h1 h2
  | exit id => obtain ⟨e', st', h1, h2⟩ := hc; exact h2.elim
  | goto l => obtain ⟨e', st', h1, h2⟩ := hc; exact h2.elim
  | panic ch => exact hc.2.elim
  | outgrown => exact hc.elim

theorem FnP.intro (ok : TabOK P T) (wide : P.follows .mixedOrders = true) {f : FuncId} {fn : Func} {c : Code} {args : List AV} {post : AV → Prop} (hf : P.funcs[f]? = some fn) (hb : fn.body = some c)
    (hn : (fn.name == "runtime.NumGoroutine") = false) (hargs : Nat.ble args.length fn.ntmps = true)
    (h : ∀ X : Ctx P T, SymC X fn.ntmps c ⟨enumA 0 args, []⟩ (Ends T fn.results post)) : FnP P f args post := by
  have hB : FnB P IM.empty f args post := FnB.intro ok wide hf hb hn hargs (fun X _ => h X)
  exact ⟨hB.1, fun G w c h1 h2 => hB.2 G w c (IM.empty_le _) h1 h2⟩

theorem run_call {f : FuncId} (hc : Callable P f) {dst : Option Tmp} {args : Array Operand} {tys : Array TypeId} {ty : TypeId} {pos : String} {aft : Array Edge} {gd : Option (Nat × Bool)} (ρ : Operand → Value)
    (hρ : ρ (.func f) = .func (.func f) #[] #[]) (w : World) :
    (execOp ρ ⟨dst, .call ⟨.value (.func f), args, tys⟩, ty, pos, aft, gd⟩).run P w = .ok (.enter f (args.map ρ)) w := by
  obtain ⟨fn, h1, h2, h3⟩ := hc
  simp only [execOp, resolve, hρ, Deferred.ofValue, Sem.run_bind, Sem.run_pure, Result.andThen_ok, invoke]
  have h4 : ¬ fn.body = none := by intro h; simp [h] at h2
  have h5 : ¬ fn.name = "runtime.NumGoroutine" := by simpa using h3
  simp [callFunc, h1, h4, h5]

theorem Rel.after {s : List (Nat × AV)} {c : List Ch} {G' : IM} {w' : World} (r : Rel X n e ⟨s, c⟩ a w) (g2 : IM.le e.G G') (g3 : NewIn e.G G' w.heap.size) (g4 : ImOK G' w') (g5 : BelowL e.G w w') : Rel X n ⟨G', e.μ, e.hd⟩ ⟨s, c⟩ a w' :=
  { defers := r.defers
    size := r.size
    slots := fun i x hx => by
      obtain ⟨v, q1, q2⟩ := r.slots i x hx
      exact ⟨v, q1, Rep.mono (e := e) (f := ⟨G', e.μ, e.hd⟩) g2 x (fun _ _ => ⟨rfl, rfl⟩) q2⟩
    im := g4.1
    mz := g4.2
    heap := by
      obtain ⟨pl, h1, h2, h3, h4⟩ := r.heap
      subst h1
      refine ⟨pl, rfl, ?_, h3, ?_⟩
      · intro q hq
        refine ChOK.keep (e := e) (f := ⟨G', e.μ, e.hd⟩) g2 q.1 (fun _ _ => ⟨rfl, rfl⟩) ?_ (h2 q hq)
        intro b hb
        obtain ⟨k1, _, k3⟩ := h4 b (List.mem_flatMap.2 ⟨q, hq, hb⟩)
        exact g5.block b k1 (IM.free_still k3)
      · intro b hb
        obtain ⟨q1, q2, q3⟩ := h4 b hb
        exact ⟨Nat.lt_of_lt_of_le q1 g5.size, q2, g3.free q1 q3⟩
    le := IM.le_trans r.le g2
    new := fun b o v hv => by
      rcases g3.1 b o v hv with h | h
      · exact r.new b o v h
      · exact .inr (.inl (Nat.le_trans r.sz h))
    newm := fun b x hv => by
      rcases g3.2 b x hv with h | h
      · exact r.newm b x h
      · exact .inr (.inl (Nat.le_trans r.sz h))
    os := g5.os.trans r.os
    tape := g5.tape.trans r.tape
    output := g5.output.trans r.output
    sz := Nat.le_trans r.sz g5.size
    fix := r.fix
    keep := fun b hb hbs hs => by
      refine (g5.block b (Nat.lt_of_lt_of_le hb r.sz) (fun L hL => ?_)).trans (r.keep b hb hbs hs)
      rcases r.newm b _ hL with h | h | h
      · exact hs L h
      · omega
      · exact hbs h }

theorem O_callB {Gb : IM} (hGb : IM.le Gb X.G0) {f : FuncId} {dst : Nat} {args : Array Operand} {tys : Array TypeId} {ty : TypeId} {pos : String} {aft : Array Edge} {gd : Option (Nat × Bool)} {rest : List Oper} {avs : List AV} {post : AV → Prop}
    {s : List (Nat × AV)} {c : List Ch} (hf : FnB P Gb f avs post) (hg : guardA ops ⟨s, c⟩ ⟨some dst, .call ⟨.value (.func f), args, tys⟩, ty, pos, aft, gd⟩ = some true) (ha : opds s args.toList = some avs) (himm : AV.imm.immL avs = true) (hd : Nat.blt dst n = true)
    (k : ∀ r, post r → SymO X n ops rest ⟨(dst, r) :: s, c⟩ K) :
    SymO X n ops (⟨some dst, .call ⟨.value (.func f), args, tys⟩, ty, pos, aft, gd⟩ :: rest) ⟨s, c⟩ K := by
  intro e a w Q r hq
  unfold wpList
  rw [if_pos (guardA_sound r hg)]
  refine .inl ?_
  unfold Oper.wp
  rw [run_call hf.1 a.eval rfl w, Oper.upon_enter]
  have h1 := RepT.toI avs himm (opds_sound r ha)
  have h2 := hf.2 e.G w _ (IM.le_trans hGb r.le) ⟨r.im, r.mz⟩ h1
  have harr : args.map a.eval = (args.toList.map a.eval).toArray := by
    apply Array.ext'; simp
  rw [harr]
  refine h2.mono ?_
  rintro en w' ⟨rv, cr, G', hp, rfl, g1, g2, g3, g4, g5⟩
  have r' : Rel X n ⟨G', e.μ, e.hd⟩ ⟨s, c⟩ a w' := r.after g2 g3 g4 g5
  have r2 := r'.put (x := rv) (v := cr) hd (RepI.toRep (e := ⟨G', e.μ, e.hd⟩) rv g1)
  exact k rv hp _ _ w' Q r2 hq

theorem O_call {f : FuncId} {dst : Nat} {args : Array Operand} {tys : Array TypeId} {ty : TypeId} {pos : String} {aft : Array Edge} {gd : Option (Nat × Bool)} {rest : List Oper} {avs : List AV} {post : AV → Prop}
    {s : List (Nat × AV)} {c : List Ch} (hf : FnP P f avs post) (hg : guardA ops ⟨s, c⟩ ⟨some dst, .call ⟨.value (.func f), args, tys⟩, ty, pos, aft, gd⟩ = some true) (ha : opds s args.toList = some avs) (himm : AV.imm.immL avs = true) (hd : Nat.blt dst n = true)
    (k : ∀ r, post r → SymO X n ops rest ⟨(dst, r) :: s, c⟩ K) :
    SymO X n ops (⟨some dst, .call ⟨.value (.func f), args, tys⟩, ty, pos, aft, gd⟩ :: rest) ⟨s, c⟩ K :=
  O_callB (Gb := IM.empty) (IM.empty_le _) hf.toB hg ha himm hd k
end
end Go.Sy

namespace Go.Sy
open Go.RowKit

def eqv : Value → Value → Bool
  | .bool a, .bool b => a == b
  | .int j a, .int k b => kindEq j k && a == b
  | .string a, .string b => a.data.toList == b.data.toList
  | .pointer none, .pointer none => true
  | .slice none 0 0, .slice none 0 0 => true
  | .map none, .map none => true
  | .nilFunc, .nilFunc => true
  | .nilIface, .nilIface => true
  | _, _ => false
theorem eqv_eq {x y : Value} (h : eqv x y = true) : x = y := by
  unfold eqv at h
  split at h
  · simpa using h
  · simp only [Bool.and_eq_true, beq_iff_eq] at h
    rw [kindEq_eq h.1, h.2]
  · rename_i a b
    simp only [beq_iff_eq] at h
    congr 1
    cases a; cases b
    congr 1
    exact Array.ext' h
  all_goals first | rfl | cases h

def eqvL : List Value → List Value → Bool
  | [], [] => true
  | x :: xs, y :: ys => eqv x y && eqvL xs ys
  | _, _ => false
theorem eqvL_eq : ∀ {xs ys : List Value}, eqvL xs ys = true → xs = ys
  | [], [], _ => rfl
  | x :: xs, y :: ys, h => by
    simp only [eqvL, Bool.and_eq_true] at h
    rw [eqv_eq h.1, eqvL_eq h.2]
  | [], _ :: _, h => by simp [eqvL] at h
  | _ :: _, [], h => by simp [eqvL] at h

def pairsB : List (Nat × Nat) → List (Nat × Nat) → Bool
  | [], [] => true
  | (a, b) :: r, (c, d) :: s => Nat.beq a c && Nat.beq b d && pairsB r s
  | _, _ => false
theorem pairsB_eq : ∀ {xs ys : List (Nat × Nat)}, pairsB xs ys = true → xs = ys
  | [], [], _ => rfl
  | (a, b) :: xs, (c, d) :: ys, h => by
    simp only [pairsB, Bool.and_eq_true] at h
    rw [Nat.eq_of_beq_eq_true h.1.1, Nat.eq_of_beq_eq_true h.1.2, pairsB_eq h.2]
  | [], _ :: _, h => by simp [pairsB] at h
  | _ :: _, [], h => by simp [pairsB] at h

def descB (P : Program) : TD → TypeDesc → Bool
  | .other, _ => true
  | .bool, .bool => true
  | .int k, .int j => kindEq k j
  | .str, .string => true
  | .struct fs, .struct fields => pairsB (fields.toList.map (fun f => (f.offset, P.cellsOf f.type))) fs && fields.toList.all (fun f => (P.info? f.type).isSome)
  | .arr n e, .array m d => Nat.beq n m && Nat.beq e d
  | .slice e, .slice d => Nat.beq e d
  | _, _ => false
theorem descB_ok {P : Program} {x : TD} {d : TypeDesc} (h : descB P x d = true) : TDOK P x d := by
  unfold descB at h
  split at h
  · trivial
  · rfl
  · simp only [TDOK]; rw [kindEq_eq h]
  · rfl
  · rename_i fs fields
    simp only [Bool.and_eq_true, List.all_eq_true] at h
    exact ⟨fields, rfl, pairsB_eq h.1, fun f hf => h.2 f (by simpa using hf)⟩
  · simp only [Bool.and_eq_true] at h
    simp only [TDOK]
    rw [Nat.eq_of_beq_eq_true h.1, Nat.eq_of_beq_eq_true h.2]
  · simp only [TDOK]; rw [Nat.eq_of_beq_eq_true h]
  · cases h

def checkTI (P : Program) (t : Nat) (i : TI) : Bool :=
  match P.info? t, P.underlying t with
  | some pi, some d => Nat.beq pi.size i.size && Nat.beq pi.bytes i.bytes &&
      (match pi.zero with
        | some z => eqvL z.cells.toList i.zero && i.zero.all (·.oneCell') && Nat.beq i.zero.length i.size
        | none => false) &&
      (i.agg == (match d with | .struct _ | .array _ _ => true | _ => false)) && descB P i.d d
  | _, _ => false

theorem checkTI_ok {P : Program} {t : Nat} {i : TI} (h : checkTI P t i = true) : TIOK P t i := by
  unfold checkTI at h
  split at h
  · rename_i pi d h1 h2
    simp only [Bool.and_eq_true] at h
    obtain ⟨⟨⟨⟨k1, k2⟩, k3⟩, k4⟩, k5⟩ := h
    split at k3
    · rename_i z hz
      simp only [Bool.and_eq_true] at k3
      exact ⟨⟨pi, z, h1, Nat.eq_of_beq_eq_true k1, Nat.eq_of_beq_eq_true k2, hz, eqvL_eq k3.1.1, k3.1.2, Nat.eq_of_beq_eq_true k3.2⟩, ⟨d, h2, eq_of_beq k4, descB_ok k5⟩⟩
    · cases k3
  · cases h

def mkTab (N : Nat) (f : Tab) : Tab := fun t => match Nat.blt t N with
  | true => f t
  | false => none

def checkTab (P : Program) (f : Tab) : List Nat → Bool
  | [] => true
  | t :: r => (match f t with
    | none => true
    | some i => checkTI P t i) && checkTab P f r

theorem checkTab_mem {P : Program} {f : Tab} : ∀ {l : List Nat}, checkTab P f l = true → ∀ t ∈ l, ∀ i, f t = some i → checkTI P t i = true
  | [], _, t, h, _, _ => by simp at h
  | u :: l, hc, t, h, i, hi => by
    simp only [checkTab, Bool.and_eq_true] at hc
    rcases List.mem_cons.1 h with rfl | h
    · have := hc.1
      rw [hi] at this
      exact this
    · exact checkTab_mem hc.2 t h i hi

theorem tabOK {P : Program} {N : Nat} {f : Tab} (h : checkTab P f (List.range N) = true) : TabOK P (mkTab N f) := by
  intro t i hi
  unfold mkTab at hi
  split at hi
  · rename_i hb
    have hlt : t < N := by have := hb; simp [Nat.blt] at this; omega
    exact checkTI_ok (checkTab_mem h t (List.mem_range.2 hlt) i hi)
  · cases hi
end Go.Sy

namespace Go.Sy
open Go.RowKit

section
variable {P : Program} {T : Tab} {X : Ctx P T} {n : Nat} {e : Env} {st : St} {a : Act} {w : World} {ops : Array Oper} {K : St → Prop}

theorem Rel.glt (r : Rel X n e st a w) : ∀ b o v, e.G b o = some v → b < w.heap.size := r.glt0

theorem Le.nilown {s : List (Nat × AV)} {c : List Ch} (i d : Nat) (t : TypeId) (esz : Nat) (row : Nat → List AV) (hi : get s i = some (.v (.slice none 0 0))) (hf : freshS d s = true) (hc : freshC d c = true) :
    Le X n ⟨s, c⟩ ⟨(i, .own d) :: s, .vec d t esz 0 row :: c⟩ := by
  intro e a w r
  have hnod : ∀ {x : AV}, x.no d = true → ∀ j, x.no j = false → j ≠ d := fun hx j hj he => by subst he; rw [hx] at hj; cases hj
  have hid : ∀ (k : Nat), k ≠ d → upd e.hd d (.slice none 0 0) k = e.hd k := fun k hk => by simp [upd, hk]
  refine ⟨{ e with hd := upd e.hd d (.slice none 0 0) }, { r with slots := ?_, heap := ?_ }⟩
  · intro j x hx
    rw [get_cons] at hx
    by_cases hij : i = j
    · subst hij
      simp only [if_true, Option.some.injEq] at hx
      subst hx
      obtain ⟨v, h1, h2⟩ := r.slots i _ hi
      simp only [Rep] at h2
      subst h2
      exact ⟨_, h1, by simp [Rep, upd]⟩
    · rw [if_neg hij] at hx
      obtain ⟨v, h1, h2⟩ := r.slots j x hx
      exact ⟨v, h1, Rep.mono (e := e) (f := { e with hd := upd e.hd d (.slice none 0 0) }) (IM.le_refl _) x (fun q hq => ⟨rfl, hid q (hnod (freshS_get hf j x hx) q hq)⟩) h2⟩
  · refine HeapOK.push r.heap (IM.le_refl _) (fun x hcm j hj => ⟨rfl, hid j ?_⟩) (fun b hb => rfl) (bs' := []) ?_ (by simp) (by simp) (by simp) (Nat.le_refl _) (fun b _ h => h)
    · intro he; subst he; rw [freshC_mem hc x hcm] at hj; cases hj
    · refine ⟨by simp [upd, Value.ownBlock], [], ?_, fun i hi => by omega⟩
      simp only [upd, if_true]
      exact World.ownsRow_nil _ _ _ _

theorem RepIL.len {G : IM} : ∀ {cs : List AV} {ys : List Value}, RepIL G cs ys → ys.length = cs.length
  | [], ys, r => by simp only [RepIL] at r; subst r; rfl
  | d :: cs, ys, r => by
    simp only [RepIL] at r
    obtain ⟨z, zs, rfl, r1, r2, r3⟩ := r
    simp [RepIL.len r3]
theorem CellsAt.mk {G : IM} : ∀ {cs : List AV} {b o : Nat}, (∀ (j : Nat) (c : AV), cs[j]? = some c → ∃ z, G b (o + j) = some z ∧ RepI G c z ∧ z.oneCell' = true) → CellsAt G cs b o
  | [], _, _, _ => by simp [CellsAt]
  | c :: cs, b, o, h => by
    simp only [CellsAt]
    refine ⟨by simpa using h 0 c (by simp), CellsAt.mk (fun j d hd => ?_)⟩
    have := h (j + 1) d (by simpa using hd)
    rwa [show o + (j + 1) = o + 1 + j by omega] at this
theorem RepIL.mk {G : IM} : ∀ {cs : List AV} {ys : List Value}, ys.length = cs.length → (∀ (j : Nat) (c : AV), cs[j]? = some c → ∃ z, ys[j]? = some z ∧ RepI G c z ∧ z.oneCell' = true) → RepIL G cs ys
  | [], ys, hl, _ => by simp only [RepIL]; exact List.eq_nil_of_length_eq_zero hl
  | d :: cs, [], hl, _ => by simp at hl
  | d :: cs, y :: ys, hl, h => by
    simp only [RepIL]
    obtain ⟨z, h1, h2, h3⟩ := h 0 d (by simp)
    simp at h1; subst h1
    exact ⟨y, ys, rfl, h2, h3, RepIL.mk (by simpa using hl) fun j c hc => by simpa using h (j + 1) c (by simpa using hc)⟩

theorem Le.freeze {s : List (Nat × AV)} {c rest : List Ch} (i : Nat) {k : Nat} {t : TypeId} {esz m : Nat} {row : Nat → List AV} (hi : get s i = some (.own k)) (hk : takeCh k c = some (.vec k t esz m row, rest)) :
    Le X n ⟨s, c⟩ ⟨(i, .sl m esz row) :: s, rest⟩ := by
  intro e a w r
  have hh := r.heap.perm (takeCh_perm hk)
  obtain ⟨bs, ⟨hbs, xs, g1, g2⟩, _, hgood⟩ := hh.head
  obtain ⟨v, h1, h2⟩ := r.slots i _ hi
  simp only [Rep] at h2
  obtain ⟨rfl, _⟩ := h2
  have base : ∀ (f : Env), IM.le e.G f.G → f.μ = e.μ → f.hd = e.hd → RepI f.G (.sl m esz row) (e.hd k) → ImOK f.G w → (∀ b o v, f.G b o = some v → e.G b o = some v ∨ b ∈ bs) → f.G.m = e.G.m → Rel X n f ⟨(i, .sl m esz row) :: s, rest⟩ a w := by
    intro f hle hμ hhd hrep him hnew hmm
    refine { r with slots := ?_, heap := ?_, im := him.1, mz := him.2, newm := by rw [hmm]; exact r.newm, le := IM.le_trans r.le hle, new := ?_, fix := by rw [hμ]; exact r.fix }
    · intro j x hx
      rw [get_cons] at hx
      by_cases hij : i = j
      · subst hij
        simp only [if_true, Option.some.injEq] at hx
        subst hx
        exact ⟨_, h1, RepI.toRep _ hrep⟩
      · rw [if_neg hij] at hx
        obtain ⟨v, q1, q2⟩ := r.slots j x hx
        exact ⟨v, q1, Rep.mono (e := e) (f := f) hle x (fun q _ => by rw [hμ, hhd]; exact ⟨rfl, rfl⟩) q2⟩
    · obtain ⟨pl, p1, p2, p3, p4⟩ := hh
      cases pl with
      | nil => simp at p1
      | cons p pl =>
        simp only [List.map_cons, List.cons.injEq] at p1
        simp only [List.flatMap_cons] at p3 p4
        have hp := p2 p (List.mem_cons_self ..)
        rw [p1.1] at hp
        have hpb : p.2 = bs := by rw [hp.1, hbs]
        obtain ⟨q1, q2, q3⟩ := List.nodup_append.1 p3
        refine ⟨pl, p1.2, fun q hq => ChOK.keep (e := e) hle q.1 (fun j _ => by rw [hμ, hhd]; exact ⟨rfl, rfl⟩) (fun b _ => rfl) (p2 q (List.mem_cons_of_mem _ hq)), q2, fun b hb => ?_⟩
        obtain ⟨s1, s2, s3⟩ := p4 b (List.mem_append.2 (.inr hb))
        refine ⟨s1, s2, fun o => ?_, by rw [hmm]; exact s3.2⟩
        cases hg : f.G b o with
        | none => rfl
        | some v =>
          rcases hnew b o v hg with h | h
          · rw [s3.1 o] at h; cases h
          · rw [← hpb] at h; exact absurd rfl (q3 b h b hb)
    · intro b o v hv
      rcases hnew b o v hv with h | h
      · exact r.new b o v h
      · exact .inr (hgood b h).2.1
  rcases g1.2 with ⟨hnil, hm⟩ | ⟨g, cap, cur, hsl, _, hg, hcap, hmax, hcs, htake⟩
  · refine ⟨e, base e (IM.le_refl _) rfl rfl ?_ ⟨r.im, r.mz⟩ (fun b o v h => .inl h) rfl⟩
    simp only [RepI]
    exact ⟨none, 0, by rw [hnil, hm], by omega, .inl hm⟩
  · have hbs' : bs = [g] := by rw [hbs, hsl]; rfl
    have hGg : e.G.free g := (hgood g (by rw [hbs']; simp)).2.2
    let G' : IM := ⟨fun b o => if b = g ∧ o < m * esz then cur[o]? else e.G b o, e.G.m⟩
    have hle : IM.le e.G G' := by
      refine ⟨?_, fun _ _ h => h⟩
      intro b o v hv
      show (if b = g ∧ o < m * esz then cur[o]? else e.G b o) = some v
      rw [if_neg]
      · exact hv
      · rintro ⟨rfl, _⟩; rw [hGg.1 o] at hv; cases hv
    refine ⟨{ e with G := G' }, base _ hle rfl rfl ?_ ⟨?_, ?_⟩ ?_ rfl⟩
    · simp only [RepI]
      refine ⟨some ⟨g, 0, none⟩, cap, hsl, hcap, .inr ⟨g, 0, rfl, fun q hq => CellsAt.mk (fun j c hc => ?_)⟩⟩
      obtain ⟨z, z1, z2, z3⟩ := (g2 q hq).get j c hc
      have hj : j < esz := by
        rcases Nat.lt_or_ge j esz with h | h
        · exact h
        · rw [List.getElem?_eq_none (by simp; omega)] at z1; cases z1
      have hlt : q * esz + j < m * esz := by
        have : (q + 1) * esz ≤ m * esz := Nat.mul_le_mul_right _ hq
        rw [Nat.add_mul] at this; omega
      refine ⟨z, ?_, RepI.mono hle c z2, z3⟩
      show (if g = g ∧ 0 + q * esz + j < m * esz then cur[0 + q * esz + j]? else e.G g (0 + q * esz + j)) = some z
      rw [Nat.zero_add, if_pos ⟨rfl, hlt⟩]
      rw [List.getElem?_take, if_pos hj, List.getElem?_drop, ← htake, List.getElem?_take, if_pos hlt] at z1
      simpa using z1
    · intro b o v hv
      have hv' : (if b = g ∧ o < m * esz then cur[o]? else e.G b o) = some v := hv
      split at hv'
      · rename_i hc
        obtain ⟨rfl, _⟩ := hc
        rw [cell_of_row w b o cur t (0, 0) hg]
        exact hv'
      · exact r.im b o v hv'
    · intro b x hx
      refine (r.mz b x hx).keep (H := G') hle rfl (fun o v hv => ?_)
      have hv' : (if b = g ∧ o < m * esz then cur[o]? else e.G b o) = some v := hv
      split at hv'
      · rename_i hc
        rw [hc.1, hGg.2] at hx; cases hx
      · exact ⟨v, hv'⟩
    · intro b o v hv
      have hv' : (if b = g ∧ o < m * esz then cur[o]? else e.G b o) = some v := hv
      split at hv'
      · rename_i hc; rw [hbs', hc.1]; exact .inr (by simp)
      · exact .inl hv'

theorem Le.conv {s : List (Nat × AV)} {c : List Ch} (i : Nat) {x y : AV} (hi : get s i = some x) (h : ∀ e v, Rep e x v → Rep e y v) : Le X n ⟨s, c⟩ ⟨(i, y) :: s, c⟩ := by
  intro e a w r
  refine ⟨e, { r with slots := ?_ }⟩
  intro j z hz
  rw [get_cons] at hz
  by_cases hij : i = j
  · subst hij
    simp only [if_true, Option.some.injEq] at hz
    subst hz
    obtain ⟨v, h1, h2⟩ := r.slots i _ hi
    exact ⟨v, h1, h e v h2⟩
  · rw [if_neg hij] at hz; exact r.slots j z hz

theorem Rep.nilsl {e : Env} {esz : Nat} {row : Nat → List AV} {v : Value} (h : Rep e (.v (.slice none 0 0)) v) : Rep e (.sl 0 esz row) v := by
  simp only [Rep, RepI] at h ⊢
  exact ⟨none, 0, h, Nat.le_refl _, .inl trivial⟩
theorem Rep.slrow {e : Env} {m esz : Nat} {row row2 : Nat → List AV} (hr : ∀ i, i < m → row i = row2 i) {v : Value} (h : Rep e (.sl m esz row) v) : Rep e (.sl m esz row2) v := by
  simp only [Rep, RepI] at h ⊢
  obtain ⟨aa, c, h1, h2, h3⟩ := h
  refine ⟨aa, c, h1, h2, ?_⟩
  rcases h3 with h3 | ⟨b, o, h3, h4⟩
  · exact .inl h3
  · exact .inr ⟨b, o, h3, fun i hi => by rw [← hr i hi]; exact h4 i hi⟩
end

theorem Le.vecrow {P : Program} {T : Tab} {X : Ctx P T} {n : Nat} {s : List (Nat × AV)} {c rest : List Ch} {k t esz m : Nat} {row : Nat → List AV} (m2 : Nat) (row2 : Nat → List AV) (hk : takeCh k c = some (.vec k t esz m row, rest))
    (hm : m = m2) (hr : ∀ i, i < m → row i = row2 i) : Le X n ⟨s, c⟩ ⟨s, .vec k t esz m2 row2 :: rest⟩ := by
  subst hm
  intro e a w r
  refine ⟨e, { r with slots := r.slots, heap := ?_ }⟩
  have hh := r.heap.perm (takeCh_perm hk)
  refine HeapOK.update hh (IM.le_refl _) (fun _ _ _ _ => ⟨rfl, rfl⟩) ?_ (Nat.le_refl _) (fun _ _ _ h => h)
  intro bs hc hnd hg
  obtain ⟨rfl, xs, g1, g2⟩ := hc
  exact ⟨fun _ _ _ => rfl, _, ⟨rfl, xs, g1, fun i hi => by rw [← hr i hi]; exact g2 i hi⟩, hnd, fun b hb => .inl hb, hg⟩

end Go.Sy

namespace Go.Sy
open Go.RowKit

section
variable {P : Program} {T : Tab} {X : Ctx P T} {n : Nat} {e : Env} {st : St} {a : Act} {w : World} {ops : Array Oper} {K : St → Prop}

theorem Rel.vec (r : Rel X n e st a w) {d : Nat} {w' : World} {v' : Value} {t esz m : Nat} {row : Nat → List AV} {xs : List Value} {s : List (Nat × AV)} {c c' : List Ch} (old : Option Nat)
    (hd : Nat.blt d n = true) (hs : ∀ i x, get s i = some x → get st.s i = some x) (hf : freshS d s = true) (hc : freshC d c = true)
    (hheap : HeapOK X e w c) (hold : ∀ b, old = some b → b < w.heap.size ∧ (X.w0.heap.size ≤ b ∨ b ∈ X.bs) ∧ e.G.free b)
    (hdis : ∀ b, old = some b → ∀ pl : List (Ch × List Nat), pl.map (·.1) = c → (∀ p ∈ pl, ChOK e w p.1 p.2) → b ∉ pl.flatMap (·.2))
    (hown : w'.ownsRow 0 t esz v' m xs) (hrows : RowsL e.G esz m row xs) (hg : w.grownBy w' old) (hblk : ∀ b, v'.ownBlock = some b → b < w'.heap.size ∧ (some b = old ∨ w.heap.size ≤ b)) :
    Rel X n { e with hd := upd e.hd d v' } ⟨(d, .own d) :: s, .vec d t esz m row :: c⟩ (a.put (some d) v') w' := by
  have hid : ∀ (k : Nat), k ≠ d → upd e.hd d v' k = e.hd k := fun k hk => by simp [upd, hk]
  have hnod : ∀ {x : AV}, x.no d = true → ∀ j, x.no j = false → j ≠ d := fun hx j hj he => by subst he; rw [hx] at hj; cases hj
  have hsl : ∃ aa nn cc, v' = .slice aa nn cc := by
    rcases hown.2 with ⟨h, _⟩ | ⟨g, cap, cur, h, _⟩
    · exact ⟨_, _, _, h⟩
    · exact ⟨_, _, _, h⟩
  have hkeepG : ∀ b o v, e.G b o = some v → w'.heap[b]? = w.heap[b]? := by
    intro b o v h
    refine hg.block b (r.glt b o v h) ?_
    intro he
    have := (hold b he.symm).2.2.1 o
    rw [h] at this; cases this
  have r1 : Rel X n { e with hd := upd e.hd d v' } ⟨s, .vec d t esz m row :: c⟩ a w' :=
    { defers := r.defers
      size := r.size
      slots := fun i x h => by
        obtain ⟨v, h1, h2⟩ := r.slots i x (hs i x h)
        exact ⟨v, h1, Rep.mono (e := e) (f := { e with hd := upd e.hd d v' }) (IM.le_refl _) x (fun j hj => ⟨rfl, hid j (hnod (freshS_get hf i x h) j hj)⟩) h2⟩
      im := fun b o v h => by
        have h1 := r.im b o v h
        simp only [World.cell?] at h1 ⊢
        rw [hkeepG b o v h]
        exact h1
      mz := r.mzKeep (fun b hb hf => hg.block b hb (fun he => hf (hold b he.symm).2.2))
      newm := r.newm
      heap := by
        obtain ⟨pl, p1, p2, p3, p4⟩ := hheap
        refine ⟨(.vec d t esz m row, v'.ownBlock.toList) :: pl, by simp [p1], ?_, ?_, ?_⟩
        · intro q hq
          rcases List.mem_cons.1 hq with rfl | hq2
          · exact ⟨by simp [upd], xs, by simp only [upd, if_true]; exact hown, hrows⟩
          · refine ChOK.keep (e := e) (f := { e with hd := upd e.hd d v' }) (IM.le_refl _) q.1 (fun j hj => ⟨rfl, hid j ?_⟩) (fun b hb => ?_) (p2 q hq2)
            · intro he; subst he
              rw [freshC_mem hc q.1 (by rw [← p1]; exact List.mem_map.2 ⟨q, hq2, rfl⟩)] at hj; cases hj
            · have hbf : b ∈ pl.flatMap (·.2) := List.mem_flatMap.2 ⟨q, hq2, hb⟩
              refine hg.block b (p4 b hbf).1 (fun he => ?_)
              exact hdis b he.symm pl p1 p2 hbf
        · simp only [List.flatMap_cons]
          refine List.nodup_append.2 ⟨?_, p3, ?_⟩
          · cases v'.ownBlock <;> simp
          · rintro b hb b' hbf rfl
            have hb' : v'.ownBlock = some b := by
              cases hv : v'.ownBlock with
              | none => rw [hv] at hb; simp at hb
              | some g => rw [hv] at hb; simp at hb; rw [hb]
            rcases (hblk b hb').2 with h | h
            · exact hdis b h.symm pl p1 p2 hbf
            · exact absurd (p4 b hbf).1 (by omega)
        · intro b hb
          simp only [List.flatMap_cons] at hb
          rcases List.mem_append.1 hb with hb | hb
          · have hb' : v'.ownBlock = some b := by
              cases hv : v'.ownBlock with
              | none => rw [hv] at hb; simp at hb
              | some g => rw [hv] at hb; simp at hb; rw [hb]
            obtain ⟨q1, q2⟩ := hblk b hb'
            rcases q2 with h | h
            · exact ⟨q1, (hold b h.symm).2⟩
            · exact ⟨q1, .inl (Nat.le_trans r.sz h), r.free h⟩
          · obtain ⟨q1, q2, q3⟩ := p4 b hb
            exact ⟨Nat.lt_of_lt_of_le q1 hg.size, q2, q3⟩
      le := r.le
      new := r.new
      os := hg.os.trans r.os
      tape := hg.tape.trans r.tape
      output := hg.output.trans r.output
      sz := Nat.le_trans r.sz hg.size
      fix := r.fix
      keep := fun b hb hbs hs => by
        rw [hg.block b (Nat.lt_of_lt_of_le hb r.sz)]
        · exact r.keep b hb hbs hs
        · intro he
          rcases (hold b he.symm).2.1 with h | h
          · omega
          · exact hbs h }
  have := r1.put (d := d) (x := .own d) (v := v') hd (by simp only [Rep, upd, if_true]; exact ⟨trivial, hsl⟩)
  exact this

theorem append_block (t ty el : Nat) (i : TypeInfo) (z : Value) (ht : P.underlying t = some (.slice el)) (hi : P.info? el = some i) (hz : i.zero = some z)
    (v : Value) (n : Nat) (xs : List Value) (hown : w.ownsRow 0 el i.size v n xs)
    (ad : Addr) (m c : Nat) (news : List Value) (hl : news.length = m * i.size) (hnews : ∀ (j : Nat) (u : Value), news[j]? = some u → w.cell? (ad.add j) = some u) (h1 : ∀ u ∈ news, u.oneCell' = true)
    (h63 : n + m ≤ maxLen) (hbytes : (n + m) * i.bytes ≤ 140737488355328) {v' : Value} {w' : World} (hr : (Builtin.append_ #[t, t] ty #[v, .slice (some ad) m c]).run P w = .ok v' w') :
    ∀ b, v'.ownBlock = some b → some b = v.ownBlock ∨ w.heap.size ≤ b := by
  have hsmall : n + m ≤ 9223372036854775807 := by simp only [maxLen] at h63; omega
  rcases hown.2 with ⟨rfl, rfl⟩ | ⟨g, cap, cur, rfl, hbg, hg, hnc, hcm, hcs, htake⟩
  · by_cases hm : m = 0
    · subst hm
      have hn : news = [] := List.eq_nil_of_length_eq_zero (by simpa using hl)
      subst hn
      have : (Builtin.append_ #[t, t] ty #[.slice none 0 0, .slice (some ad) 0 c]).run P w = .ok (.slice none 0 0) w := by
        simp [Builtin.append_, run_underlying ht, sizeOf, typeInfo, hi, Builtin.lenOf, Builtin.firstCells, loadCells, loadCellsFrom]
      rw [this] at hr
      simp only [Result.ok.injEq] at hr
      obtain ⟨rfl, rfl⟩ := hr
      intro b hb; simp [Value.ownBlock] at hb
    · have hr' := run_append_nil (P := P) w t ty el i z ht hi hz ad m c news hl hnews (by omega) (by omega) (by have hb := hbytes; simp only [Nat.zero_add] at hb; omega)
      rw [hr'] at hr
      simp only [Result.ok.injEq] at hr
      obtain ⟨rfl, _⟩ := hr
      intro b hb; simp [Value.ownBlock] at hb; omega
  · by_cases hroom : n + m ≤ cap
    · have hfit : n * i.size + news.length ≤ cur.size := by rw [hl, hcs, ← Nat.add_mul]; exact Nat.mul_le_mul_right _ hroom
      have hr' := run_append_room (P := P) w t ty el i ht hi g n cap cur hg ad m c news hl hnews h1 hroom hfit
      rw [hr'] at hr
      simp only [Result.ok.injEq] at hr
      obtain ⟨rfl, _⟩ := hr
      intro b hb; exact .inl hb.symm
    · have holds : ∀ (j : Nat) (u : Value), xs[j]? = some u → w.cell? ((⟨g, 0, none⟩ : Addr).add j) = some u := hown.cells (g := g) rfl
      have hr' := run_append_grow (P := P) w t ty el i z ht hi hz ⟨g, 0, none⟩ n cap xs hown.1 holds ad m c news hl hnews (by omega) (by omega) (growslice_fits (by omega) hbytes)
      rw [hr'] at hr
      simp only [Result.ok.injEq] at hr
      obtain ⟨rfl, _⟩ := hr
      intro b hb; simp [Value.ownBlock] at hb; omega

def appRow (n : Nat) (row row2 : Nat → List AV) : Nat → List AV := fun i => if i < n then row i else row2 (i - n)

theorem rows_app {G : IM} {esz m m2 : Nat} {row row2 : Nat → List AV} {xs ys : List Value} (hx : xs.length = m * esz) (h1 : RowsL G esz m row xs) (h2 : RowsL G esz m2 row2 ys) :
    RowsL G esz (m + m2) (appRow m row row2) (xs ++ ys) := by
  intro i hi
  unfold appRow
  split
  · rename_i hlt
    have hle : i * esz + esz ≤ xs.length := by
      rw [hx]; have := Nat.mul_le_mul_right esz hlt; rw [Nat.succ_mul] at this; exact this
    rw [List.drop_append_of_le_length (by omega), List.take_append_of_le_length (by simp; omega)]
    exact h1 i hlt
  · rename_i hge
    have : i * esz = xs.length + (i - m) * esz := by
      rw [hx, ← Nat.add_mul]; congr 1; omega
    have hdr : (xs ++ ys).drop (xs.length + (i - m) * esz) = ys.drop ((i - m) * esz) := by simp [List.drop_append]
    rw [this, hdr]
    exact h2 (i - m) (by omega)

theorem append_none (t ty el : Nat) (i : TypeInfo) (ht : P.underlying t = some (.slice el)) (hi : P.info? el = some i) (v : Value) {size : Nat} (n : Nat) (xs : List Value) (hown : w.ownsRow 0 el size v n xs) (cc : Nat) :
    (Builtin.append_ #[t, t] ty #[v, .slice none 0 cc]).run P w = .ok v w := by
  rcases hown.2 with ⟨rfl, rfl⟩ | ⟨g, cap, cur, rfl, hbg, hg, hnc, hcm, hcs, htake⟩
  · simp [Builtin.append_, run_underlying ht, sizeOf, typeInfo, hi, Builtin.lenOf, Builtin.firstCells]
  · simp [Builtin.append_, run_underlying ht, sizeOf, typeInfo, hi, Builtin.lenOf, Builtin.firstCells, storeCells, hnc]

theorem O_append {dst : Nat} {so_ xo : Operand} {t ty : TypeId} {pos : String} {aft : Array Edge} {rest : List Oper} {s s2 : List (Nat × AV)} {c r1 : List Ch} {k : Nat} {el esz m m2 m3 : Nat} {row row2 row3 : Nat → List AV} {by_ : Nat} {sz0 b0 : Nat} {ag0 ag1 : Bool} {z0 z1 : List Value} {d1 : TD}
    (hTs : T t = some ⟨sz0, b0, ag0, z0, .slice el⟩) (hTe : T el = some ⟨esz, by_, ag1, z1, d1⟩) (hpos : Nat.blt 0 esz = true)
    (hso : opd s so_ = some (.own k)) (hk : takeCh k c = some (.vec k el esz m row, r1))
    (hsrc : ∀ e a w, Rel X n e ⟨s, c⟩ a w → (∃ ad cc news, a.eval xo = .slice (some ad) m2 cc ∧ news.length = m2 * esz ∧ (∀ (j : Nat) (u : Value), news[j]? = some u → w.cell? (ad.add j) = some u) ∧ (∀ u ∈ news, u.oneCell' = true) ∧ RowsL e.G esz m2 row2 news) ∨
      (m2 = 0 ∧ ∃ cc, a.eval xo = .slice none 0 cc))
    (hd : Nat.blt dst n = true) (hs2 : subS s2 s) (hf : freshS dst s2 = true) (hfc : freshC dst r1 = true)
    (hlen : (m + m2) * by_ ≤ 140737488355328) (hlen2 : m + m2 ≤ maxLen)
    (hm3 : m3 = m + m2) (hrow3 : ∀ i, i < m3 → appRow m row row2 i = row3 i)
    (h : SymO X n ops rest ⟨(dst, .own dst) :: s2, .vec dst el esz m3 row3 :: r1⟩ K) :
    SymO X n ops (⟨some dst, .call ⟨.builtin .append, #[so_, xo], #[t, t]⟩, ty, pos, aft, none⟩ :: rest) ⟨s, c⟩ K := by
  subst hm3
  intro e a w Q r hq
  obtain ⟨pi, z, i1, i2, i3, i4, i5, i6, i7⟩ := (X.ok _ _ hTe).info
  obtain ⟨dd, e1, _, e3⟩ := (X.ok _ _ hTs).desc
  simp only [TDOK] at e3
  subst e3
  have hso' := opd_sound r hso
  simp only [Rep] at hso'
  obtain ⟨hso', _⟩ := hso'
  have hh := r.heap.perm (takeCh_perm hk)
  obtain ⟨bs, ⟨hbs, xs, g1, g2⟩, _, hgood⟩ := hh.head
  have hzs : z.cells.size = esz := by
    have : z.cells.toList.length = esz := by rw [i5]; exact i7
    simpa using this
  have hpos' : 0 < esz := by have := hpos; simp [Nat.blt] at this; omega
  have hold : ∀ b, (e.hd k).ownBlock = some b → b < w.heap.size ∧ (X.w0.heap.size ≤ b ∨ b ∈ X.bs) ∧ e.G.free b := fun b hb => hgood b (by rw [hbs, hb]; simp)
  have hdis : ∀ b, (e.hd k).ownBlock = some b → ∀ pl : List (Ch × List Nat), pl.map (·.1) = r1 → (∀ p ∈ pl, ChOK e w p.1 p.2) → b ∉ pl.flatMap (·.2) := by
    intro b hb pl hpl hok hin
    obtain ⟨pl', p1, p2, p3, p4⟩ := hh
    cases pl' with
    | nil => simp at p1
    | cons p pl' =>
      simp only [List.map_cons, List.cons.injEq] at p1
      simp only [List.flatMap_cons] at p3
      have hp := p2 p (List.mem_cons_self ..)
      rw [p1.1] at hp
      have heq : pl' = pl := by
        have key : ∀ (l1 l2 : List (Ch × List Nat)), l1.map (·.1) = l2.map (·.1) → (∀ p ∈ l1, ChOK e w p.1 p.2) → (∀ p ∈ l2, ChOK e w p.1 p.2) → l1 = l2 := by
          intro l1
          induction l1 with
          | nil => intro l2 h _ _; cases l2 with
            | nil => rfl
            | cons _ _ => simp at h
          | cons q l1 ih =>
            intro l2 h h1 h2
            cases l2 with
            | nil => simp at h
            | cons q2 l2 =>
              simp only [List.map_cons, List.cons.injEq] at h
              have e1 := h1 q (List.mem_cons_self ..)
              have e2 := h2 q2 (List.mem_cons_self ..)
              rw [← h.1] at e2
              have : q.2 = q2.2 := by
                cases hc : q.1 with
                | box k T cells => rw [hc] at e1 e2; rw [e1.1, e2.1]
                | vec k T esz n row => rw [hc] at e1 e2; rw [e1.1, e2.1]
                | obj k o => rw [hc] at e1 e2; rw [e1.1, e2.1]
                | mapc k ks xs => rw [hc] at e1 e2; rw [e1.1, e2.1]
                | abs A => rw [hc] at e1 e2; rw [e1.1, e2.1]
              rw [ih l2 h.2 (fun p hp => h1 p (List.mem_cons_of_mem _ hp)) (fun p hp => h2 p (List.mem_cons_of_mem _ hp))]
              congr 1
              exact Prod.ext h.1 this
        exact key pl' pl (by rw [p1.2, hpl]) (fun p hp => p2 p (List.mem_cons_of_mem _ hp)) hok
      subst heq
      have := (List.nodup_append.1 p3).2.2 b (by rw [hp.1, hb]; simp) b hin
      exact this rfl
  have hrowsOut : ∀ {news : List Value}, RowsL e.G esz m2 row2 news → RowsL e.G esz (m + m2) row3 (xs ++ news) := fun hn i hi => by
    rw [← hrow3 i hi]; exact rows_app g1.1 g2 hn i hi
  rcases hsrc e a w r with ⟨ad, cc, news, hx, hl, hnews, h1, hrn⟩ | ⟨hm2, cc, hx⟩
  · obtain ⟨v', w', hr, q2, q3, q4⟩ := run_append_own (P := P) w 0 t ty el pi z esz by_ e1 i1 i4 i2 i3 hzs hpos' (e.hd k) m xs g1 ad m2 cc news hl hnews h1 hlen2 hlen (Nat.zero_le _)
    unfold wpList
    rw [if_pos (by simp [Region.wanted])]
    refine .inl ?_
    unfold Oper.wp
    have hrun : (execOp a.eval ⟨some dst, .call ⟨.builtin .append, #[so_, xo], #[t, t]⟩, ty, pos, aft, none⟩).run P w = .ok (.value v') w' := by
      simp only [execOp, resolve, invoke, builtin, Sem.run_bind, Sem.run_pure, Result.andThen_ok, List.map_toArray, List.map_cons, List.map_nil, hso', hx, hr]
    rw [hrun]
    have hblk : ∀ b, v'.ownBlock = some b → b < w'.heap.size ∧ (some b = (e.hd k).ownBlock ∨ w.heap.size ≤ b) := by
      intro b hb
      refine ⟨(q2.lt b hb).2, ?_⟩
      simp only at i2 i3
      subst i2 i3
      exact append_block t ty el pi z e1 i1 i4 (e.hd k) m xs g1 ad m2 cc news hl hnews h1 hlen2 hlen hr b hb
    have r2 := r.vec (d := dst) (w' := w') (v' := v') (t := el) (esz := esz) (m := m + m2) (row := row3) (xs := xs ++ news) (s := s2) (c := r1) (c' := r1) (e.hd k).ownBlock hd
      (fun i x hi => subS_get hs2 i x hi) hf hfc hh.drop hold hdis q2 (hrowsOut hrn) q3 hblk
    exact h _ _ w' Q r2 hq
  · subst hm2
    have hrun0 := append_none t ty el pi e1 i1 (e.hd k) m xs g1 cc
    unfold wpList
    rw [if_pos (by simp [Region.wanted])]
    refine .inl ?_
    unfold Oper.wp
    have hrun : (execOp a.eval ⟨some dst, .call ⟨.builtin .append, #[so_, xo], #[t, t]⟩, ty, pos, aft, none⟩).run P w = .ok (.value (e.hd k)) w := by
      simp only [execOp, resolve, invoke, builtin, Sem.run_bind, Sem.run_pure, Result.andThen_ok, List.map_toArray, List.map_cons, List.map_nil, hso', hx, hrun0]
    rw [hrun]
    have hrn : RowsL e.G esz 0 row2 ([] : List Value) := fun i hi => by omega
    have r2 := r.vec (d := dst) (w' := w) (v' := e.hd k) (t := el) (esz := esz) (m := m + 0) (row := row3) (xs := xs ++ []) (s := s2) (c := r1) (c' := r1) (e.hd k).ownBlock hd
      (fun i x hi => subS_get hs2 i x hi) hf hfc hh.drop hold hdis (by simpa using g1) (hrowsOut hrn) ⟨rfl, rfl, rfl, Nat.le_refl _, fun _ _ _ => rfl⟩ (fun b hb => ⟨(hold b hb).1, .inl hb.symm⟩)
    exact h _ _ w Q r2 hq
theorem src_sl {s : List (Nat × AV)} {c : List Ch} {xo : Operand} {m esz : Nat} {row : Nat → List AV} (hx : opd s xo = some (.sl m esz row)) (hr : ∀ i, i < m → (row i).length = esz) :
    ∀ e a w, Rel X n e ⟨s, c⟩ a w → (∃ ad cc news, a.eval xo = .slice (some ad) m cc ∧ news.length = m * esz ∧ (∀ (j : Nat) (u : Value), news[j]? = some u → w.cell? (ad.add j) = some u) ∧ (∀ u ∈ news, u.oneCell' = true) ∧ RowsL e.G esz m row news) ∨
      (m = 0 ∧ ∃ cc, a.eval xo = .slice none 0 cc) := by
  intro e a w r
  have h := opd_sound r hx
  simp only [Rep, RepI] at h
  obtain ⟨aa, cc, h1, h2, h3⟩ := h
  rcases Nat.eq_zero_or_pos m with hm | hm
  · subst hm
    cases aa with
    | none => exact .inr ⟨rfl, cc, h1⟩
    | some ad => exact .inl ⟨ad, cc, [], h1, by simp, by simp, by simp, fun i hi => by omega⟩
  · rcases h3 with h3 | ⟨b, o, rfl, h3⟩
    · omega
    · have hz : ∀ j, j < m * esz → ∃ z c, (row (j / esz))[j % esz]? = some c ∧ e.G b (o + j) = some z ∧ RepI e.G c z ∧ z.oneCell' = true := by
        intro j hj
        have hpos : 0 < esz := by
          rcases Nat.eq_zero_or_pos esz with h | h
          · subst h; simp at hj
          · exact h
        have hi : j / esz < m := by rw [Nat.div_lt_iff_lt_mul hpos]; exact hj
        have hjj := Nat.mod_lt j hpos
        have hc : (row (j / esz))[j % esz]? = some ((row (j / esz))[j % esz]'(by rw [hr _ hi]; exact hjj)) := List.getElem?_eq_getElem _
        obtain ⟨z, z1, z2, z3⟩ := (h3 _ hi).get _ _ hc
        have he : o + j / esz * esz + j % esz = o + j := by have := Nat.div_add_mod' j esz; omega
        rw [he] at z1
        exact ⟨z, _, hc, z1, z2, z3⟩
      have getm : ∀ {j : Nat} {u : Value}, ((List.range (m * esz)).map fun j => (e.G b (o + j)).getD undef)[j]? = some u → j < m * esz ∧ u = (e.G b (o + j)).getD undef := by
        intro j u hu
        rw [List.getElem?_map] at hu
        rcases Nat.lt_or_ge j (m * esz) with h | h
        · rw [List.getElem?_range h] at hu
          simp only [Option.map_some, Option.some.injEq] at hu
          exact ⟨h, hu.symm⟩
        · rw [List.getElem?_eq_none (by simpa using h)] at hu; cases hu
      refine .inl ⟨_, cc, (List.range (m * esz)).map fun j => (e.G b (o + j)).getD undef, h1, by simp, ?_, ?_, ?_⟩
      · intro j u hu
        obtain ⟨hj, hu⟩ := getm hu
        have hadd : (⟨b, o, none⟩ : Addr).add j = ⟨b, o + j, none⟩ := add_addr b o j
        obtain ⟨z, c, _, z2, z3, z4⟩ := hz j hj
        rw [hadd, hu, z2]
        exact r.im _ _ _ z2
      · intro u hu
        obtain ⟨j, hju⟩ := List.getElem?_of_mem hu
        obtain ⟨hj, hu'⟩ := getm hju
        obtain ⟨z, c, _, z2, z3, z4⟩ := hz j hj
        rw [hu', z2]
        exact z4
      · intro i hi
        refine RepIL.mk ?_ (fun j c hc => ?_)
        · have hle : i * esz + esz ≤ m * esz := by have := Nat.mul_le_mul_right esz hi; rw [Nat.succ_mul] at this; exact this
          simp [hr i hi]; omega
        · have hj : j < esz := by
            rcases Nat.lt_or_ge j esz with h | h
            · exact h
            · rw [List.getElem?_eq_none (by rw [hr i hi]; exact h)] at hc; cases hc
          obtain ⟨z, z1, z2, z3⟩ := (h3 i hi).get j c hc
          have hle : i * esz + esz ≤ m * esz := by have := Nat.mul_le_mul_right esz hi; rw [Nat.succ_mul] at this; exact this
          refine ⟨z, ?_, z2, z3⟩
          rw [List.getElem?_take, if_pos hj, List.getElem?_drop, List.getElem?_map, List.getElem?_range (by omega)]
          simp only [Option.map_some]
          rw [← Nat.add_assoc, z1]; rfl
end
end Go.Sy
