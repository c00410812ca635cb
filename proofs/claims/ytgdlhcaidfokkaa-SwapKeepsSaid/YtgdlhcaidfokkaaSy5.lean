/- The symbolic walk, part 5: making and writing boxes; struct and slice literals. -/
import Derived.Test.YtgdlhcaidfokkaaSy4
set_option linter.unusedSimpArgs false
set_option linter.unusedVariables false
namespace Go.Sy
open Go.RowKit

def eraseS (d : Nat) : List (Nat × AV) → List (Nat × AV)
  | [] => []
  | (j, x) :: r => match Nat.beq j d with
    | true => eraseS d r
    | false => (j, x) :: eraseS d r
def freshS (d : Nat) : List (Nat × AV) → Bool
  | [] => true
  | (_, x) :: r => x.no d && freshS d r
def freshC (d : Nat) : List Ch → Bool
  | [] => true
  | c :: r => c.no d && freshC d r
def eraseC (d : Nat) : List Ch → List Ch
  | [] => []
  | c :: r => match Nat.beq c.id d with
    | true => eraseC d r
    | false => c :: eraseC d r

theorem beq_ne {a b : Nat} (h : Nat.beq a b = false) : a ≠ b := by
  intro e; subst e; simp [Nat.beq_refl] at h

theorem get_eraseS (d : Nat) : ∀ (s : List (Nat × AV)) (i : Nat), get (eraseS d s) i = if d = i then none else get s i
  | [], i => by simp [eraseS, get]
  | (j, x) :: r, i => by
    have ih := get_eraseS d r i
    simp only [eraseS]
    cases hb : Nat.beq j d
    · simp only
      rw [get_cons, ih, get_cons]
      have := beq_ne hb
      by_cases h1 : j = i <;> by_cases h2 : d = i <;> simp_all
    · have := Nat.eq_of_beq_eq_true hb
      subst this
      simp only
      rw [ih, get_cons]
      by_cases h1 : j = i <;> simp_all

theorem freshS_get {d : Nat} : ∀ {s : List (Nat × AV)}, freshS d s = true → ∀ i x, get s i = some x → x.no d = true
  | [], _, i, x, h => by simp [get] at h
  | (j, y) :: r, hf, i, x, h => by
    simp only [freshS, Bool.and_eq_true] at hf
    rw [get_cons] at h
    by_cases h1 : j = i
    · rw [if_pos h1] at h; cases h; exact hf.1
    · rw [if_neg h1] at h; exact freshS_get hf.2 i x h
theorem freshC_mem {d : Nat} : ∀ {c : List Ch}, freshC d c = true → ∀ x ∈ c, x.no d = true
  | [], _, x, h => by simp at h
  | y :: r, hf, x, h => by
    simp only [freshC, Bool.and_eq_true] at hf
    rcases List.mem_cons.1 h with rfl | h
    · exact hf.1
    · exact freshC_mem hf.2 x h
theorem HeapOK.erase {P : Program} {T : Tab} {X : Ctx P T} {e : Env} {w : World} (d : Nat) {cs : List Ch} (h : HeapOK X e w cs) : HeapOK X e w (eraseC d cs) := by
  obtain ⟨pl, h1, h2, h3, h4⟩ := h
  subst h1
  have key : ∀ (pl : List (Ch × List Nat)), (pl.filter (fun p => !(Nat.beq p.1.id d))).map (·.1) = eraseC d (pl.map (·.1)) := by
    intro pl
    induction pl with
    | nil => rfl
    | cons p pl ih =>
      simp only [List.map_cons, eraseC, List.filter_cons]
      cases Nat.beq p.1.id d <;> simp [ih]
  have hsub : ((pl.filter (fun p => !(Nat.beq p.1.id d))).flatMap (·.2)).Sublist (pl.flatMap (·.2)) := by
    clear key h2 h3 h4
    induction pl with
    | nil => simp
    | cons p pl ih =>
      simp only [List.filter_cons, List.flatMap_cons]
      cases Nat.beq p.1.id d
      · simpa using ih
      · simp; exact ih.trans (List.sublist_append_right _ _)
  exact ⟨_, key pl, fun p hp => h2 p (List.mem_filter.1 hp).1, h3.sublist hsub, fun b hb => h4 b (hsub.subset hb)⟩

/-- Fewer things known. -/
theorem Rel.less {P : Program} {T : Tab} {X : Ctx P T} {n : Nat} {e : Env} {st : St} {a : Act} {w : World} (r : Rel X n e st a w) {s : List (Nat × AV)} {c : List Ch}
    (hs : ∀ i x, get s i = some x → get st.s i = some x) (hc : HeapOK X e w st.c → HeapOK X e w c) : Rel X n e ⟨s, c⟩ a w :=
  { r with slots := fun i x h => r.slots i x (hs i x h), heap := hc r.heap }

def upd {α : Type} (f : Nat → α) (k : Nat) (v : α) : Nat → α := fun j => if j = k then v else f j

def boxable : AV → Bool
  | .agg _ => true
  | x => x.cellB

theorem cellB_one {e : Env} {x : AV} {v : Value} (h : Rep e x v) (hb : x.cellB = true) : v.oneCell' = true := by
  cases x with
  | v x => simp only [Rep] at h; subst h; exact hb
  | bad => simp [AV.cellB] at hb
  | agg _ => simp [AV.cellB] at hb
  | tup _ => simp [AV.cellB] at hb
  | s l => simp only [Rep] at h; subst h; rfl
  | sl n esz row => simp only [Rep, RepI] at h; obtain ⟨a, c, rfl, _⟩ := h; rfl
  | cp cells => simp only [Rep, RepI] at h; obtain ⟨b, o, rfl, _⟩ := h; rfl
  | bp k o => simp only [Rep] at h; subst h; rfl
  | own k => simp only [Rep] at h; obtain ⟨_, a, n, c, rfl⟩ := h; rfl
  | ep k i esz j => simp only [Rep] at h; subst h; rfl
  | p R => simp only [Rep] at h; exact R.one h

theorem cellsA_sound {e : Env} {x : AV} {v : Value} (h : Rep e x v) (hb : boxable x = true) : RepL e (cellsA x) v.cells.toList := by
  have scal : x.cellB = true → RepL e [x] v.cells.toList := by
    intro hc
    have h1 := cellB_one h hc
    have : v.cells.toList = [v] := by cases v <;> simp_all [Value.cells, Value.oneCell']
    rw [this]
    simp only [RepL]
    exact ⟨v, [], rfl, h, h1, rfl⟩
  cases x with
  | agg cs =>
    simp only [Rep] at h
    obtain ⟨ys, rfl, h⟩ := h
    exact h
  | _ => exact scal hb

theorem RepL.app {e : Env} : ∀ {cs ds : List AV} {ys zs : List Value}, RepL e cs ys → RepL e ds zs → RepL e (cs ++ ds) (ys ++ zs)
  | [], ds, ys, zs, h, k => by simp only [RepL] at h; subst h; simpa using k
  | c :: cs, ds, ys, zs, h, k => by
    simp only [RepL] at h
    obtain ⟨z, zs', rfl, h1, h2, h3⟩ := h
    simp only [List.cons_append, RepL]
    exact ⟨z, _, rfl, h1, h2, RepL.app h3 k⟩
theorem RepL.take {e : Env} : ∀ (k : Nat) {cs : List AV} {ys : List Value}, RepL e cs ys → RepL e (cs.take k) (ys.take k)
  | 0, cs, ys, h => by simp [RepL]
  | k + 1, [], ys, h => by simp only [RepL] at h; subst h; simp [RepL]
  | k + 1, c :: cs, ys, h => by
    simp only [RepL] at h
    obtain ⟨z, zs', rfl, h1, h2, h3⟩ := h
    simp only [List.take_succ_cons, RepL]
    exact ⟨z, _, rfl, h1, h2, RepL.take k h3⟩
theorem RepL.drop {e : Env} : ∀ (k : Nat) {cs : List AV} {ys : List Value}, RepL e cs ys → RepL e (cs.drop k) (ys.drop k)
  | 0, cs, ys, h => by simpa using h
  | k + 1, [], ys, h => by simp only [RepL] at h; subst h; simp [RepL]
  | k + 1, c :: cs, ys, h => by
    simp only [RepL] at h
    obtain ⟨z, zs', rfl, h1, h2, h3⟩ := h
    simpa using RepL.drop k h3
theorem RepL.one {e : Env} : ∀ {cs : List AV} {ys : List Value}, RepL e cs ys → ∀ y ∈ ys, y.oneCell' = true
  | [], ys, h, y, hy => by simp only [RepL] at h; subst h; simp at hy
  | c :: cs, ys, h, y, hy => by
    simp only [RepL] at h
    obtain ⟨z, zs', rfl, h1, h2, h3⟩ := h
    rcases List.mem_cons.1 hy with rfl | hy
    · exact h2
    · exact RepL.one h3 y hy

/-- zero cells -/
def constA : Value → AV
  | .string b => .s b.data.toList
  | x => .v x
theorem constA_sound (e : Env) {v : Value} : Rep e (constA v) v := by
  cases v <;> simp [constA, Rep, S]
theorem zero_sound (e : Env) : ∀ {zs : List Value}, zs.all (·.oneCell') = true → RepL e (zs.map constA) zs
  | [], _ => by simp [RepL]
  | z :: zs, h => by
    simp only [List.all_cons, Bool.and_eq_true] at h
    simp only [List.map_cons, RepL]
    exact ⟨z, zs, rfl, constA_sound e, h.1, zero_sound e h.2⟩

section
variable {P : Program} {T : Tab} {X : Ctx P T} {n : Nat} {e : Env} {st : St} {a : Act} {w : World}

/-- A new block, owned. -/
theorem Rel.alloc (r : Rel X n e st a w) {d : Nat} {cells : List AV} {arr : Array Value} {t : TypeId} (hd : Nat.blt d n = true) (hf : freshS d st.s = true) (hc : freshC d st.c = true)
    (hcells : RepL e cells arr.toList) (hno : AV.no.noL d cells = true) :
    Rel X n { e with μ := upd e.μ d w.heap.size } ⟨(d, .bp d 0) :: st.s, .box d t cells :: st.c⟩ (a.put (some d) (.pointer (some ⟨w.heap.size, 0, none⟩))) (w.alloc (.cells arr t)) := by
  have hid : ∀ (k : Nat), k ≠ d → upd e.μ d w.heap.size k = e.μ k := fun k hk => by simp [upd, hk]
  have hnod : ∀ {x : AV}, x.no d = true → ∀ j, x.no j = false → j ≠ d := fun hx j hj he => by subst he; rw [hx] at hj; cases hj
  have hGlt : ∀ b o v, e.G b o = some v → b < w.heap.size := fun b o v h => by
    have := block_lt_of_cell (r.im b o v h); exact this
  have r1 : Rel X n { e with μ := upd e.μ d w.heap.size } ⟨st.s, .box d t cells :: st.c⟩ a (w.alloc (.cells arr t)) :=
    { defers := r.defers
      size := r.size
      slots := fun i x h => by
        obtain ⟨v, h1, h2⟩ := r.slots i x h
        exact ⟨v, h1, Rep.mono (e := e) (f := { e with μ := upd e.μ d w.heap.size }) (IM.le_refl _) x (fun j hj => ⟨hid j (hnod (freshS_get hf i x h) j hj), rfl⟩) h2⟩
      im := fun b o v h => by
        have h1 := r.im b o v h
        have h2 := hGlt b o v h
        simp only [World.cell?] at h1 ⊢
        rw [Go.heap_alloc_old w _ h2]
        exact h1
      heap := by
        refine HeapOK.push r.heap (IM.le_refl _) (fun c hcm j hj => ⟨hid j ?_, rfl⟩) (fun b hb => Go.heap_alloc_old w _ hb) (bs' := [w.heap.size]) ?_ (by simp) (by simp) ?_ (by simp) (fun b o _ h => h)
        · intro he; subst he; rw [freshC_mem hc c hcm] at hj; cases hj
        · refine ⟨by simp [upd], arr, ?_, RepL.mono (e := e) (f := { e with μ := upd e.μ d w.heap.size }) (IM.le_refl _) cells (fun j hj => ⟨hid j ?_, rfl⟩) hcells⟩
          · simp only [upd, if_true]; exact Go.heap_alloc_new w _
          · intro he; subst he; rw [hno] at hj; cases hj
        · intro b hb
          simp only [List.mem_singleton] at hb
          subst hb
          refine ⟨by simp, .inl r.sz, fun o => ?_⟩
          cases hg : e.G w.heap.size o with
          | none => rfl
          | some v => exact absurd (hGlt _ _ _ hg) (by omega)
      le := r.le
      new := r.new
      os := r.os
      tape := r.tape
      output := r.output
      sz := by have := r.sz; simp; omega
      keep := fun b hb hbs => by rw [Go.heap_alloc_old w _ (by have := r.sz; omega)]; exact r.keep b hb hbs
      fix := fun k hk => by rw [show ({ e with μ := upd e.μ d w.heap.size } : Env).μ k = e.μ k from hid k (by simp [Nat.blt] at hd; omega)]; exact r.fix k hk }
  have := r1.put (d := d) (x := .bp d 0) (v := .pointer (some ⟨w.heap.size, 0, none⟩)) hd (by simp [Rep, upd])
  exact this

/-- A box is written. -/
theorem Rel.write (r : Rel X n e st a w) {k o : Nat} {t : TypeId} {cells new : List AV} {rest : List Ch} {vs : List Value} (hk : takeCh k st.c = some (.box k t cells, rest))
    (hv : RepL e new vs) (hl : o + new.length ≤ cells.length) :
    ∃ w', (storeCells ⟨e.μ k, o, none⟩ vs).run P w = .ok () w' ∧ Rel X n e ⟨st.s, .box k t (cells.take o ++ new ++ cells.drop (o + new.length)) :: rest⟩ a w' := by
  have hh := r.heap.perm (takeCh_perm hk)
  obtain ⟨bs, ⟨hbs, arr, g1, g2⟩, _, hgood⟩ := hh.head
  have hlen : arr.toList.length = cells.length := RepL.len g2
  have hvl : vs.length = new.length := RepL.len hv
  have hrun := run_storeCells_at P (e.μ k) o t vs 0 arr w g1 (by rw [hvl]; simp at hlen; omega) (RepL.one hv)
  simp only [Nat.add_zero] at hrun
  refine ⟨_, hrun, ?_⟩
  have hother : ∀ b, b ≠ e.μ k → (w.setRow (e.μ k) (arr.toList.take o ++ vs ++ arr.toList.drop (o + vs.length)).toArray).heap[b]? = w.heap[b]? := fun b hb => setRow_other w _ b _ hb
  have hGk : ∀ oo, e.G (e.μ k) oo = none := (hgood (e.μ k) (by rw [hbs]; simp)).2.2
  refine { r with defers := r.defers, size := r.size, slots := r.slots, im := ?_, heap := ?_, os := r.os, tape := r.tape, output := r.output, sz := by rw [setRow_size]; exact r.sz, keep := ?_ }
  · intro b oo v h
    have hne : b ≠ e.μ k := fun he => by subst he; rw [hGk oo] at h; cases h
    have h1 := r.im b oo v h
    simp only [World.cell?] at h1 ⊢
    rw [hother b hne]
    exact h1
  · refine HeapOK.update hh (IM.le_refl _) (fun _ _ _ _ => ⟨rfl, rfl⟩) ?_ (by rw [setRow_size]; exact Nat.le_refl _) (fun _ _ _ _ h => h)
    intro bs' hc hnd hg
    obtain ⟨rfl, _⟩ := hc
    refine ⟨fun b _ hb => hother b (by simpa using hb), [e.μ k], ⟨rfl, _, setRow_heap w _ arr _ t _ g1, ?_⟩, by simp, fun b hb => .inl hb, fun b hb => ?_⟩
    · rw [hvl]
      simpa using ((g2.take o).app hv).app (g2.drop (o + new.length))
    · obtain ⟨q1, q2, q3⟩ := hg b hb
      exact ⟨by rw [setRow_size]; exact q1, q2, q3⟩
  · intro b hb hbs'
    have hne : b ≠ e.μ k := by
      intro he
      subst he
      rcases (hgood (e.μ k) (by rw [hbs]; simp)).2.1 with h | h
      · omega
      · exact hbs' h
    rw [hother b hne]
    exact r.keep b hb hbs'
end

/-! ### literals -/
/-- Bring a list's spine to light. -/
def normL {β : Type} : List AV → (List AV → β) → β
  | [], k => k []
  | x :: xs, k => normL xs fun ys => k (x :: ys)
theorem normL_eq {β : Type} : ∀ (l : List AV) (k : List AV → β), normL l k = k l
  | [], k => rfl
  | x :: xs, k => by simp only [normL]; rw [normL_eq xs]
def normA {β : Type} (x : AV) (k : AV → β) : β :=
  match x with
  | .agg cs => normL cs fun cs => k (.agg cs)
  | _ => k x
theorem normA_eq {β : Type} (x : AV) (k : AV → β) : normA x k = k x := by
  unfold normA
  split
  · rw [normL_eq]
  · rfl

def splice (cells : List AV) (off : Nat) (new : List AV) : List AV := cells.take off ++ new ++ cells.drop (off + new.length)

def fillA (place : Nat → Option (Nat × Nat)) (cells : List AV) : List (Nat × AV) → Option (List AV)
  | [] => some cells
  | (i, x) :: rest => match place i with
    | none => none
    | some (off, size) => match Nat.beq (cellsA x).length size && Nat.ble (off + size) cells.length && boxable x with
      | true => normL (splice cells off (cellsA x)) fun c => fillA place c rest
      | false => none

theorem foldl_set : ∀ (vs : List Value) (j0 : Nat) (off : Nat) (cells : Array Value), off + j0 + vs.length ≤ cells.size →
    ((vs.zipIdx j0).foldl (fun (cs : Array Value) (x : Value × Nat) => cs.setIfInBounds (off + x.2) x.1) cells).toList = cells.toList.take (off + j0) ++ vs ++ cells.toList.drop (off + j0 + vs.length)
  | [], j0, off, cells, h => by simp
  | v :: vs, j0, off, cells, h => by
    simp only [List.zipIdx_cons, List.foldl_cons]
    have ih := foldl_set vs (j0 + 1) off (cells.setIfInBounds (off + j0) v) (by simp at h ⊢; omega)
    rw [ih]
    have e := list_seg_step cells.toList (off + j0) v vs (by simp at h ⊢; omega)
    simpa [Array.toList_setIfInBounds, Nat.add_assoc] using e

theorem fill_sound {e : Env} {place : Nat → Option (Nat × Nat)} {cp : Nat → Option (Nat × Nat)} (hp : ∀ i q, place i = some q → cp i = some q) :
    ∀ (parts : List (Nat × AV)) (vals : List (Nat × Value)) (cells : List AV) (cur : Array Value) (res : List AV),
      parts.length = vals.length → (∀ (j : Nat) (p : Nat × AV) (q : Nat × Value), parts[j]? = some p → vals[j]? = some q → p.1 = q.1 ∧ Rep e p.2 q.2) → RepL e cells cur.toList → fillA place cells parts = some res →
      ∃ out, Instr.fill cp cur vals = some out ∧ RepL e res out.toList
  | [], [], cells, cur, res, _, _, hc, h => by
    simp only [fillA, Option.some.injEq] at h
    subst h
    exact ⟨cur, rfl, hc⟩
  | (i, x) :: parts, (i', v) :: vals, cells, cur, res, hl, hr, hc, h => by
    obtain ⟨h1, h2⟩ := hr 0 (i, x) (i', v) rfl rfl
    simp only at h1 h2
    subst h1
    simp only [fillA] at h
    split at h
    · cases h
    · rename_i off size hpl
      split at h
      · rename_i hok
        simp only [Bool.and_eq_true] at hok
        rw [normL_eq] at h
        obtain ⟨⟨k1, k2⟩, k3⟩ := hok
        have k1 := Nat.eq_of_beq_eq_true k1
        have k2 := Nat.le_of_ble_eq_true k2
        have hv := cellsA_sound h2 k3
        have hvl := RepL.len hv
        have hcl := RepL.len hc
        simp only [Array.length_toList] at hvl hcl
        have hf := foldl_set v.cells.toList 0 off cur (by simp; omega)
        have hz : (v.cells.zipIdx.foldl (fun (cs : Array Value) (x : Value × Nat) => cs.setIfInBounds (off + x.2) x.1) cur) = ((v.cells.toList.zipIdx 0).foldl (fun (cs : Array Value) (x : Value × Nat) => cs.setIfInBounds (off + x.2) x.1) cur) := by
          rw [← Array.foldl_toList]; simp
        have hnew : RepL e (splice cells off (cellsA x)) ((v.cells.zipIdx.foldl (fun (cs : Array Value) (x : Value × Nat) => cs.setIfInBounds (off + x.2) x.1) cur)).toList := by
          rw [hz, hf]
          unfold splice
          have := ((hc.take off).app hv).app (hc.drop (off + (cellsA x).length))
          simpa [hvl] using this
        obtain ⟨out, g1, g2⟩ := fill_sound hp parts vals _ _ res (by simpa using hl) (fun j p q hj hq => hr (j + 1) p q (by simpa using hj) (by simpa using hq)) hnew h
        refine ⟨out, ?_, g2⟩
        unfold Instr.fill
        rw [hp _ _ hpl]
        have : ¬ (v.cells.size ≠ size || decide (off + v.cells.size > cur.size)) = true := by
          simp; omega
        simp only [this, if_false]
        exact g1
      · cases h
  | [], _ :: _, _, _, _, hl, _, _, _ => by simp at hl
  | _ :: _, [], _, _, _, hl, _, _, _ => by simp at hl

end Go.Sy
