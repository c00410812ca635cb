/- The symbolic walk, part 21: objects that are no cells (a text's iterator), the range over a text, and contracts that know some of memory. -/
import Derived.Test.YtgdlhcaidfokkaaSy20
import Derived.Laws.RangeString
set_option linter.unusedSimpArgs false
set_option linter.unusedVariables false
namespace Go.Sy
open Go.RowKit

section
variable {P : Program} {T : Tab} {X : Ctx P T} {n : Nat} {e : Env} {st : St} {a : Act} {w : World} {ops : Array Oper} {K : St → Prop}

/-- A new object, owned. -/
theorem Rel.allocObj (r : Rel X n e st a w) {d : Nat} {o : Obj} (hd : Nat.blt d n = true) (hf : freshS d st.s = true) (hc : freshC d st.c = true) :
    Rel X n { e with μ := upd e.μ d w.heap.size } ⟨(d, .bp d 0) :: st.s, .obj d o :: st.c⟩ (a.put (some d) (.pointer (some ⟨w.heap.size, 0, none⟩))) (w.alloc o) := by
  have hid : ∀ (k : Nat), k ≠ d → upd e.μ d w.heap.size k = e.μ k := fun k hk => by simp [upd, hk]
  have hnod : ∀ {x : AV}, x.no d = true → ∀ j, x.no j = false → j ≠ d := fun hx j hj he => by subst he; rw [hx] at hj; cases hj
  have hGlt : ∀ b o v, e.G b o = some v → b < w.heap.size := fun b o v h => by
    have := block_lt_of_cell (r.im b o v h); exact this
  have r1 : Rel X n { e with μ := upd e.μ d w.heap.size } ⟨st.s, .obj d o :: st.c⟩ a (w.alloc o) :=
    { defers := r.defers
      size := r.size
      slots := fun i x h => by
        obtain ⟨v, h1, h2⟩ := r.slots i x h
        exact ⟨v, h1, Rep.mono (e := e) (f := { e with μ := upd e.μ d w.heap.size }) (IM.le_refl _) x (fun j hj => ⟨hid j (hnod (freshS_get hf i x h) j hj), rfl⟩) h2⟩
      im := fun b o v h => by
        have h1 := r.im b o v h
        have h2 := hGlt b o v h
        simp only [World.cell?] at h1 ⊢
        rw [Go.heap_alloc_old w _ h2]
        exact h1
      heap := by
        refine HeapOK.push r.heap (IM.le_refl _) (fun c hcm j hj => ⟨hid j ?_, rfl⟩) (fun b hb => Go.heap_alloc_old w _ hb) (bs' := [w.heap.size]) ?_ (by simp) (by simp) ?_ (by simp) (fun b o _ h => h)
        · intro he; subst he; rw [freshC_mem hc c hcm] at hj; cases hj
        · refine ⟨by simp [upd], ?_⟩
          simp only [upd, if_true]; exact Go.heap_alloc_new w _
        · intro b hb
          simp only [List.mem_singleton] at hb
          subst hb
          refine ⟨by simp, .inl r.sz, fun o => ?_⟩
          cases hg : e.G w.heap.size o with
          | none => rfl
          | some v => exact absurd (hGlt _ _ _ hg) (by omega)
      le := r.le
      new := r.new
      os := r.os
      tape := r.tape
      output := r.output
      sz := by have := r.sz; simp; omega
      keep := fun b hb hbs => by rw [Go.heap_alloc_old w _ (by have := r.sz; omega)]; exact r.keep b hb hbs
      fix := fun k hk => by rw [show ({ e with μ := upd e.μ d w.heap.size } : Env).μ k = e.μ k from hid k (by simp [Nat.blt] at hd; omega)]; exact r.fix k hk }
  have := r1.put (d := d) (x := .bp d 0) (v := .pointer (some ⟨w.heap.size, 0, none⟩)) hd (by simp [Rep, upd])
  exact this

def setO (w : World) (b : Nat) (o : Obj) : World := { w with heap := w.heap.setIfInBounds b o }
theorem setO_other {w : World} {b c : Nat} {o : Obj} (h : c ≠ b) : (setO w b o).heap[c]? = w.heap[c]? := by
  simp only [setO]; rw [Array.getElem?_setIfInBounds_ne (Ne.symm h)]
theorem setO_size {w : World} {b : Nat} {o : Obj} : (setO w b o).heap.size = w.heap.size := by simp [setO]

/-- An object is put in the place of another. -/
theorem Rel.writeObj (r : Rel X n e st a w) {k : Nat} {o o' : Obj} {rest : List Ch} (hk : takeCh k st.c = some (.obj k o, rest)) :
    w.heap[e.μ k]? = some o ∧ Rel X n e ⟨st.s, .obj k o' :: rest⟩ a (setO w (e.μ k) o') := by
  have hh := r.heap.perm (takeCh_perm hk)
  obtain ⟨bs, ⟨hbs, g1⟩, _, hgood⟩ := hh.head
  have hGk : ∀ oo, e.G (e.μ k) oo = none := (hgood (e.μ k) (by rw [hbs]; simp)).2.2
  have hlt := (hgood (e.μ k) (by rw [hbs]; simp)).1
  refine ⟨g1, { r with defers := r.defers, size := r.size, slots := r.slots, im := ?_, heap := ?_, os := r.os, tape := r.tape, output := r.output, sz := by rw [setO_size]; exact r.sz, keep := ?_ }⟩
  · intro b oo v h
    have hne : b ≠ e.μ k := fun he => by subst he; rw [hGk oo] at h; cases h
    have h1 := r.im b oo v h
    simp only [World.cell?] at h1 ⊢
    rw [setO_other hne]
    exact h1
  · refine HeapOK.update hh (IM.le_refl _) (fun _ _ _ _ => ⟨rfl, rfl⟩) ?_ (by rw [setO_size]; exact Nat.le_refl _) (fun _ _ _ _ h => h)
    intro bs' hc hnd hg
    obtain ⟨rfl, _⟩ := hc
    refine ⟨fun b _ hb => setO_other (by simpa using hb), [e.μ k], ⟨rfl, ?_⟩, by simp, fun b hb => .inl hb, fun b hb => ?_⟩
    · simp [setO, hlt]
    · obtain ⟨q1, q2, q3⟩ := hg b hb
      exact ⟨by rw [setO_size]; exact q1, q2, q3⟩
  · intro b hb hbs'
    have hne : b ≠ e.μ k := by
      intro he
      subst he
      rcases (hgood (e.μ k) (by rw [hbs]; simp)).2.1 with h | h
      · omega
      · exact hbs' h
    rw [setO_other hne]
    exact r.keep b hb hbs'

/-- The range over a text begins. -/
theorem O_range {t : Nat} {i : TI} {x : Operand} {d : Nat} {ty : TypeId} {pos : String} {aft : Array Edge} {gd : Option (Nat × Bool)} {rest : List Oper} {l : List UInt8} {s : List (Nat × AV)} {c : List Ch}
    (hg : guardA ops ⟨s, c⟩ ⟨some d, .range t x, ty, pos, aft, gd⟩ = some true) (hT : T t = some i) (hi : i.d = .str) (hx : opd s x = some (.s l)) (hd : Nat.blt d n = true) (hf : freshS d s = true) (hc : freshC d c = true)
    (k : SymO X n ops rest ⟨(d, .bp d 0) :: s, .obj d (.stringIter ⟨l.toArray⟩ 0) :: c⟩ K) :
    SymO X n ops (⟨some d, .range t x, ty, pos, aft, gd⟩ :: rest) ⟨s, c⟩ K := by
  intro e a w Q r hq
  unfold wpList
  rw [if_pos (guardA_sound r hg)]
  refine .inl ?_
  have h1 := opd_sound r hx
  simp only [Rep, S] at h1
  obtain ⟨dd, e1, _, e3⟩ := (X.ok t i hT).desc
  rw [hi] at e3
  simp only [TDOK] at e3
  subst e3
  have hrun : (execOp a.eval ⟨some d, .range t x, ty, pos, aft, gd⟩).run P w = .ok (.value (.pointer (some ⟨w.heap.size, 0, none⟩))) (w.alloc (.stringIter ⟨l.toArray⟩ 0)) := by
    simp only [execOp, h1, Sem.run_bind, run_range_string w t ⟨l.toArray⟩ e1, Result.andThen_ok, Sem.run_pure]
    rfl
  unfold Oper.wp
  rw [hrun]
  exact k _ _ _ Q (r.allocObj hd hf hc) hq

/-- The next rune, or the end. -/
theorem O_next {x : Operand} {d kk : Nat} {pos0 : Nat} {ty : TypeId} {pos : String} {aft : Array Edge} {gd : Option (Nat × Bool)} {rest : List Oper} {l : List UInt8} {s : List (Nat × AV)} {c r0 : List Ch}
    (hg : guardA ops ⟨s, c⟩ ⟨some d, .next x true, ty, pos, aft, gd⟩ = some true) (hx : opd s x = some (.bp kk 0)) (hk : takeCh kk c = some (.obj kk (.stringIter ⟨l.toArray⟩ pos0), r0)) (hd : Nat.blt d n = true)
    (k : pos0 < l.length → SymO X n ops rest ⟨(d, .tup [B true, I64 pos0, .v (.int .i32 (Utf8.decode ⟨l.toArray⟩ pos0).1)]) :: s, .obj kk (.stringIter ⟨l.toArray⟩ (pos0 + (Utf8.decode ⟨l.toArray⟩ pos0).2)) :: r0⟩ K)
    (k' : ¬ pos0 < l.length → SymO X n ops rest ⟨(d, .tup [B false]) :: s, c⟩ K) :
    SymO X n ops (⟨some d, .next x true, ty, pos, aft, gd⟩ :: rest) ⟨s, c⟩ K := by
  intro e a w Q r hq
  unfold wpList
  rw [if_pos (guardA_sound r hg)]
  refine .inl ?_
  have h1 := opd_sound r hx
  simp only [Rep] at h1
  obtain ⟨g1, r1⟩ := r.writeObj (o' := .stringIter ⟨l.toArray⟩ (pos0 + (Utf8.decode ⟨l.toArray⟩ pos0).2)) hk
  unfold Oper.wp
  by_cases hp : pos0 < l.length
  · have hp' : pos0 < (ByteArray.mk l.toArray).size := by rw [len_S]; exact hp
    have hrun : (execOp a.eval ⟨some d, .next x true, ty, pos, aft, gd⟩).run P w = .ok (.value (.tuple #[.bool true, .int .i64 pos0, .int .i32 (Utf8.decode ⟨l.toArray⟩ pos0).1])) (setO w (e.μ kk) (.stringIter ⟨l.toArray⟩ (pos0 + (Utf8.decode ⟨l.toArray⟩ pos0).2))) := by
      simp only [execOp, h1, Instr.next, getObj, setObj, Sem.run_bind, Sem.run, g1, Result.andThen, hp', if_true]
      simp [goInt, Sem.run, g1, setO]
    rw [hrun]
    refine k hp _ _ _ Q (r1.put hd ?_) hq
    simp only [Rep]
    exact ⟨_, rfl, by simp [RepT, Rep]⟩
  · have hp' : ¬ pos0 < (ByteArray.mk l.toArray).size := by rw [len_S]; exact hp
    have hrun : (execOp a.eval ⟨some d, .next x true, ty, pos, aft, gd⟩).run P w = .ok (.value (.tuple #[.bool false])) w := by
      simp only [execOp, h1, Instr.next, getObj, setObj, Sem.run_bind, Sem.run, g1, Result.andThen, hp', if_false]
      rfl
    rw [hrun]
    refine k' hp _ _ _ Q (r.put hd ?_) hq
    simp only [Rep]
    exact ⟨_, rfl, by simp [RepT, Rep]⟩

end
end Go.Sy
