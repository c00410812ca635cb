/- The symbolic walk, part 12: regions whose order is drawn. -/
import Derived.Test.YtgdlhcaidfokkaaSy11
set_option linter.unusedSimpArgs false
set_option linter.unusedVariables false
namespace Go.Sy
open Go.RowKit

section
variable {P : Program} {T : Tab} {X : Ctx P T} {n : Nat} {e : Env} {st : St} {a : Act} {w : World} {ops : Array Oper} {K : St → Prop}

def SymQ (X : Ctx P T) (n : Nat) (ops : Array Oper) (l : List Oper) (st : St) (K : St → Prop) : Prop :=
  ∀ e a w (Q : Act → Prop), Rel X n e st a w → (∀ st' a', K st' → Rel X n e st' a' w → Q a') → wpQuiet P ops (fun w' => Below w.heap.size w w') Q l a

theorem Rel.below {w' : World} (r : Rel X n e st a w) (h : Below w.heap.size w w') : Rel X n e st a w' :=
  { defers := r.defers
    size := r.size
    slots := r.slots
    im := fun b o v hv => by
      have h1 := r.im b o v hv
      have h2 := r.glt b o v hv
      simp only [World.cell?] at h1 ⊢
      rw [h.block b h2]
      exact h1
    heap := HeapOK.grow r.heap (IM.le_refl _) (fun _ _ _ _ => ⟨rfl, rfl⟩) (fun b hb => h.block b hb) h.size (fun _ _ _ h => h)
    le := r.le
    new := r.new
    os := h.os.trans r.os
    tape := h.tape.trans r.tape
    output := h.output.trans r.output
    sz := Nat.le_trans r.sz h.size
    fix := r.fix
    keep := fun b hb hbs => (h.block b (Nat.lt_of_lt_of_le hb r.sz)).trans (r.keep b hb hbs) }

def stillK (T : Tab) (n : Nat) (dst : Option Tmp) (op : Op) (st : St) (k : St → Prop) : Option Prop :=
  match still T st op with
  | some av => putK n dst av st k
  | none => match still1 T st op with
    | some (vc, av) => (match putK n dst av st k with
      | some p => some (vc ∧ p)
      | none => none)
    | none => none

def stepQ (X : Ctx P T) (n : Nat) (ops : Array Oper) (K : St → Prop) : List Oper → St → Option Prop
  | [], st => some (K st)
  | o :: rest, st => match guardA ops st o with
    | some true => stillK T n o.dst o.op st (fun s => SymQ X n ops rest s K)
    | some false => putK n o.dst .bad st (fun s => SymQ X n ops rest s K)
    | none => none

theorem sq {l : List Oper} {p : Prop} (h : stepQ X n ops K l st = some p) (hp : p) : SymQ X n ops l st K := by
  intro e a w Q r hq
  cases l with
  | nil =>
    simp only [stepQ, Option.some.injEq] at h
    subst h
    exact wpQuiet_nil (hq st a hp r)
  | cons o rest =>
    simp only [stepQ] at h
    split at h
    · rename_i hg
      have hw := guardA_sound r hg
      unfold wpQuiet
      rw [if_pos hw]
      have key : ∀ {av : AV} {v : Value} {p : Prop}, Rep e av v → (∀ w', SameAs w w' → (execOp a.eval o).run P w' = .ok (.value v) w') →
          putK n o.dst av st (fun s => SymQ X n ops rest s K) = some p → p → o.quiet P a (fun w' => Below w.heap.size w w') (wpQuiet P ops (fun w' => Below w.heap.size w w') Q rest) := by
        intro av v p h1 h2 h3 h4
        refine ⟨v, fun w' hw' => ?_, ?_⟩
        · unfold Oper.quietAt
          rw [h2 w' (fun b hb => hw'.block b hb)]
          exact ⟨rfl, rfl⟩
        · obtain ⟨st', s1, s2⟩ := putK_sound r h3 h4 h1
          exact s1 e _ w Q s2 hq
      unfold stillK at h
      split at h
      · rename_i av hs
        obtain ⟨v, h1, h2⟩ := still_sound r hs
        exact key h1 h2 h hp
      · split at h
        · rename_i vc av hs
          split at h
          · rename_i q hq2
            simp only [Option.some.injEq] at h
            subst h
            obtain ⟨v, h1, h2⟩ := still1_sound r hs hp.1
            exact key h1 h2 hq2 hp.2
          · cases h
        · cases h
    · rename_i hg
      have hw := guardA_sound r hg
      unfold wpQuiet
      rw [if_neg (by rw [hw]; decide)]
      obtain ⟨st', s1, s2⟩ := putK_sound r h hp (v := undef) (by simp [Rep])
      exact s1 e _ w Q s2 hq
    · cases h

theorem Q_case {l : List Oper} {s : List (Nat × AV)} {c : List Ch} (d : Nat) {b : Bool} (hb : get s d = some (.v (.bool b)))
    (ht : b = true → SymQ X n ops l ⟨(d, .v (.bool true)) :: s, c⟩ K) (hf : b = false → SymQ X n ops l ⟨(d, .v (.bool false)) :: s, c⟩ K) : SymQ X n ops l ⟨s, c⟩ K := by
  intro e a w Q r hq
  obtain ⟨v, h1, h2⟩ := r.slots d _ hb
  have key : ∀ x, b = x → Rel X n e ⟨(d, .v (.bool x)) :: s, c⟩ a w := by
    intro x hx
    subst hx
    refine { r with slots := ?_ }
    intro i y hy
    rw [get_cons] at hy
    by_cases h : d = i
    · subst h
      simp only [if_true, Option.some.injEq] at hy
      subst hy
      exact ⟨v, h1, h2⟩
    · rw [if_neg h] at hy; exact r.slots i y hy
  cases b with
  | true => exact ht rfl e a w Q (key _ rfl) hq
  | false => exact hf rfl e a w Q (key _ rfl) hq

def flatV : AV → Option Value
  | .v x => some x
  | .s l => some (S l)
  | _ => none
theorem flatV_sound {G : IM} {r : AV} {v cr : Value} (h : flatV r = some v) (hr : RepI G r cr) : cr = v ∧ ∀ e, Rep e r v := by
  unfold flatV at h
  split at h
  · cases h; simp only [RepI] at hr; exact ⟨hr, fun e => Rep_v⟩
  · cases h; simp only [RepI] at hr; exact ⟨hr, fun e => Rep_s⟩
  · cases h

/-- A call in a region whose order is drawn, its outcome no memory. -/
theorem Q_call {f : FuncId} {dst : Nat} {args : Array Operand} {tys : Array TypeId} {ty : TypeId} {pos : String} {aft : Array Edge} {gd : Option (Nat × Bool)} {rest : List Oper} {avs : List AV} {x : AV} {v : Value}
    {s : List (Nat × AV)} {c : List Ch} (hf : FnP P f avs (· = x)) (hv : flatV x = some v) (hg : guardA ops ⟨s, c⟩ ⟨some dst, .call ⟨.value (.func f), args, tys⟩, ty, pos, aft, gd⟩ = some true) (ha : opds s args.toList = some avs) (himm : AV.imm.immL avs = true) (hd : Nat.blt dst n = true)
    (k : SymQ X n ops rest ⟨(dst, x) :: s, c⟩ K) :
    SymQ X n ops (⟨some dst, .call ⟨.value (.func f), args, tys⟩, ty, pos, aft, gd⟩ :: rest) ⟨s, c⟩ K := by
  intro e a w Q r hq
  unfold wpQuiet
  rw [if_pos (guardA_sound r hg)]
  refine ⟨v, fun w' hw' => ?_, ?_⟩
  · unfold Oper.quietAt
    rw [run_call hf.1 a.eval rfl w']
    refine ⟨rfl, ?_⟩
    have r' := r.below hw'
    have h1 := RepT.toI avs himm (opds_sound r' ha)
    have harr : args.map a.eval = (args.toList.map a.eval).toArray := by
      apply Array.ext'; simp
    rw [harr]
    refine (hf.2 e.G w' _ r'.im h1).mono ?_
    rintro en w'' ⟨rv, cr, G', rfl, rfl, g1, g2, g3, g4, g5⟩
    exact ⟨by rw [(flatV_sound hv g1).1], hw'.trans (g5.mono hw'.size)⟩
  · have hrep : Rep e x v := by
      unfold flatV at hv
      split at hv
      · cases hv; exact Rep_v
      · cases hv; exact Rep_s
      · cases hv
    exact k e _ w Q (r.put hd hrep) hq

/-- A region whose order is drawn, all of it quiet. -/
theorem C_draw {id : Nat} {Q : Exit → St → Prop} (hB : Region.lexB .any ops = true) (h : SymQ X n ops ops.toList st (fun s => Q .normal s)) : SymC X n (.region id ops true) st Q := by
  intro e a w r
  have hbel : Below w.heap.size w { w with drawn := w.drawn + 1 } := ⟨rfl, rfl, rfl, Nat.le_refl _, fun _ _ => rfl⟩
  refine wp_region_quiet (C := fun w' => Below w.heap.size w w') X.wide hB hbel ?_
  exact h e a w _ r (fun st' a' hk hr w' hw' => ⟨e, st', hr.below hw', hk⟩)
end
end Go.Sy
