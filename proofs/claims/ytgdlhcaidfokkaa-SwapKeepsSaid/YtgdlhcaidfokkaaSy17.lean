/- The symbolic walk, part 17: values built, and compared, in regions whose order is drawn. -/
import Derived.Test.YtgdlhcaidfokkaaSy16
import Derived.Laws.StructEq
set_option linter.unusedSimpArgs false
set_option linter.unusedVariables false
namespace Go.Sy
open Go.RowKit

def buildA (T : Tab) (st : St) : Op → Option AV
  | .build t parts => (match T t with
    | some ⟨_, _, _, zero, .struct fs⟩ => (match opdP st.s parts.toList with
      | some ps => (match fillA (fs[·]?) (zero.map constA) ps with
        | some cs => some (.agg cs)
        | none => none)
      | none => none)
    | _ => none)
  | _ => none

section
variable {P : Program} {T : Tab} {X : Ctx P T} {n : Nat} {e : Env} {st : St} {a : Act} {w : World} {ops : Array Oper} {K : St → Prop}

theorem buildA_sound (r : Rel X n e st a w) {o : Oper} {av : AV} (h : buildA T st o.op = some av) : ∃ v, Rep e av v ∧ ∀ w', (execOp a.eval o).run P w' = .ok (.value v) w' := by
  have hT := X.ok
  obtain ⟨dst, op, ty, pos, aft, gd⟩ := o
  simp only at h
  unfold buildA at h
  split at h
  · rename_i t parts
    split at h
    · rename_i sz by_ ag zero fs hTt
      split at h
      · rename_i ps hps
        split at h
        · rename_i cs hcs
          simp only [Option.some.injEq] at h
          subst h
          obtain ⟨pi, z, g1, g2, g3, g4, g5, g6, g7⟩ := (hT _ _ hTt).info
          obtain ⟨d, e1, _, e3⟩ := (hT _ _ hTt).desc
          simp only [TDOK] at e3
          obtain ⟨fields, rfl, e4, e5⟩ := e3
          obtain ⟨q1, q2⟩ := opdP_sound r hps
          simp only at g5 g6
          have hplace : ∀ (i : Nat) (q : Nat × Nat), fs[i]? = some q → (fields.map fun f => (f.offset, P.cellsOf f.type))[i]? = some q := by
            intro i q hq
            rw [← e4] at hq
            simpa using hq
          obtain ⟨out, o1, o2⟩ := fill_sound (e := e) hplace ps (parts.toList.map fun (i, x) => (i, a.eval x)) _ z.cells cs (by simp [q1]) q2 (by rw [g5]; exact zero_sound e g6) hcs
          refine ⟨.agg out, by simp only [Rep]; exact ⟨_, rfl, o2⟩, fun w' => ?_⟩
          have hmm := run_places (w := w') fields e5
          simp only [execOp, Instr.build, Sem.run_bind, zeroValue, typeInfo, run_program, Result.andThen_ok, g1, Sem.run_pure, g4, run_underlying e1, hmm, Array.toList_map]
          rw [o1]
          rfl
        · cases h
      · cases h
    · cases h
  · cases h

/-- A value of which it is shown what it is. -/
theorem D_val {base : List (Nat × AV)} {c : List Ch} {o : Oper} {rest : List Oper} {done : Done} (x : AV) (hg : guardA ops ⟨availL done o.after.toList base, c⟩ o = some true) (hd : dstOK n o.dst = true)
    (hrun : ∀ e a w, Rel X n e ⟨availL done o.after.toList base, c⟩ a w → ∃ v, Rep e x v ∧ ∀ w', SameAs w w' → (execOp a.eval o).run P w' = .ok (.value v) w')
    (k : SymD X n ops base c K rest (done ++ [(o.dst, x)])) : SymD X n ops base c K (o :: rest) done := by
  refine ⟨x, fun e a w S K' Q r hS hk => ?_, k⟩
  have r' : Rel X n e ⟨availL done o.after.toList base, c⟩ a w := r.less hS (fun h => h)
  rw [if_pos (guardA_sound r' hg)]
  obtain ⟨v, h2, h1⟩ := hrun e a w r'
  refine .inl ?_
  unfold Oper.wp
  rw [h1 w (SameAs.refl w)]
  exact hk _ _ _ (putOK r hd h2)

def stepDB {P : Program} {T : Tab} (X : Ctx P T) (n : Nat) (ops : Array Oper) (base : List (Nat × AV)) (c : List Ch) (K : St → Prop) : List Oper → Done → Option Prop
  | [], _ => none
  | o :: rest, done => normG (availL done o.after.toList base) fun Si => match guardA ops ⟨Si, c⟩ o, dstOK n o.dst, buildA T ⟨Si, c⟩ o.op with
    | some true, true, some x => normA x fun x => normG (done ++ [(o.dst, x)]) fun done => some (SymD X n ops base c K rest done)
    | _, _, _ => none

/-- A struct that is built in a region whose order is drawn. -/
theorem sdb {base : List (Nat × AV)} {c : List Ch} {l : List Oper} {done : Done} {p : Prop} (h : stepDB X n ops base c K l done = some p) (hp : p) : SymD X n ops base c K l done := by
  cases l with
  | nil => simp [stepDB] at h
  | cons o rest =>
    simp only [stepDB, normG_eq] at h
    split at h
    · rename_i x hg hd hb
      simp only [normA_eq, normG_eq, Option.some.injEq] at h
      subst h
      exact D_val x hg hd (fun e a w r => let ⟨v, h1, h2⟩ := buildA_sound r hb; ⟨v, h1, fun w' _ => h2 w'⟩) hp
    · cases h

/-- Two structs compared. -/
theorem run_cmp {t : Nat} {x y : Operand} {ty : Nat} {ρ : Operand → Value} {xs ys : Array Value} {b : Bool} {op : BinOp} {dst : Option Tmp} {uy : TypeId} {pos : String} {aft : Array Edge} {gd : Option (Nat × Bool)} (hx : ρ x = .agg xs) (hy : ρ y = .agg ys) (hm : P.eqGuardType P.depth t = false)
    (hb : ∀ w : World, (binOp op t (.agg xs) (.agg ys)).run P w = .ok (.bool b) w) (w : World) :
    (execOp ρ ⟨dst, .binOp op t x y uy, ty, pos, aft, gd⟩).run P w = .ok (.value (.bool b)) w := by
  simp only [execOp, hx, hy, Sem.run_bind, run_eqGuard_agg w op t x y xs ys hm, Result.andThen_ok, hb, Sem.run_pure]
end
end Go.Sy
