/- The symbolic walk, part 6: one step at a time; calls by contract; loops. -/
import Derived.Test.YtgdlhcaidfokkaaSy5
import Derived.Deep.LoopGhost
set_option linter.unusedSimpArgs false
set_option linter.unusedVariables false
namespace Go.Sy
open Go.RowKit

def putK (n : Nat) (d : Option Tmp) (x : AV) (st : St) (k : St → Prop) : Option Prop :=
  match d with
  | none => some (k st)
  | some d => match Nat.blt d n, st with
    | true, ⟨s, c⟩ => normA x fun x => some (k ⟨(d, x) :: s, c⟩)
    | false, _ => none

def hasC (d : Nat) : List Ch → Bool
  | [] => false
  | c :: r => match Nat.beq c.id d with
    | true => true
    | false => hasC d r

def boxK (n d : Nat) (t : TypeId) (cells : List AV) (st : St) (k : St → Prop) : Option Prop :=
  match st with
  | ⟨s, c⟩ => match get s d, hasC d c with
    | none, false => (match Nat.blt d n && freshS d s && freshC d c && AV.no.noL d cells with
      | true => normL cells fun cells => some (k ⟨(d, .bp d 0) :: s, .box d t cells :: c⟩)
      | false => none)
    | _, _ => (match Nat.blt d n && freshS d (eraseS d s) && freshC d (eraseC d c) && AV.no.noL d cells with
      | true => normL cells fun cells => some (k ⟨(d, .bp d 0) :: eraseS d s, .box d t cells :: eraseC d c⟩)
      | false => none)

def opdP (s : List (Nat × AV)) : List (Nat × Operand) → Option (List (Nat × AV))
  | [] => some []
  | (i, o) :: r => match opd s o, opdP s r with
    | some x, some xs => some ((i, x) :: xs)
    | _, _ => none

def opds (s : List (Nat × AV)) : List Operand → Option (List AV)
  | [] => some []
  | o :: r => match opd s o, opds s r with
    | some x, some xs => some (x :: xs)
    | _, _ => none

def memOp (T : Tab) (n : Nat) (dst : Option Tmp) (op : Op) (st : St) (k : St → Prop) : Option Prop :=
  match op with
  | .alloc t => (match dst, T t with
    | some d, some i => boxK n d t (i.zero.map constA) st k
    | _, _ => none)
  | .box t x => (match dst, opd st.s x with
    | some d, some av => (match boxable av with
      | true => boxK n d t (cellsA av) st k
      | false => none)
    | _, _ => none)
  | .store t a x => (match dst, T t, opd st.s a, opd st.s x with
    | none, some i, some (.bp b o), some av => (match takeCh b st.c with
      | some (.box kk tt cells, rest) => (match boxable av && Nat.beq (cellsA av).length i.size && Nat.ble (o + i.size) cells.length with
        | true => (match st with
          | ⟨s, _⟩ => normL (splice cells o (cellsA av)) fun new => some (k ⟨s, .box kk tt new :: rest⟩))
        | false => none)
      | _ => none)
    | _, _, _, _ => none)
  | .build t parts => (match T t with
    | some ⟨_, _, _, zero, .struct fs⟩ => (match opdP st.s parts.toList with
      | some ps => (match fillA (fs[·]?) (zero.map constA) ps with
        | some cs => putK n dst (.agg cs) st k
        | none => none)
      | none => none)
    | some ⟨_, _, _, zero, .arr _ el⟩ => (match opdP st.s parts.toList, T el with
      | some ps, some ei => (match fillA (fun i => some (i * ei.size, ei.size)) (zero.map constA) ps with
        | some cs => putK n dst (.agg cs) st k
        | none => none)
      | _, _ => none)
    | _ => none)
  | _ => none

section
variable {P : Program} {T : Tab} {X : Ctx P T} {n : Nat} {e : Env} {st : St} {a : Act} {w : World}

theorem putK_sound {d : Option Tmp} {x : AV} {k : St → Prop} {p : Prop} (r : Rel X n e st a w) (h : putK n d x st k = some p) (hp : p) {v : Value} (hv : Rep e x v) : ∃ st', k st' ∧ Rel X n e st' (a.put d v) w := by
  unfold putK at h
  cases d with
  | none =>
    simp only [Option.some.injEq] at h
    subst h
    exact ⟨st, hp, by simpa [Act.put] using r⟩
  | some d =>
    simp only at h
    split at h
    · rename_i hb
      rw [normA_eq] at h
      simp only [Option.some.injEq] at h
      subst h
      exact ⟨_, hp, r.put hb hv⟩
    · cases h

theorem boxK_sound {d : Nat} {t : TypeId} {cells : List AV} {k : St → Prop} {p : Prop} (r : Rel X n e st a w) (h : boxK n d t cells st k = some p) (hp : p) {arr : Array Value} (hc : RepL e cells arr.toList) :
    ∃ e' st', k st' ∧ Rel X n e' st' (a.put (some d) (.pointer (some ⟨w.heap.size, 0, none⟩))) (w.alloc (.cells arr t)) := by
  obtain ⟨s, c⟩ := st
  simp only [boxK] at h
  split at h
  · split at h
    · rename_i hb
      simp only [Bool.and_eq_true] at hb
      obtain ⟨⟨⟨h1, h2⟩, h3⟩, h4⟩ := hb
      rw [normL_eq] at h
      simp only [Option.some.injEq] at h
      subst h
      exact ⟨_, _, hp, r.alloc h1 h2 h3 hc h4⟩
    · cases h
  · split at h
    · rename_i hb
      simp only [Bool.and_eq_true] at hb
      obtain ⟨⟨⟨h1, h2⟩, h3⟩, h4⟩ := hb
      rw [normL_eq] at h
      simp only [Option.some.injEq] at h
      subst h
      have r' : Rel X n e ⟨eraseS d s, eraseC d c⟩ a w := r.less (fun i x hx => by
        rw [get_eraseS] at hx
        split at hx
        · cases hx
        · exact hx) (fun hh => hh.erase d)
      exact ⟨_, _, hp, r'.alloc h1 h2 h3 hc h4⟩
    · cases h

theorem opdP_sound (r : Rel X n e st a w) : ∀ {ps : List (Nat × Operand)} {xs : List (Nat × AV)}, opdP st.s ps = some xs →
    xs.length = ps.length ∧ ∀ (j : Nat) (p : Nat × AV) (q : Nat × Value), xs[j]? = some p → (ps.map fun (i, x) => (i, a.eval x))[j]? = some q → p.1 = q.1 ∧ Rep e p.2 q.2
  | [], xs, h => by simp only [opdP, Option.some.injEq] at h; subst h; simp
  | (i, o) :: ps, xs, h => by
    simp only [opdP] at h
    split at h
    · rename_i x xs' h1 h2
      simp only [Option.some.injEq] at h
      subst h
      obtain ⟨g1, g2⟩ := opdP_sound r h2
      refine ⟨by simp [g1], fun j p q hp hq => ?_⟩
      cases j with
      | zero => simp at hp hq; subst hp hq; exact ⟨rfl, opd_sound r h1⟩
      | succ j => exact g2 j p q (by simpa using hp) (by simpa using hq)
    · cases h

theorem opds_sound (r : Rel X n e st a w) : ∀ {os : List Operand} {xs : List AV}, opds st.s os = some xs → RepT e xs (os.map a.eval)
  | [], xs, h => by simp only [opds, Option.some.injEq] at h; subst h; simp [RepT]
  | o :: os, xs, h => by
    simp only [opds] at h
    split at h
    · rename_i x xs' h1 h2
      simp only [Option.some.injEq] at h
      subst h
      simp only [List.map_cons, RepT]
      exact ⟨_, _, rfl, opd_sound r h1, opds_sound r h2⟩
    · cases h

theorem run_mapM_list {α β : Type} {P : Program} {w : World} {g : α → Sem β} {h : α → β} : ∀ (l : List α), (∀ x ∈ l, (g x).run P w = .ok (h x) w) → (l.mapM g).run P w = .ok (l.map h) w
  | [], _ => rfl
  | x :: l, hx => by
    have ih := run_mapM_list l (fun y hy => hx y (List.mem_cons_of_mem _ hy))
    simp only [List.mapM_cons, Sem.run_bind, hx x (List.mem_cons_self ..), Result.andThen_ok, ih, Sem.run_pure, List.map_cons]
theorem run_mapM_array {α β : Type} {P : Program} {w : World} {g : α → Sem β} {h : α → β} (l : Array α) (hx : ∀ x ∈ l, (g x).run P w = .ok (h x) w) : (l.mapM g).run P w = .ok (l.map h) w := by
  rw [Array.mapM_eq_mapM_toList, Sem.run_map, run_mapM_list l.toList (fun x hm => hx x (by simpa using hm))]
  simp only [Result.andThen_ok]
  congr 1
  apply Array.ext'
  simp
theorem run_places {P : Program} {w : World} (fields : Array Field) (h : ∀ f ∈ fields, (P.info? f.type).isSome = true) :
    (fields.mapM fun f => (do pure (f.offset, ← sizeOf f.type) : Sem (Nat × Nat))).run P w = .ok (fields.map fun f => (f.offset, P.cellsOf f.type)) w := by
  refine run_mapM_array fields (fun f hf => ?_)
  obtain ⟨fi, hfi⟩ := Option.isSome_iff_exists.1 (h f hf)
  simp [sizeOf, typeInfo, hfi, Program.cellsOf]

/-- What one operation's 'wp' is, where it yields a value or nothing. -/
theorem memOp_sound {o : Oper} {k : St → Prop} {p : Prop} (r : Rel X n e st a w) (h : memOp T n o.dst o.op st k = some p) (hp : p) {K : Act → World → Prop} {Q : Exit → Act → World → Prop}
    (hk : ∀ e' st' a' w', k st' → Rel X n e' st' a' w' → K a' w') : o.wp P a w K Q := by
  have hT := X.ok
  obtain ⟨dst, op, ty, pos, aft, gd⟩ := o
  simp only at h
  unfold memOp at h
  unfold Oper.wp
  split at h
  · rename_i t
    split at h
    · rename_i d i hTt
      obtain ⟨pi, z, g1, g2, g3, g4, g5, g6, g7⟩ := (hT _ _ hTt).info
      obtain ⟨e', st', h1, h2⟩ := boxK_sound r h hp (arr := z.cells) (by rw [g5]; exact zero_sound e g6)
      have : (execOp a.eval ⟨some d, .alloc t, ty, pos, aft, gd⟩).run P w = .ok (.value (.pointer (some ⟨w.heap.size, 0, none⟩))) (w.alloc (.cells z.cells t)) := by
        simp [execOp, Instr.alloc, zeroValue, typeInfo, g1, g4, newVar, newRow]
      rw [this]
      exact hk _ _ _ _ h1 h2
    · exact (by cases h)
  · rename_i t x
    split at h
    · rename_i d av hx
      split at h
      · rename_i hb
        obtain ⟨e', st', h1, h2⟩ := boxK_sound r h hp (arr := (a.eval x).cells) (cellsA_sound (opd_sound r hx) hb)
        have : (execOp a.eval ⟨some d, .box t x, ty, pos, aft, gd⟩).run P w = .ok (.value (.pointer (some ⟨w.heap.size, 0, none⟩))) (w.alloc (.cells (a.eval x).cells t)) := by
          simp [execOp, Instr.box, newVar, newRow]
        rw [this]
        exact hk _ _ _ _ h1 h2
      · exact (by cases h)
    · exact (by cases h)
  · rename_i t ad x
    split at h
    · rename_i i b o av hTt hb hx
      split at h
      · rename_i kk tt cells rest htk
        split at h
        · rename_i hok
          simp only [Bool.and_eq_true] at hok
          obtain ⟨⟨k1, k2⟩, k3⟩ := hok
          have k2 := Nat.eq_of_beq_eq_true k2
          have k3 := Nat.le_of_ble_eq_true k3
          have hkk : kk = b := kid_of_take htk
          subst hkk
          have hv := cellsA_sound (opd_sound r hx) k1
          have hbp := opd_sound r hb
          simp only [Rep] at hbp
          obtain ⟨w', g1, g2⟩ := r.write htk hv (o := o) (by omega)
          have hsz : (a.eval x).cells.size = i.size := by have := RepL.len hv; simp at this; omega
          have : (execOp a.eval ⟨none, .store t ad x, ty, pos, aft, gd⟩).run P w = .ok .skip w' := by
            simp only [execOp, Instr.storeAt, hbp, Instr.sureAddr, Sem.run_bind, Sem.run_pure, Result.andThen_ok, storeVar, hT.size hTt, hsz]
            simp [g1]
          rw [this]
          simp only [normL_eq, Option.some.injEq] at h
          subst h
          exact hk _ _ _ _ hp g2
        · exact (by cases h)
      · exact (by cases h)
    · exact (by cases h)
  · rename_i t parts
    split at h
    · rename_i sz by_ ag zero fs hTt
      split at h
      · rename_i ps hps
        split at h
        · rename_i cs hcs
          obtain ⟨pi, z, g1, g2, g3, g4, g5, g6, g7⟩ := (hT _ _ hTt).info
          obtain ⟨d, e1, _, e3⟩ := (hT _ _ hTt).desc
          simp only [TDOK] at e3
          obtain ⟨fields, rfl, e4, e5⟩ := e3
          obtain ⟨q1, q2⟩ := opdP_sound r hps
          simp only at g5 g6
          have hmm := run_places (w := w) fields e5
          have hplace : ∀ (i : Nat) (q : Nat × Nat), fs[i]? = some q → (fields.map fun f => (f.offset, P.cellsOf f.type))[i]? = some q := by
            intro i q hq
            rw [← e4] at hq
            simpa using hq
          obtain ⟨out, o1, o2⟩ := fill_sound (e := e) hplace ps (parts.toList.map fun (i, x) => (i, a.eval x)) _ z.cells cs (by simp [q1]) q2 (by rw [g5]; exact zero_sound e g6) hcs
          have : (execOp a.eval ⟨dst, .build t parts, ty, pos, aft, gd⟩).run P w = .ok (.value (.agg out)) w := by
            simp only [execOp, Instr.build, Sem.run_bind, zeroValue, typeInfo, run_program, Result.andThen_ok, g1, Sem.run_pure, g4, run_underlying e1, hmm, Array.toList_map]
            rw [o1]
            rfl
          rw [this]
          obtain ⟨st', s1, s2⟩ := putK_sound r h hp (v := .agg out) (by simp only [Rep]; exact ⟨_, rfl, o2⟩)
          exact hk _ _ _ _ s1 s2
        · exact (by cases h)
      · exact (by cases h)
    · rename_i sz by_ ag zero len el hTt
      split at h
      · rename_i ps ei hps hei
        split at h
        · rename_i cs hcs
          obtain ⟨pi, z, g1, g2, g3, g4, g5, g6, g7⟩ := (hT _ _ hTt).info
          obtain ⟨d, e1, _, e3⟩ := (hT _ _ hTt).desc
          simp only [TDOK] at e3
          subst e3
          obtain ⟨q1, q2⟩ := opdP_sound r hps
          simp only at g5 g6
          have hplace : ∀ (i : Nat) (q : Nat × Nat), (fun i => some (i * ei.size, ei.size)) i = some q → (fun i => some (i * ei.size, ei.size)) i = some q := fun _ _ h => h
          obtain ⟨out, o1, o2⟩ := fill_sound (e := e) hplace ps (parts.toList.map fun (i, x) => (i, a.eval x)) _ z.cells cs (by simp [q1]) q2 (by rw [g5]; exact zero_sound e g6) hcs
          have : (execOp a.eval ⟨dst, .build t parts, ty, pos, aft, gd⟩).run P w = .ok (.value (.agg out)) w := by
            simp only [execOp, Instr.build, Sem.run_bind, zeroValue, typeInfo, run_program, Result.andThen_ok, g1, Sem.run_pure, g4, run_underlying e1, hT.size hei, Array.toList_map]
            rw [o1]
            rfl
          rw [this]
          obtain ⟨st', s1, s2⟩ := putK_sound r h hp (v := .agg out) (by simp only [Rep]; exact ⟨_, rfl, o2⟩)
          exact hk _ _ _ _ s1 s2
        · exact (by cases h)
      · exact (by cases h)
    · exact (by cases h)
  · exact (by cases h)
end
end Go.Sy
