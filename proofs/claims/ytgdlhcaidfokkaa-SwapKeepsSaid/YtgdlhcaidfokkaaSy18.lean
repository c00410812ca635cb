/- The symbolic walk, part 18: slice literals in regions whose order is drawn; bytes to text; contracts of the kit. -/
import Derived.Test.YtgdlhcaidfokkaaSy17
import Derived.Laws.BytesArg
import Derived.Scope
set_option linter.unusedSimpArgs false
set_option linter.unusedVariables false
namespace Go.Sy
open Go.RowKit

def bslA (T : Tab) (st : St) : Op → Option (Nat × Nat × Nat × List AV)
  | .buildSlice t len parts => (match T t, opdP st.s parts.toList with
    | some ⟨_, _, _, _, .slice el⟩, some ps => (match T el with
      | some ti => (match fillA (fun i => some (i * ti.size, ti.size)) (baseA ti.zero (len * ti.size)) ps with
        | some cs => (match Nat.ble (len * ti.size) 16777216 && Nat.blt 0 ti.size && Nat.blt 0 (len * ti.size) && AV.imm.immL cs with
          | true => some (el, ti.size, len, cs)
          | false => none)
        | none => none)
      | none => none)
    | _, _ => none)
  | _ => none

def numsA (row : Nat → List AV) : Nat → Nat → Option (List Int)
  | 0, _ => some []
  | m + 1, i => match row i, numsA row m (i + 1) with
    | [.v (.int .u8 n)], some l => some (n :: l)
    | _, _ => none

def bytesA (T : Tab) (st : St) : Op → Option AV
  | .convert src dst x => (match T src, T dst, opd st.s x with
    | some ⟨_, _, _, _, .slice el⟩, some ⟨_, _, _, _, .str⟩, some (.sl (m + 1) 1 row) => (match T el, numsA row (m + 1) 0 with
      | some ⟨_, _, _, _, .int .u8⟩, some l => some (.s (l.map fun n => UInt8.ofNat n.toNat))
      | _, _ => none)
    | some ⟨_, _, _, _, .slice el⟩, some ⟨_, _, _, _, .str⟩, some (.own k) => (match takeCh k st.c with
      | some (.vec _ _ 1 (m + 1) row, _) => (match T el, numsA row (m + 1) 0 with
        | some ⟨_, _, _, _, .int .u8⟩, some l => some (.s (l.map fun n => UInt8.ofNat n.toNat))
        | _, _ => none)
      | _ => none)
    | _, _, _ => none)
  | _ => none

theorem numsA_spec {row : Nat → List AV} : ∀ {m i : Nat} {l : List Int}, numsA row m i = some l → l.length = m ∧ ∀ j, j < m → row (i + j) = [.v (.int .u8 (l.getD j 0))]
  | 0, i, l, h => by simp only [numsA, Option.some.injEq] at h; subst h; exact ⟨rfl, fun j hj => by omega⟩
  | m + 1, i, l, h => by
    simp only [numsA] at h
    split at h
    · rename_i n l' h1 h2
      simp only [Option.some.injEq] at h
      subst h
      obtain ⟨g1, g2⟩ := numsA_spec h2
      refine ⟨by simp [g1], fun j hj => ?_⟩
      cases j with
      | zero => simpa using h1
      | succ j =>
        have := g2 j (by omega)
        rw [show i + (j + 1) = i + 1 + j by omega, this]
        rfl
    · cases h

section
variable {P : Program} {T : Tab} {X : Ctx P T} {n : Nat} {e : Env} {st : St} {a : Act} {w : World} {ops : Array Oper} {K : St → Prop}

theorem bslA_sound (r : Rel X n e st a w) {o : Oper} {el esz len : Nat} {cs : List AV} (h : bslA T st o.op = some (el, esz, len, cs)) :
    ∃ arr : Array Value, arr.size = len * esz ∧ len ≤ maxLen ∧ RowsL e.G esz len (chunkRow esz cs) arr.toList ∧
      ∀ w', (execOp a.eval o).run P w' = .ok (.value (.slice (some ⟨w'.heap.size, 0, none⟩) len len)) (w'.alloc (.cells arr el)) := by
  have hT := X.ok
  obtain ⟨dst, op, ty, pos, aft, gd⟩ := o
  simp only at h
  unfold bslA at h
  split at h
  · rename_i t len parts
    split at h
    · rename_i sz by_ ag zero el ps hTt hps
      split at h
      · rename_i ti hTe
        split at h
        · rename_i cs hcs
          split at h
          · rename_i hok
            simp only [Bool.and_eq_true] at hok
            obtain ⟨⟨⟨k1, k2⟩, k4⟩, k3⟩ := hok
            have k4 : 0 < len * ti.size := by have := k4; simp only [Nat.blt] at this; have := Nat.le_of_ble_eq_true this; omega
            have k1 := Nat.le_of_ble_eq_true k1
            have k2 : 0 < ti.size := by have := k2; simp only [Nat.blt] at this; have := Nat.le_of_ble_eq_true this; omega
            obtain ⟨pi, z, g1, g2, g3, g4, g5, g6, g7⟩ := (hT _ _ hTe).info
            obtain ⟨dd, e1, _, e3⟩ := (hT _ _ hTt).desc
            simp only [TDOK] at e3
            subst e3
            obtain ⟨q1, q2⟩ := opdP_sound r hps
            have hzs : z.cells.size = ti.size := by
              have : z.cells.toList.length = ti.size := by rw [g5]; exact g7
              simpa using this
            have hbase : RepL e (baseA ti.zero (len * ti.size)) ((Array.range (len * ti.size)).map (fun j => z.cells[j % z.cells.size]!)).toList := by
              refine RepL.mk (by simp [baseA]) (fun j c hc => ?_)
              unfold baseA at hc
              rw [List.getElem?_map] at hc
              have hj : j < len * ti.size := by
                rcases Nat.lt_or_ge j (len * ti.size) with h | h
                · exact h
                · rw [List.getElem?_eq_none (by simpa using h)] at hc; cases hc
              rw [List.getElem?_range hj] at hc
              simp only [Option.map_some, Option.some.injEq] at hc
              subst hc
              have hlt : j % z.cells.size < z.cells.size := Nat.mod_lt _ (by omega)
              have hge : ti.zero.getD (j % ti.zero.length) undef = z.cells[j % z.cells.size]! := by
                have hlen : ti.zero.length = z.cells.size := by rw [g7, hzs]
                rw [hlen, ← g5]
                simp [List.getD, hlt]
              refine ⟨z.cells[j % z.cells.size]!, by simp [hj], by rw [hge]; exact constA_sound e, ?_⟩
              have hmem : z.cells[j % z.cells.size]! ∈ ti.zero := by
                rw [← g5, getElem!_pos z.cells _ hlt]
                simp
              exact (List.all_eq_true.1 g6) _ hmem
            have hplace : ∀ (i : Nat) (q : Nat × Nat), (fun i => some (i * ti.size, ti.size)) i = some q → (fun i => some (i * ti.size, ti.size)) i = some q := fun _ _ h => h
            obtain ⟨out, o1, o2⟩ := fill_sound (e := e) hplace ps (parts.toList.map fun (i, x) => (i, a.eval x)) _ _ cs (by simp [q1]) q2 hbase hcs
            have hfl : ∀ (parts : List (Nat × AV)) (cells res : List AV), fillA (fun i => some (i * ti.size, ti.size)) cells parts = some res → res.length = cells.length := by
              intro parts
              induction parts with
              | nil => intro cells res h; simp only [fillA, Option.some.injEq] at h; rw [h]
              | cons p parts ih =>
                intro cells res h
                obtain ⟨i, x⟩ := p
                simp only [fillA] at h
                split at h
                · rename_i hok2
                  simp only [Bool.and_eq_true] at hok2
                  have u1 := Nat.eq_of_beq_eq_true hok2.1.1
                  have u2 := Nat.le_of_ble_eq_true hok2.1.2
                  rw [normL_eq] at h
                  rw [ih _ _ h]
                  simp [splice]
                  omega
                · cases h
            have hcl : cs.length = len * ti.size := by rw [hfl _ _ _ hcs]; simp [baseA]
            have hol : out.size = len * ti.size := by have := RepL.len o2; simp at this; omega
            simp only [Option.some.injEq, Prod.mk.injEq] at h
            obtain ⟨rfl, rfl, rfl, rfl⟩ := h
            have hm : len ≤ maxLen := by
              have : len * 1 ≤ len * ti.size := Nat.mul_le_mul_left _ k2
              simp only [maxLen]; omega
            refine ⟨out, hol, hm, rows_chunk (RepL.toI cs k3 o2) hcl, fun w' => ?_⟩
            have hn0 : ¬ len * ti.size > 2 ^ 24 := by omega
            simp only [execOp, Instr.buildSlice, Sem.run_bind, run_underlying e1, Result.andThen_ok, hT.size hTe, hn0, if_false, Sem.run_pure]
            have hz : ¬ len * ti.size = 0 := by omega
            simp only [hz, if_false, Sem.run_bind, zeroValue, typeInfo, run_program, Result.andThen_ok, g1, Sem.run_pure, g4, Array.toList_map, newRow]
            rw [o1]
            rfl
          · cases h
        · cases h
      · cases h
    · cases h
  · cases h

/-- More is known of memory, as a call that has come back tells. -/
theorem Rel.more {S : List (Nat × AV)} {c : List Ch} {G' : IM} {w' : World} (r : Rel X n e ⟨S, c⟩ a w) (g2 : IM.le e.G G') (g3 : ∀ b o v, G' b o = some v → e.G b o = some v ∨ w.heap.size ≤ b) (g4 : ImOK G' w') (g5 : Below w.heap.size w w') :
    Rel X n ⟨G', e.μ, e.hd⟩ ⟨S, c⟩ a w' :=
  { defers := r.defers
    size := r.size
    slots := fun i x hx => by
      obtain ⟨v, q1, q2⟩ := r.slots i x hx
      exact ⟨v, q1, Rep.mono (e := e) (f := ⟨G', e.μ, e.hd⟩) g2 x (fun _ _ => ⟨rfl, rfl⟩) q2⟩
    im := g4
    heap := HeapOK.grow r.heap g2 (fun _ _ _ _ => ⟨rfl, rfl⟩) (fun b hb => g5.block b hb) g5.size (fun b o hb h0 => by
      cases hg : G' b o with
      | none => exact hg
      | some v =>
        rcases g3 b o v hg with h | h
        · rw [h0] at h; cases h
        · omega)
    le := IM.le_trans r.le g2
    new := fun b o v hv => by
      rcases g3 b o v hv with h | h
      · exact r.new b o v h
      · exact .inr (.inl (Nat.le_trans r.sz h))
    os := g5.os.trans r.os
    tape := g5.tape.trans r.tape
    output := g5.output.trans r.output
    sz := Nat.le_trans r.sz g5.size
    fix := r.fix
    keep := fun b hb hbs => (g5.block b (Nat.lt_of_lt_of_le hb r.sz)).trans (r.keep b hb hbs) }

def stepDS {P : Program} {T : Tab} (X : Ctx P T) (n : Nat) (ops : Array Oper) (base : List (Nat × AV)) (c : List Ch) (K : St → Prop) : List Oper → Done → Option Prop
  | [], _ => none
  | o :: rest, done => normG (availL done o.after.toList base) fun Si => match guardA ops ⟨Si, c⟩ o, dstOK n o.dst, bslA T ⟨Si, c⟩ o.op with
    | some true, true, some (el, esz, len, cs) => normL cs fun cs => normG (done ++ [(o.dst, .sl len esz (chunkRow esz cs))]) fun done => some (SymD X n ops base c K rest done)
    | _, _, _ => none

/-- A slice literal in a region whose order is drawn: it is read alone. -/
theorem sds {base : List (Nat × AV)} {c : List Ch} {l : List Oper} {done : Done} {p : Prop} (h : stepDS X n ops base c K l done = some p) (hp : p) : SymD X n ops base c K l done := by
  cases l with
  | nil => simp [stepDS] at h
  | cons o rest =>
    simp only [stepDS, normG_eq] at h
    split at h
    · rename_i el esz len cs hg hd hb
      simp only [normL_eq, normG_eq, Option.some.injEq] at h
      subst h
      refine ⟨_, fun e a w S K' Q r hS hk => ?_, hp⟩
      have r' : Rel X n e ⟨availL done o.after.toList base, c⟩ a w := r.less hS (fun h => h)
      rw [if_pos (guardA_sound r' hg)]
      obtain ⟨arr, b1, b2, b3, b4⟩ := bslA_sound r' hb
      refine .inl ?_
      unfold Oper.wp
      rw [b4 w]
      let G' : IM := fun b oo => if b = w.heap.size then arr.toList[oo]? else e.G b oo
      have hlt : ∀ b o v, e.G b o = some v → b < w.heap.size := fun b o v h => Go.block_lt_of_cell (r.im b o v h)
      have hle : IM.le e.G G' := by
        intro b o v hv
        show (if b = w.heap.size then arr.toList[o]? else e.G b o) = some v
        rw [if_neg (by have := hlt b o v hv; omega)]
        exact hv
      have hnew : (w.alloc (.cells arr el)).heap[w.heap.size]? = some (.cells arr el (0, 0)) := Go.heap_alloc_new w _
      have him : ImOK G' (w.alloc (.cells arr el)) := by
        intro b o v hv
        have hv' : (if b = w.heap.size then arr.toList[o]? else e.G b o) = some v := hv
        split at hv'
        · rename_i hb; subst hb
          rw [cell_of_row _ _ o arr el (0, 0) hnew]
          simpa using hv'
        · have h1 := r.im b o v hv'
          simp only [World.cell?] at h1 ⊢
          rw [Go.heap_alloc_old w _ (hlt b o v hv')]
          exact h1
      have r2 := r.more hle (fun b o v hv => by
        have hv' : (if b = w.heap.size then arr.toList[o]? else e.G b o) = some v := hv
        split at hv'
        · rename_i hb; exact .inr (by omega)
        · exact .inl hv') him ⟨rfl, rfl, rfl, by simp, fun b hb => Go.heap_alloc_old w _ hb⟩
      refine hk _ _ _ (putOK r2 hd ?_)
      simp only [Rep, RepI]
      refine ⟨_, len, rfl, Nat.le_refl _, .inr ⟨w.heap.size, 0, rfl, fun q hq => CellsAt.mk (fun j x hx => ?_)⟩⟩
      obtain ⟨z, z1, z2, z3⟩ := (b3 q hq).get j x hx
      have hj : j < esz := by
        rcases Nat.lt_or_ge j esz with h | h
        · exact h
        · rw [List.getElem?_eq_none (by simp; omega)] at z1; cases z1
      refine ⟨z, ?_, RepI.mono hle x z2, z3⟩
      show (if w.heap.size = w.heap.size then arr.toList[0 + q * esz + j]? else _) = some z
      rw [if_pos rfl, Nat.zero_add]
      rw [List.getElem?_take, if_pos hj, List.getElem?_drop] at z1
      exact z1
    · cases h

theorem bytesA_sound (r : Rel X n e st a w) {o : Oper} {av : AV} (h : bytesA T st o.op = some av) : ∃ v, Rep e av v ∧ ∀ w', SameAs w w' → (execOp a.eval o).run P w' = .ok (.value v) w' := by
  have hT := X.ok
  obtain ⟨dst, op, ty, pos, aft, gd⟩ := o
  simp only at h
  unfold bytesA at h
  split at h
  · rename_i src dst' x
    have key : ∀ {el m : Nat} {row : Nat → List AV} {l : List Int} {b off cap : Nat} {s1 s2 s3 s4 : Nat} {g1 g2 g3 : Bool} {z1 z2 z3 : List Value} {s5 s6 : Nat}, T src = some ⟨s1, s2, g1, z1, .slice el⟩ → T dst' = some ⟨s3, s4, g2, z2, .str⟩ → T el = some ⟨s5, s6, g3, z3, .int .u8⟩ → numsA row m 0 = some l →
        a.eval x = .slice (some ⟨b, off, none⟩) m cap → (∀ i, i < m → Readable e w b (off + i) (row i)) →
        ∃ v, Rep e (.s (l.map fun n => UInt8.ofNat n.toNat)) v ∧ ∀ w', SameAs w w' → (execOp a.eval ⟨dst, .convert src dst' x, ty, pos, aft, gd⟩).run P w' = .ok (.value v) w' := by
      intro el m row l b off cap s1 s2 s3 s4 g1 g2 g3 z1 z2 z3 s5 s6 t1 t2 t3 hn hx hr
      obtain ⟨d1, e1, _, e2⟩ := (hT _ _ t1).desc
      obtain ⟨d2, e3, _, e4⟩ := (hT _ _ t2).desc
      obtain ⟨d3, e5, _, e6⟩ := (hT _ _ t3).desc
      simp only [TDOK] at e2 e4 e6
      subst e2 e4 e6
      obtain ⟨n1, n2⟩ := numsA_spec hn
      refine ⟨S (l.map fun n => UInt8.ofNat n.toNat), Rep_s, fun w' hs => ?_⟩
      have := run_convert_bytes_arg (P := P) w' src el e1 e5 b off m cap l n1 (fun i hi => by
        have h0 := n2 i hi
        rw [Nat.zero_add] at h0
        obtain ⟨z, z1, z2, z3⟩ := hr i hi 0 (.v (.int .u8 (l.getD i 0))) (by rw [h0]; rfl)
        simp only [Rep] at z2
        subst z2
        exact hs.cell z1) dst' e3
      simp only [execOp, hx, Sem.run_bind, this, Result.andThen_ok, Sem.run_pure]
      rfl
    split at h
    · rename_i s1 s2 g1 z1 el s3 s4 g2 z2 m row t1 t2 hx
      split at h
      · rename_i s5 s6 g3 z3 l t3 hn
        simp only [Option.some.injEq] at h
        subst h
        have := opd_sound r hx
        simp only [Rep, RepI] at this
        obtain ⟨aa, cap, e1, e2, e3⟩ := this
        rcases e3 with e3 | ⟨b, o, rfl, e3⟩
        · omega
        · refine key t1 t2 t3 hn e1 (fun i hi => ?_)
          have := readable_cp r (e3 i hi)
          simpa using this
      · cases h
    · rename_i s1 s2 g1 z1 el s3 s4 g2 z2 k t1 t2 hx
      split at h
      · rename_i kk tt m row rest htk
        split at h
        · rename_i s5 s6 g3 z3 l t3 hn
          simp only [Option.some.injEq] at h
          subst h
          have := opd_sound r hx
          simp only [Rep] at this
          obtain ⟨hx', _⟩ := this
          obtain ⟨cap, e1, _⟩ := r.heap.vecread htk (i := 0) (by omega)
          rw [e1] at hx'
          refine key t1 t2 t3 hn hx' (fun i hi => ?_)
          obtain ⟨_, _, e2⟩ := r.heap.vecread htk (i := i) hi
          simpa using e2
        · cases h
      · cases h
    · cases h
  · cases h

def stepDV {P : Program} {T : Tab} (X : Ctx P T) (n : Nat) (ops : Array Oper) (base : List (Nat × AV)) (c : List Ch) (K : St → Prop) : List Oper → Done → Option Prop
  | [], _ => none
  | o :: rest, done => normG (availL done o.after.toList base) fun Si => match guardA ops ⟨Si, c⟩ o, dstOK n o.dst, bytesA T ⟨Si, c⟩ o.op with
    | some true, true, some x => normG (done ++ [(o.dst, x)]) fun done => some (SymD X n ops base c K rest done)
    | _, _, _ => none

/-- Bytes to text, in a region whose order is drawn. -/
theorem sdv {base : List (Nat × AV)} {c : List Ch} {l : List Oper} {done : Done} {p : Prop} (h : stepDV X n ops base c K l done = some p) (hp : p) : SymD X n ops base c K l done := by
  cases l with
  | nil => simp [stepDV] at h
  | cons o rest =>
    simp only [stepDV, normG_eq] at h
    split at h
    · rename_i x hg hd hb
      simp only [Option.some.injEq] at h
      subst h
      exact D_val x hg hd (fun e a w r => bytesA_sound r hb) hp
    · cases h

def stepV {P : Program} {T : Tab} (X : Ctx P T) (n : Nat) (ops : Array Oper) (K : St → Prop) : List Oper → St → Option Prop
  | [], _ => none
  | o :: rest, st => match guardA ops st o, bytesA T st o.op with
    | some true, some x => putK n o.dst x st (fun s => SymO X n ops rest s K)
    | _, _ => none

/-- Bytes to text. -/
theorem sv {l : List Oper} {p : Prop} (h : stepV X n ops K l st = some p) (hp : p) : SymO X n ops l st K := by
  cases l with
  | nil => simp [stepV] at h
  | cons o rest =>
    intro e a w Q r hq
    simp only [stepV] at h
    split at h
    · rename_i x hg hb
      obtain ⟨v, h2, h1⟩ := bytesA_sound r hb
      obtain ⟨st', s1, s2⟩ := putK_sound r h hp h2
      unfold wpList
      rw [if_pos (guardA_sound r hg)]
      refine .inl ?_
      unfold Oper.wp
      rw [h1 w (SameAs.refl w)]
      exact s1 e _ w Q s2 hq
    · cases h
/-- A scope of labels to which nothing leaps. -/
theorem C_scope {X : Ctx P T} {n : Nat} {st : St} {c : Code} {Q : Exit → St → Prop} (h : SymC X n c st (fun ex s => match ex with
    | .goto _ => False
    | ex => Q ex s)) : SymC X n (.scope c) st Q := by
  intro e a w r
  refine wp_scope_straight (Code.wp_mono (fun ex a' w' hc => ?_) (h e a w r))
  cases ex with
  | goto l => obtain ⟨e', st', h1, h2⟩ := hc; exact h2.elim
  | normal => exact hc
  | exit id => exact hc
  | ret => exact hc
  | panic ch => exact hc
  | outgrown => exact hc
end

def flatL : List AV → Option (List Value)
  | [] => some []
  | x :: xs => match flatV x, flatL xs with
    | some v, some vs => some (v :: vs)
    | _, _ => none
theorem flatL_sound {G : IM} : ∀ {avs : List AV} {vs cargs : List Value}, flatL avs = some vs → RepIT G avs cargs → cargs = vs
  | [], vs, cargs, h, r => by simp only [flatL, Option.some.injEq] at h; subst h; simpa [RepIT] using r
  | x :: xs, vs, cargs, h, r => by
    simp only [flatL] at h
    split at h
    · rename_i v vs' h1 h2
      simp only [Option.some.injEq] at h
      subst h
      simp only [RepIT] at r
      obtain ⟨z, zs, rfl, r1, r2⟩ := r
      rw [(flatV_sound h1 r1).1, flatL_sound h2 r2]
    · cases h

/-- A contract that was proved elsewhere, of numbers and texts. -/
theorem FnP.ofCalls {P : Program} {f : FuncId} {avs : List AV} {vs : List Value} {x : AV} {v : Value} (hc : Callable P f) (ha : flatL avs = some vs) (hx : flatV x = some v) (hxi : ∀ G, RepI G x v)
    (h : ∀ w, Calls P f vs.toArray w fun e w' => e = .returned v ∧ Below w.heap.size w w') : FnP P f avs (· = x) := by
  refine ⟨hc, fun G w cargs him hr => ?_⟩
  rw [flatL_sound ha hr]
  refine (h w).mono ?_
  rintro e w' ⟨rfl, hb⟩
  exact ⟨x, v, G, rfl, rfl, hxi G, IM.le_refl _, fun b o u hu => .inl hu, fun b o u hu => by
    have h1 := him b o u hu
    have h2 := Go.block_lt_of_cell h1
    simp only [World.cell?] at h1 ⊢
    rw [hb.block b h2]
    exact h1, hb⟩
end Go.Sy
