/- The symbolic walk, part 11: slice literals. -/
import Derived.Test.YtgdlhcaidfokkaaSy10
set_option linter.unusedSimpArgs false
set_option linter.unusedVariables false
namespace Go.Sy
open Go.RowKit

def chunkRow (esz : Nat) (cells : List AV) : Nat → List AV := fun i => (cells.drop (i * esz)).take esz

def baseA (zs : List Value) (n : Nat) : List AV := (List.range n).map fun j => constA (zs.getD (j % zs.length) undef)

def vecK (n d : Nat) (t esz m : Nat) (row : Nat → List AV) (st : St) (k : St → Prop) : Option Prop :=
  match st with
  | ⟨s, c⟩ => match get s d, hasC d c with
    | none, false => (match Nat.blt d n && freshS d s && freshC d c with
      | true => some (k ⟨(d, .own d) :: s, .vec d t esz m row :: c⟩)
      | false => none)
    | _, _ => (match Nat.blt d n && freshS d (eraseS d s) && freshC d (eraseC d c) with
      | true => some (k ⟨(d, .own d) :: eraseS d s, .vec d t esz m row :: eraseC d c⟩)
      | false => none)

/-- All parts, one behind the other. -/
def denseA (esz : Nat) : Nat → List (Nat × AV) → Option (List AV)
  | _, [] => some []
  | i, (j, x) :: r => match Nat.beq i j && Nat.beq (cellsA x).length esz && boxable x, denseA esz (i + 1) r with
    | true, some cs => some (cellsA x ++ cs)
    | _, _ => none

def bslK (T : Tab) (n : Nat) (dst : Option Tmp) (op : Op) (st : St) (k : St → Prop) : Option Prop :=
  match op, dst with
  | .buildSlice t len parts, some d => (match T t, opdP st.s parts.toList with
    | some ⟨_, _, _, _, .slice el⟩, some ps => (match T el with
      | some ti => (match fillA (fun i => some (i * ti.size, ti.size)) (baseA ti.zero (len * ti.size)) ps with
        | some cs => (match Nat.ble (len * ti.size) 16777216 && Nat.blt 0 ti.size && Nat.blt 0 (len * ti.size) && AV.imm.immL cs with
          | true => vecK n d el ti.size len (chunkRow ti.size cs) st k
          | false => none)
        | none => none)
      | none => none)
    | _, _ => none)
  | _, _ => none

def stepB {P : Program} {T : Tab} (X : Ctx P T) (n : Nat) (ops : Array Oper) (K : St → Prop) : List Oper → St → Option Prop
  | [], _ => none
  | o :: rest, st => match guardA ops st o with
    | some true => bslK T n o.dst o.op st (fun s => SymO X n ops rest s K)
    | _ => none

section
variable {P : Program} {T : Tab} {X : Ctx P T} {n : Nat} {e : Env} {st : St} {a : Act} {w : World} {ops : Array Oper} {K : St → Prop}

theorem Rel.newvec (r : Rel X n e st a w) {d : Nat} {t esz m : Nat} {row : Nat → List AV} {arr : Array Value} (hd : Nat.blt d n = true) (hf : freshS d st.s = true) (hc : freshC d st.c = true)
    (hsz : arr.size = m * esz) (hm : m ≤ maxLen) (hrows : RowsL e.G esz m row arr.toList) :
    Rel X n { e with hd := upd e.hd d (.slice (some ⟨w.heap.size, 0, none⟩) m m) } ⟨(d, .own d) :: st.s, .vec d t esz m row :: st.c⟩ (a.put (some d) (.slice (some ⟨w.heap.size, 0, none⟩) m m)) (w.alloc (.cells arr t)) := by
  refine r.vec (old := none) (xs := arr.toList) (s := st.s) (c := st.c) (c' := st.c) hd (fun _ _ h => h) hf hc r.heap (fun b hb => by cases hb) (fun b hb => by cases hb) ?_ hrows (World.grownBy_alloc w _ none) ?_
  · exact ⟨by simpa using hsz, .inr ⟨w.heap.size, m, arr, rfl, Nat.zero_le _, Go.heap_alloc_new w _, Nat.le_refl _, hm, hsz, List.take_of_length_le (by rw [Array.length_toList]; omega)⟩⟩
  · intro b hb
    simp [Value.ownBlock] at hb
    subst hb
    exact ⟨by simp, .inr (Nat.le_refl _)⟩

theorem vecK_sound {d : Nat} {t esz m : Nat} {row : Nat → List AV} {k : St → Prop} {p : Prop} (r : Rel X n e st a w) (h : vecK n d t esz m row st k = some p) (hp : p) {arr : Array Value}
    (hsz : arr.size = m * esz) (hm : m ≤ maxLen) (hrows : RowsL e.G esz m row arr.toList) :
    ∃ e' st', k st' ∧ Rel X n e' st' (a.put (some d) (.slice (some ⟨w.heap.size, 0, none⟩) m m)) (w.alloc (.cells arr t)) := by
  obtain ⟨s, c⟩ := st
  simp only [vecK] at h
  split at h
  · split at h
    · rename_i hb
      simp only [Bool.and_eq_true] at hb
      obtain ⟨⟨h1, h2⟩, h3⟩ := hb
      simp only [Option.some.injEq] at h
      subst h
      exact ⟨_, _, hp, r.newvec h1 h2 h3 hsz hm hrows⟩
    · cases h
  · split at h
    · rename_i hb
      simp only [Bool.and_eq_true] at hb
      obtain ⟨⟨h1, h2⟩, h3⟩ := hb
      simp only [Option.some.injEq] at h
      subst h
      have r' : Rel X n e ⟨eraseS d s, eraseC d c⟩ a w := r.less (fun i x hx => by
        rw [get_eraseS] at hx
        split at hx
        · cases hx
        · exact hx) (fun hh => hh.erase d)
      exact ⟨_, _, hp, r'.newvec h1 h2 h3 hsz hm hrows⟩
    · cases h

theorem rows_chunk {G : IM} {esz m : Nat} {cs : List AV} {ys : List Value} (h : RepIL G cs ys) (hl : cs.length = m * esz) : RowsL G esz m (chunkRow esz cs) ys := by
  intro i hi
  have hle : i * esz + esz ≤ m * esz := by have := Nat.mul_le_mul_right esz hi; rw [Nat.succ_mul] at this; exact this
  have hyl := RepIL.len h
  refine RepIL.mk (by simp [chunkRow]; omega) (fun j c hc => ?_)
  unfold chunkRow at hc
  have hj : j < esz := by
    rcases Nat.lt_or_ge j esz with h | h
    · exact h
    · rw [List.getElem?_eq_none (by simp; omega)] at hc; cases hc
  rw [List.getElem?_take, if_pos hj, List.getElem?_drop] at hc
  obtain ⟨z, z1, z2, z3⟩ := h.get _ _ hc
  exact ⟨z, by rw [List.getElem?_take, if_pos hj, List.getElem?_drop]; exact z1, z2, z3⟩

theorem bslK_sound {o : Oper} {k : St → Prop} {p : Prop} (r : Rel X n e st a w) (h : bslK T n o.dst o.op st k = some p) (hp : p) {K : Act → World → Prop} {Q : Exit → Act → World → Prop}
    (hk : ∀ e' st' a' w', k st' → Rel X n e' st' a' w' → K a' w') : o.wp P a w K Q := by
  have hT := X.ok
  obtain ⟨dst, op, ty, pos, aft, gd⟩ := o
  simp only at h
  unfold bslK at h
  unfold Oper.wp
  split at h
  · rename_i t len parts d
    split at h
    · rename_i sz by_ ag zero el ps hTt hps
      split at h
      · rename_i ti hTe
        split at h
        · rename_i cs hcs
          split at h
          · rename_i hok
            simp only [Bool.and_eq_true] at hok
            obtain ⟨⟨⟨k1, k2⟩, k4⟩, k3⟩ := hok
            have k4 : 0 < len * ti.size := by have := k4; simp only [Nat.blt] at this; have := Nat.le_of_ble_eq_true this; omega
            have k1 := Nat.le_of_ble_eq_true k1
            have k2 : 0 < ti.size := by have := k2; simp only [Nat.blt] at this; have := Nat.le_of_ble_eq_true this; omega
            obtain ⟨pi, z, g1, g2, g3, g4, g5, g6, g7⟩ := (hT _ _ hTe).info
            obtain ⟨dd, e1, _, e3⟩ := (hT _ _ hTt).desc
            simp only [TDOK] at e3
            subst e3
            obtain ⟨q1, q2⟩ := opdP_sound r hps
            have hzs : z.cells.size = ti.size := by
              have : z.cells.toList.length = ti.size := by rw [g5]; exact g7
              simpa using this
            have hbase : RepL e (baseA ti.zero (len * ti.size)) ((Array.range (len * ti.size)).map (fun j => z.cells[j % z.cells.size]!)).toList := by
              refine RepL.mk (by simp [baseA]) (fun j c hc => ?_)
              unfold baseA at hc
              rw [List.getElem?_map] at hc
              have hj : j < len * ti.size := by
                rcases Nat.lt_or_ge j (len * ti.size) with h | h
                · exact h
                · rw [List.getElem?_eq_none (by simpa using h)] at hc; cases hc
              rw [List.getElem?_range hj] at hc
              simp only [Option.map_some, Option.some.injEq] at hc
              subst hc
              have hlt : j % z.cells.size < z.cells.size := Nat.mod_lt _ (by omega)
              have hge : ti.zero.getD (j % ti.zero.length) undef = z.cells[j % z.cells.size]! := by
                have hlen : ti.zero.length = z.cells.size := by rw [g7, hzs]
                rw [hlen, ← g5]
                simp [List.getD, hlt]
              refine ⟨z.cells[j % z.cells.size]!, by simp [hj], by rw [hge]; exact constA_sound e, ?_⟩
              have hmem : z.cells[j % z.cells.size]! ∈ ti.zero := by
                rw [← g5, getElem!_pos z.cells _ hlt]
                simp
              exact (List.all_eq_true.1 g6) _ hmem
            have hplace : ∀ (i : Nat) (q : Nat × Nat), (fun i => some (i * ti.size, ti.size)) i = some q → (fun i => some (i * ti.size, ti.size)) i = some q := fun _ _ h => h
            obtain ⟨out, o1, o2⟩ := fill_sound (e := e) hplace ps (parts.toList.map fun (i, x) => (i, a.eval x)) _ _ cs (by simp [q1]) q2 hbase hcs
            have hfl : ∀ (parts : List (Nat × AV)) (cells res : List AV), fillA (fun i => some (i * ti.size, ti.size)) cells parts = some res → res.length = cells.length := by
              intro parts
              induction parts with
              | nil => intro cells res h; simp only [fillA, Option.some.injEq] at h; rw [h]
              | cons p parts ih =>
                intro cells res h
                obtain ⟨i, x⟩ := p
                simp only [fillA] at h
                split at h
                · rename_i hok2
                  simp only [Bool.and_eq_true] at hok2
                  have u1 := Nat.eq_of_beq_eq_true hok2.1.1
                  have u2 := Nat.le_of_ble_eq_true hok2.1.2
                  rw [normL_eq] at h
                  rw [ih _ _ h]
                  simp [splice]
                  omega
                · cases h
            have hcl : cs.length = len * ti.size := by rw [hfl _ _ _ hcs]; simp [baseA]
            have hol : out.size = len * ti.size := by have := RepL.len o2; simp at this; omega
            have hrun : (execOp a.eval ⟨some d, .buildSlice t len parts, ty, pos, aft, gd⟩).run P w = .ok (.value (.slice (some ⟨w.heap.size, 0, none⟩) len len)) (w.alloc (.cells out el)) := by
              have hn0 : ¬ len * ti.size > 2 ^ 24 := by omega
              simp only [execOp, Instr.buildSlice, Sem.run_bind, run_underlying e1, Result.andThen_ok, hT.size hTe, hn0, if_false, Sem.run_pure]
              have hz : ¬ len * ti.size = 0 := by omega
              simp only [hz, if_false, Sem.run_bind, zeroValue, typeInfo, run_program, Result.andThen_ok, g1, Sem.run_pure, g4, Array.toList_map, newRow]
              rw [o1]
              rfl
            rw [hrun]
            have hm : len ≤ maxLen := by
              have : len * 1 ≤ len * ti.size := Nat.mul_le_mul_left _ k2
              simp only [maxLen]; omega
            obtain ⟨e', st', s1, s2⟩ := vecK_sound r h hp (arr := out) (by omega) hm (rows_chunk (RepL.toI cs k3 o2) hcl)
            exact hk _ _ _ _ s1 s2
          · cases h
        · cases h
      · cases h
    · cases h
  · cases h

/-- A slice literal. -/
theorem sb {l : List Oper} {p : Prop} (h : stepB X n ops K l st = some p) (hp : p) : SymO X n ops l st K := by
  cases l with
  | nil => cases h
  | cons o rest =>
    intro e a w Q r hq
    simp only [stepB] at h
    split at h
    · rename_i hg
      have hw := guardA_sound r hg
      unfold wpList
      rw [if_pos hw]
      refine .inl (bslK_sound r h hp (fun e' st' a' w' hk hr => ?_))
      exact hk e' a' w' Q hr hq
    · cases h

/-- A source that is owned. -/
theorem src_own {s : List (Nat × AV)} {c rest : List Ch} {xo : Operand} {j el esz m : Nat} {row : Nat → List AV} (hx : opd s xo = some (.own j)) (hk : takeCh j c = some (.vec j el esz m row, rest)) (hr : ∀ i, i < m → (row i).length = esz) :
    ∀ e a w, Rel X n e ⟨s, c⟩ a w → (∃ ad cc news, a.eval xo = .slice (some ad) m cc ∧ news.length = m * esz ∧ (∀ (j : Nat) (u : Value), news[j]? = some u → w.cell? (ad.add j) = some u) ∧ (∀ u ∈ news, u.oneCell' = true) ∧ RowsL e.G esz m row news) ∨
      (m = 0 ∧ ∃ cc, a.eval xo = .slice none 0 cc) := by
  intro e a w r
  have h := opd_sound r hx
  simp only [Rep] at h
  obtain ⟨bs, ⟨_, xs, g1, g2⟩, _⟩ := (r.heap.perm (takeCh_perm hk)).head
  rcases g1.2 with ⟨h1, h2⟩ | ⟨g, cap, cur, h1, _, hg, _, _, _, htake⟩
  · exact .inr ⟨h2, 0, by rw [h.1, h1]⟩
  · refine .inl ⟨⟨g, 0, none⟩, cap, xs, by rw [h.1, h1], g1.1, g1.cells (g := g) (by rw [h1]; rfl), ?_, g2⟩
    intro u hu
    obtain ⟨q, hq⟩ := List.getElem?_of_mem hu
    have hql : q < m * esz := by
      rcases Nat.lt_or_ge q (m * esz) with h | h
      · exact h
      · rw [List.getElem?_eq_none (by rw [g1.1]; exact h)] at hq; cases hq
    have hpos : 0 < esz := by
      rcases Nat.eq_zero_or_pos esz with h | h
      · subst h; simp at hql
      · exact h
    have hi : q / esz < m := by rw [Nat.div_lt_iff_lt_mul hpos]; exact hql
    have hjj := Nat.mod_lt q hpos
    have hc : (row (q / esz))[q % esz]? = some ((row (q / esz))[q % esz]'(by rw [hr _ hi]; exact hjj)) := List.getElem?_eq_getElem _
    obtain ⟨z, z1, z2, z3⟩ := (g2 _ hi).get _ _ hc
    rw [List.getElem?_take, if_pos hjj, List.getElem?_drop] at z1
    have he : q / esz * esz + q % esz = q := by have := Nat.div_add_mod' q esz; omega
    rw [he, hq] at z1
    cases z1
    exact z3
end
end Go.Sy
