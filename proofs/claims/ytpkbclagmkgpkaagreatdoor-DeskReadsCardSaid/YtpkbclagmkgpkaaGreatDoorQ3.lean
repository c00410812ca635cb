/- The symbolic walk, part 11: slice literals. -/
import Derived.Test.YtpkbclagmkgpkaaGreatDoorQ2
import Derived.ProofKit
import Derived.OpenShut
import Derived.ShutString
import Derived.ChangeOld
import Derived.Below
import Derived.WalkKit
import Derived.Orders
import Derived.Laws.StructEq
import Derived.Laws.BytesArg
import Derived.Scope
import Derived.Laws.RangeString
set_option linter.unusedSimpArgs false
set_option linter.unusedVariables false
namespace Go.Sy
open Go.RowKit

def chunkRow (esz : Nat) (cells : List AV) : Nat → List AV := fun i => (cells.drop (i * esz)).take esz

def baseA (zs : List Value) (n : Nat) : List AV := (List.range n).map fun j => constA (zs.getD (j % zs.length) undef)

def vecK (n d : Nat) (t esz m : Nat) (row : Nat → List AV) (st : St) (k : St → Prop) : Option Prop :=
  match st with
  | ⟨s, c⟩ => match get s d, hasC d c with
    | none, false => (match Nat.blt d n && freshS d s && freshC d c with
      | true => some (k ⟨(d, .own d) :: s, .vec d t esz m row :: c⟩)
      | false => none)
    | _, _ => (match Nat.blt d n && freshS d (eraseS d s) && freshC d (eraseC d c) with
      | true => some (k ⟨(d, .own d) :: eraseS d s, .vec d t esz m row :: eraseC d c⟩)
      | false => none)

def bslK (T : Tab) (n : Nat) (dst : Option Tmp) (op : Op) (st : St) (k : St → Prop) : Option Prop :=
  match op, dst with
  | .buildSlice t len parts, some d => (match T t, opdP st.s parts.toList with
    | some ⟨_, _, _, _, .slice el⟩, some ps => (match T el with
      | some ti => (match fillA (fun i => some (i * ti.size, ti.size)) (baseA ti.zero (len * ti.size)) ps with
        | some cs => (match Nat.ble (len * ti.size) 16777216 && Nat.blt 0 ti.size && Nat.blt 0 (len * ti.size) && AV.imm.immL cs with
          | true => vecK n d el ti.size len (chunkRow ti.size cs) st k
          | false => none)
        | none => none)
      | none => none)
    | _, _ => none)
  | _, _ => none

def stepB {P : Program} {T : Tab} (X : Ctx P T) (n : Nat) (ops : Array Oper) (K : St → Prop) : List Oper → St → Option Prop
  | [], _ => none
  | o :: rest, st => match guardA ops st o with
    | some true => bslK T n o.dst o.op st (fun s => SymO X n ops rest s K)
    | _ => none

section
variable {P : Program} {T : Tab} {X : Ctx P T} {n : Nat} {e : Env} {st : St} {a : Act} {w : World} {ops : Array Oper} {K : St → Prop}

theorem Rel.newvec (r : Rel X n e st a w) {d : Nat} {t esz m : Nat} {row : Nat → List AV} {arr : Array Value} (hd : Nat.blt d n = true) (hf : freshS d st.s = true) (hc : freshC d st.c = true)
    (hsz : arr.size = m * esz) (hm : m ≤ maxLen) (hrows : RowsL e.G esz m row arr.toList) :
    Rel X n { e with hd := upd e.hd d (.slice (some ⟨w.heap.size, 0, none⟩) m m) } ⟨(d, .own d) :: st.s, .vec d t esz m row :: st.c⟩ (a.put (some d) (.slice (some ⟨w.heap.size, 0, none⟩) m m)) (w.alloc (.cells arr t)) := by
  refine r.vec (old := none) (xs := arr.toList) (s := st.s) (c := st.c) (c' := st.c) hd (fun _ _ h => h) hf hc r.heap (fun b hb => by cases hb) (fun b hb => by cases hb) ?_ hrows (World.grownBy_alloc w _ none) ?_
  · exact ⟨by simpa using hsz, .inr ⟨w.heap.size, m, arr, rfl, Nat.zero_le _, Go.heap_alloc_new w _, Nat.le_refl _, hm, hsz, List.take_of_length_le (by rw [Array.length_toList]; omega)⟩⟩
  · intro b hb
    simp [Value.ownBlock] at hb
    subst hb
    exact ⟨by simp, .inr (Nat.le_refl _)⟩

theorem vecK_sound {d : Nat} {t esz m : Nat} {row : Nat → List AV} {k : St → Prop} {p : Prop} (r : Rel X n e st a w) (h : vecK n d t esz m row st k = some p) (hp : p) {arr : Array Value}
    (hsz : arr.size = m * esz) (hm : m ≤ maxLen) (hrows : RowsL e.G esz m row arr.toList) :
    ∃ e' st', k st' ∧ Rel X n e' st' (a.put (some d) (.slice (some ⟨w.heap.size, 0, none⟩) m m)) (w.alloc (.cells arr t)) := by
  obtain ⟨s, c⟩ := st
  simp only [vecK] at h
  split at h
  · split at h
    · rename_i hb
      simp only [Bool.and_eq_true] at hb
      obtain ⟨⟨h1, h2⟩, h3⟩ := hb
      simp only [Option.some.injEq] at h
      subst h
      exact ⟨_, _, hp, r.newvec h1 h2 h3 hsz hm hrows⟩
    · cases h
  · split at h
    · rename_i hb
      simp only [Bool.and_eq_true] at hb
      obtain ⟨⟨h1, h2⟩, h3⟩ := hb
      simp only [Option.some.injEq] at h
      subst h
      have r' : Rel X n e ⟨eraseS d s, eraseC d c⟩ a w := r.less (fun i x hx => by
        rw [get_eraseS] at hx
        split at hx
        · cases hx
        · exact hx) (fun hh => hh.erase d)
      exact ⟨_, _, hp, r'.newvec h1 h2 h3 hsz hm hrows⟩
    · cases h

theorem rows_chunk {G : IM} {esz m : Nat} {cs : List AV} {ys : List Value} (h : RepIL G cs ys) (hl : cs.length = m * esz) : RowsL G esz m (chunkRow esz cs) ys := by
  intro i hi
  have hle : i * esz + esz ≤ m * esz := by have := Nat.mul_le_mul_right esz hi; rw [Nat.succ_mul] at this; exact this
  have hyl := RepIL.len h
  refine RepIL.mk (by simp [chunkRow]; omega) (fun j c hc => ?_)
  unfold chunkRow at hc
  have hj : j < esz := by
    rcases Nat.lt_or_ge j esz with h | h
    · exact h
    · rw [List.getElem?_eq_none (by simp; omega)] at hc; cases hc
  rw [List.getElem?_take, if_pos hj, List.getElem?_drop] at hc
  obtain ⟨z, z1, z2, z3⟩ := h.get _ _ hc
  exact ⟨z, by rw [List.getElem?_take, if_pos hj, List.getElem?_drop]; exact z1, z2, z3⟩

theorem bslK_sound {o : Oper} {k : St → Prop} {p : Prop} (r : Rel X n e st a w) (h : bslK T n o.dst o.op st k = some p) (hp : p) {K : Act → World → Prop} {Q : Exit → Act → World → Prop}
    (hk : ∀ e' st' a' w', k st' → Rel X n e' st' a' w' → K a' w') : o.wp P a w K Q := by
  have hT := X.ok
  obtain ⟨dst, op, ty, pos, aft, gd⟩ := o
  simp only at h
  unfold bslK at h
  unfold Oper.wp
  split at h
  · rename_i t len parts d
    split at h
    · rename_i sz by_ ag zero el ps hTt hps
      split at h
      · rename_i ti hTe
        split at h
        · rename_i cs hcs
          split at h
          · rename_i hok
            simp only [Bool.and_eq_true] at hok
            obtain ⟨⟨⟨k1, k2⟩, k4⟩, k3⟩ := hok
            have k4 : 0 < len * ti.size := by have := k4; simp only [Nat.blt] at this; have := Nat.le_of_ble_eq_true this; omega
            have k1 := Nat.le_of_ble_eq_true k1
            have k2 : 0 < ti.size := by have := k2; simp only [Nat.blt] at this; have := Nat.le_of_ble_eq_true this; omega
            obtain ⟨pi, z, g1, g2, g3, g4, g5, g6, g7⟩ := (hT _ _ hTe).info
            obtain ⟨dd, e1, _, e3⟩ := (hT _ _ hTt).desc
            simp only [TDOK] at e3
            subst e3
            obtain ⟨q1, q2⟩ := opdP_sound r hps
            have hzs : z.cells.size = ti.size := by
              have : z.cells.toList.length = ti.size := by rw [g5]; exact g7
              simpa using this
            have hbase : RepL e (baseA ti.zero (len * ti.size)) ((Array.range (len * ti.size)).map (fun j => z.cells[j % z.cells.size]!)).toList := by
              refine RepL.mk (by simp [baseA]) (fun j c hc => ?_)
              unfold baseA at hc
              rw [List.getElem?_map] at hc
              have hj : j < len * ti.size := by
                rcases Nat.lt_or_ge j (len * ti.size) with h | h
                · exact h
                · rw [List.getElem?_eq_none (by simpa using h)] at hc; cases hc
              rw [List.getElem?_range hj] at hc
              simp only [Option.map_some, Option.some.injEq] at hc
              subst hc
              have hlt : j % z.cells.size < z.cells.size := Nat.mod_lt _ (by omega)
              have hge : ti.zero.getD (j % ti.zero.length) undef = z.cells[j % z.cells.size]! := by
                have hlen : ti.zero.length = z.cells.size := by rw [g7, hzs]
                rw [hlen, ← g5]
                simp [List.getD, hlt]
              refine ⟨z.cells[j % z.cells.size]!, by simp [hj], by rw [hge]; exact constA_sound e, ?_⟩
              have hmem : z.cells[j % z.cells.size]! ∈ ti.zero := by
                rw [← g5, getElem!_pos z.cells _ hlt]
                simp
              exact (List.all_eq_true.1 g6) _ hmem
            have hplace : ∀ (i : Nat) (q : Nat × Nat), (fun i => some (i * ti.size, ti.size)) i = some q → (fun i => some (i * ti.size, ti.size)) i = some q := fun _ _ h => h
            obtain ⟨out, o1, o2⟩ := fill_sound (e := e) hplace ps (parts.toList.map fun (i, x) => (i, a.eval x)) _ _ cs (by simp [q1]) q2 hbase hcs
            have hfl : ∀ (parts : List (Nat × AV)) (cells res : List AV), fillA (fun i => some (i * ti.size, ti.size)) cells parts = some res → res.length = cells.length := by
              intro parts
              induction parts with
              | nil => intro cells res h; simp only [fillA, Option.some.injEq] at h; rw [h]
              | cons p parts ih =>
                intro cells res h
                obtain ⟨i, x⟩ := p
                simp only [fillA] at h
                split at h
                · rename_i hok2
                  simp only [Bool.and_eq_true] at hok2
                  have u1 := Nat.eq_of_beq_eq_true hok2.1.1
                  have u2 := Nat.le_of_ble_eq_true hok2.1.2
                  rw [normL_eq] at h
                  rw [ih _ _ h]
                  simp [splice]
                  omega
                · cases h
            have hcl : cs.length = len * ti.size := by rw [hfl _ _ _ hcs]; simp [baseA]
            have hol : out.size = len * ti.size := by have := RepL.len o2; simp at this; omega
            have hrun : (execOp a.eval ⟨some d, .buildSlice t len parts, ty, pos, aft, gd⟩).run P w = .ok (.value (.slice (some ⟨w.heap.size, 0, none⟩) len len)) (w.alloc (.cells out el)) := by
              have hn0 : ¬ len * ti.size > 2 ^ 24 := by omega
              simp only [execOp, Instr.buildSlice, Sem.run_bind, run_underlying e1, Result.andThen_ok, hT.size hTe, hn0, if_false, Sem.run_pure]
              have hz : ¬ len * ti.size = 0 := by omega
              simp only [hz, if_false, Sem.run_bind, zeroValue, typeInfo, run_program, Result.andThen_ok, g1, Sem.run_pure, g4, Array.toList_map, newRow]
              rw [o1]
              rfl
            rw [hrun]
            have hm : len ≤ maxLen := by
              have : len * 1 ≤ len * ti.size := Nat.mul_le_mul_left _ k2
              simp only [maxLen]; omega
            obtain ⟨e', st', s1, s2⟩ := vecK_sound r h hp (arr := out) (by omega) hm (rows_chunk (RepL.toI cs k3 o2) hcl)
            exact hk _ _ _ _ s1 s2
          · cases h
        · cases h
      · cases h
    · cases h
  · cases h

theorem sb {l : List Oper} {p : Prop} (h : stepB X n ops K l st = some p) (hp : p) : SymO X n ops l st K := by
  cases l with
  | nil => cases h
  | cons o rest =>
    intro e a w Q r hq
    simp only [stepB] at h
    split at h
    · rename_i hg
      have hw := guardA_sound r hg
      unfold wpList
      rw [if_pos hw]
      refine .inl (bslK_sound r h hp (fun e' st' a' w' hk hr => ?_))
      exact hk e' a' w' Q hr hq
    · cases h

theorem src_own {s : List (Nat × AV)} {c rest : List Ch} {xo : Operand} {j el esz m : Nat} {row : Nat → List AV} (hx : opd s xo = some (.own j)) (hk : takeCh j c = some (.vec j el esz m row, rest)) (hr : ∀ i, i < m → (row i).length = esz) :
    ∀ e a w, Rel X n e ⟨s, c⟩ a w → (∃ ad cc news, a.eval xo = .slice (some ad) m cc ∧ news.length = m * esz ∧ (∀ (j : Nat) (u : Value), news[j]? = some u → w.cell? (ad.add j) = some u) ∧ (∀ u ∈ news, u.oneCell' = true) ∧ RowsL e.G esz m row news) ∨
      (m = 0 ∧ ∃ cc, a.eval xo = .slice none 0 cc) := by
  intro e a w r
  have h := opd_sound r hx
  simp only [Rep] at h
  obtain ⟨bs, ⟨_, xs, g1, g2⟩, _⟩ := (r.heap.perm (takeCh_perm hk)).head
  rcases g1.2 with ⟨h1, h2⟩ | ⟨g, cap, cur, h1, _, hg, _, _, _, htake⟩
  · exact .inr ⟨h2, 0, by rw [h.1, h1]⟩
  · refine .inl ⟨⟨g, 0, none⟩, cap, xs, by rw [h.1, h1], g1.1, g1.cells (g := g) (by rw [h1]; rfl), ?_, g2⟩
    intro u hu
    obtain ⟨q, hq⟩ := List.getElem?_of_mem hu
    have hql : q < m * esz := by
      rcases Nat.lt_or_ge q (m * esz) with h | h
      · exact h
      · rw [List.getElem?_eq_none (by rw [g1.1]; exact h)] at hq; cases hq
    have hpos : 0 < esz := by
      rcases Nat.eq_zero_or_pos esz with h | h
      · subst h; simp at hql
      · exact h
    have hi : q / esz < m := by rw [Nat.div_lt_iff_lt_mul hpos]; exact hql
    have hjj := Nat.mod_lt q hpos
    have hc : (row (q / esz))[q % esz]? = some ((row (q / esz))[q % esz]'(by rw [hr _ hi]; exact hjj)) := List.getElem?_eq_getElem _
    obtain ⟨z, z1, z2, z3⟩ := (g2 _ hi).get _ _ hc
    rw [List.getElem?_take, if_pos hjj, List.getElem?_drop] at z1
    have he : q / esz * esz + q % esz = q := by have := Nat.div_add_mod' q esz; omega
    rw [he, hq] at z1
    cases z1
    exact z3
end
end Go.Sy

namespace Go.Sy
open Go.RowKit

section
variable {P : Program} {T : Tab} {X : Ctx P T} {n : Nat} {e : Env} {st : St} {a : Act} {w : World} {ops : Array Oper} {K : St → Prop}

theorem Rel.below {w' : World} (r : Rel X n e st a w) (h : Below w.heap.size w w') : Rel X n e st a w' :=
  { defers := r.defers
    size := r.size
    slots := r.slots
    im := fun b o v hv => by
      have h1 := r.im b o v hv
      have h2 := r.glt b o v hv
      simp only [World.cell?] at h1 ⊢
      rw [h.block b h2]
      exact h1
    mz := r.mzKeep (fun b hb _ => h.block b hb)
    newm := r.newm
    heap := HeapOK.grow r.heap (IM.le_refl _) (fun _ _ _ _ => ⟨rfl, rfl⟩) (fun b hb => h.block b hb) h.size (fun _ _ h => h)
    le := r.le
    new := r.new
    os := h.os.trans r.os
    tape := h.tape.trans r.tape
    output := h.output.trans r.output
    sz := Nat.le_trans r.sz h.size
    fix := r.fix
    keep := fun b hb hbs hs => (h.block b (Nat.lt_of_lt_of_le hb r.sz)).trans (r.keep b hb hbs hs) }

def flatV : AV → Option Value
  | .v x => some x
  | .s l => some (S l)
  | _ => none
theorem flatV_sound {G : IM} {r : AV} {v cr : Value} (h : flatV r = some v) (hr : RepI G r cr) : cr = v ∧ ∀ e, Rep e r v := by
  unfold flatV at h
  split at h
  · cases h; simp only [RepI] at hr; exact ⟨hr, fun e => Rep_v⟩
  · cases h; simp only [RepI] at hr; exact ⟨hr, fun e => Rep_s⟩
  · cases h

end
end Go.Sy

namespace Go.Sy
open Go.RowKit

def memG (W : World) : IM := ⟨fun b o => W.cell? ⟨b, o, none⟩, fun _ => none⟩
theorem memG_ok (W : World) : ImOK (memG W) W := ⟨fun _ _ _ h => h, fun _ _ h => absurd h (by simp [memG])⟩

def OpensT (P : Program) (t : Nat) {α : Type} (cells : α → List AV) (ok : α → Prop) : Prop :=
  ∀ (H : Type) (enc : TypeId × Value → H) (W : World) (fuel : Nat) (cs : List Value) (d : DataW H) (ps : List MemPlace),
    DataW.trod enc P W 0 (fun _ => true) true fuel t cs = some (d, ps) → ∃ x : α, ok x ∧ RepIL (memG W) (cells x) cs

theorem opens_string {P : Program} {t : Nat} (h : P.underlying t = some .string) : OpensT P t (fun l : List UInt8 => [.s l]) (fun l => l.length ≤ maxLen) := by
  intro H enc W fuel cs d ps hr
  cases fuel with
  | zero => simp [DataW.trod] at hr
  | succ fuel =>
    unfold DataW.trod at hr
    rw [h] at hr
    simp only at hr
    split at hr <;> try (simp_all; done)
    · rename_i s heq
      split at hr
      · rename_i hs
        refine ⟨s.data.toList, by show s.data.toList.length ≤ maxLen; rw [Array.length_toList]; exact hs, ?_⟩
        simp only [RepIL, RepI, S]
        exact ⟨_, [], rfl, by cases s; rfl, rfl, rfl⟩
      · cases hr

theorem RepIL.app {G : IM} : ∀ {cs ds : List AV} {ys zs : List Value}, RepIL G cs ys → RepIL G ds zs → RepIL G (cs ++ ds) (ys ++ zs)
  | [], ds, ys, zs, h, k => by simp only [RepIL] at h; subst h; simpa using k
  | c :: cs, ds, ys, zs, h, k => by
    simp only [RepIL] at h
    obtain ⟨z, zs', rfl, h1, h2, h3⟩ := h
    simp only [List.cons_append, RepIL]
    exact ⟨z, _, rfl, h1, h2, RepIL.app h3 k⟩

theorem opens_one {P : Program} {t : Nat} {α : Type} {cell : α → AV} {ok : α → Prop} (h : OpensT P t (fun x => [cell x]) ok) {H : Type} {enc : TypeId × Value → H} {W : World} {v : Value} {d : DataW H} {ps : List MemPlace}
    (hr : DataW.Trod enc P W 0 (fun _ => true) true t v d ps) (hv : v.cells.toList.length = 1 → v.cells.toList = [v]) : ∃ x, ok x ∧ RepI (memG W) (cell x) v := by
  obtain ⟨fuel, hf⟩ := hr
  obtain ⟨x, h1, h2⟩ := h H enc W fuel _ d ps hf
  refine ⟨x, h1, ?_⟩
  simp only [RepIL] at h2
  obtain ⟨z, zs, hz, h3, h4, rfl⟩ := h2
  have := hv (by rw [hz]; rfl)
  rw [this] at hz
  cases hz
  exact h3

theorem cells_one {v : Value} (h : ∀ cs, v ≠ .agg cs) : v.cells.toList.length = 1 → v.cells.toList = [v] := by
  intro _
  cases v <;> simp_all [Value.cells]

end Go.Sy

namespace Go.Sy
open Go.RowKit Go.WideShapes Go.ChangeShapes

def OpensV (P : Program) (t : Nat) {α : Type} (av : α → AV) (ok : α → Prop) : Prop :=
  ∀ (H : Type) (enc : TypeId × Value → H) (W : World) (base : Nat) (v : Value) (d : DataW H) (ps : List MemPlace),
    Value.okWide P W .any base t v → DataW.Trod enc P W 0 (fun _ => true) true t v d ps → ∃ x : α, ok x ∧ RepI (memG W) (av x) v

theorem opensV_of {P : Program} {t : Nat} {α : Type} {cell : α → AV} {ok : α → Prop} (h : OpensT P t (fun x => [cell x]) ok) (hv : ∀ (W : World) base v, Value.okWide P W .any base t v → ∀ cs, v ≠ .agg cs) : OpensV P t cell ok :=
  fun H enc W base v d ps hw hr => opens_one h hr (cells_one (hv W base v hw))

theorem opensV_string {P : Program} {t : Nat} (h : P.underlying t = some .string) : OpensV P t (fun l : List UInt8 => .s l) (fun l => l.length ≤ maxLen) :=
  opensV_of (opens_string h) (fun W base v hw cs hc => by obtain ⟨n, rfl⟩ := okWide_string h hw; cases hc)

def OpensA (P : Program) (ts : List Nat) {α : Type} (avs : α → List AV) (ok : α → Prop) : Prop :=
  ∀ (H : Type) (enc : TypeId × Value → H) (W : World) (base : Nat) (vs : List Value) (ds : List (DataW H)) (ps : List MemPlace),
    (∀ (j : Nat) t v, ts[j]? = some t → vs[j]? = some v → Value.okWide P W .any base t v) →
    DataW.TrodAll enc P W 0 (fun _ => true) true ts vs ds ps → ∃ x : α, ok x ∧ RepIT (memG W) (avs x) vs

theorem opensA_nil {P : Program} : OpensA P [] (fun _ : Unit => []) (fun _ => True) := by
  intro H enc W base vs ds ps hv hr
  obtain ⟨rfl, _, _⟩ := trodAll_nil hr
  exact ⟨(), trivial, by simp only [RepIT]⟩

theorem opensA_cons {P : Program} {t : Nat} {ts : List Nat} {α β : Type} {av : α → AV} {ok : α → Prop} {avs : β → List AV} {ok2 : β → Prop} (h : OpensV P t av ok) (k : OpensA P ts avs ok2) :
    OpensA P (t :: ts) (fun p : α × β => av p.1 :: avs p.2) (fun p => ok p.1 ∧ ok2 p.2) := by
  intro H enc W base vs ds ps hv hr
  obtain ⟨v0, vs0, d0, ds0, p0, q0, rfl, rfl, rfl, h0, r0⟩ := trodAll_cons hr
  obtain ⟨x, hx, hxr⟩ := h H enc W base v0 d0 p0 (hv 0 t v0 rfl rfl) h0
  obtain ⟨y, hy, hyr⟩ := k H enc W base vs0 ds0 q0 (fun j t v h1 h2 => hv (j + 1) t v h1 h2) r0
  exact ⟨(x, y), ⟨hx, hy⟩, by simp only [RepIT]; exact ⟨v0, vs0, rfl, hxr, hyr⟩⟩

theorem trodAll_below {H : Type} {enc : TypeId × Value → H} {P : Program} (hl : laidOutB P = true) {W W' : World} (bel : Below W.heap.size W W') : ∀ {ts : List Nat} {vs : List Value} {ds : List (DataW H)} {ps : List MemPlace},
    (∀ t ∈ ts, P.readableRec t = true ∧ t < P.types.size) → DataW.TrodAll enc P W 0 (fun _ => true) true ts vs ds ps →
    DataW.TrodAll enc P W' 0 (fun b => decide (b < W.heap.size)) true ts vs ds ps
  | [], vs, ds, ps, _, h => by
    obtain ⟨rfl, rfl, rfl⟩ := trodAll_nil h
    exact trodAll_mk0
  | t :: ts, vs, ds, ps, hk, h => by
    obtain ⟨v0, vs0, d0, ds0, p0, q0, rfl, rfl, rfl, h0, r0⟩ := trodAll_cons h
    have lt0 : ∀ x ∈ p0, x.block < W.heap.size := by obtain ⟨m, hm⟩ := h0; exact DataW.trod_lt m _ _ _ hm
    exact trodAll_cons_mk (Below.trod hl (hk t (by simp)).1 (hk t (by simp)).2 h0 bel lt0) (trodAll_below hl bel (fun t ht => hk t (by simp [ht])) r0)

theorem trodAll_count {H : Type} {enc : TypeId × Value → H} {P : Program} {W : World} {base : Nat} {sp : Nat → Bool} {held : Bool} : ∀ {ts : List Nat} {vs : List Value} {ds : List (DataW H)} {ps : List MemPlace},
    DataW.TrodAll enc P W base sp held ts vs ds ps → ds.length = ts.length
  | [], vs, ds, ps, h => by
    obtain ⟨rfl, rfl, rfl⟩ := trodAll_nil h
    rfl
  | t :: ts, vs, ds, ps, h => by
    obtain ⟨v0, vs0, d0, ds0, p0, q0, rfl, rfl, rfl, h0, r0⟩ := trodAll_cons h
    simp [trodAll_count r0]

end Go.Sy

namespace Go.Sy
open Go.RowKit

def putS (d : Option Nat) (x : AV) (s : List (Nat × AV)) : List (Nat × AV) :=
  match d with
  | none => s
  | some d => (d, x) :: s

def normG {α β : Type} : List α → (List α → β) → β
  | [], k => k []
  | x :: xs, k => normG xs fun ys => k (x :: ys)
theorem normG_eq {α β : Type} : ∀ (l : List α) (k : List α → β), normG l k = k l
  | [], k => rfl
  | x :: xs, k => by simp only [normG]; rw [normG_eq xs]

abbrev Done := List (Option Nat × AV)

def availL (done : Done) : List Edge → List (Nat × AV) → List (Nat × AV)
  | [], base => base
  | e :: es, base => match Region.binds .any e, done[e.on]? with
    | true, some (some d, x) => (d, x) :: availL done es base
    | _, _ => availL done es base

def finS (base : List (Nat × AV)) : Done → List (Nat × AV)
  | [] => base
  | (d, x) :: r => putS d x (finS base r)

theorem availL_get {done : Done} {base : List (Nat × AV)} : ∀ {es : List Edge} {k : Nat} {y : AV}, get (availL done es base) k = some y →
    (∃ e ∈ es, Region.binds .any e = true ∧ done[e.on]? = some (some k, y)) ∨ get base k = some y
  | [], k, y, h => .inr h
  | e :: es, k, y, h => by
    simp only [availL] at h
    split at h
    · rename_i d x hb hd
      rw [get_cons] at h
      by_cases hk : d = k
      · rw [if_pos hk] at h
        cases h
        subst hk
        exact .inl ⟨e, by simp, hb, hd⟩
      · rw [if_neg hk] at h
        rcases availL_get h with ⟨e', h1, h2⟩ | h1
        · exact .inl ⟨e', by simp [h1], h2⟩
        · exact .inr h1
    · rcases availL_get h with ⟨e', h1, h2⟩ | h1
      · exact .inl ⟨e', by simp [h1], h2⟩
      · exact .inr h1

theorem finS_get {base : List (Nat × AV)} : ∀ {D : Done} {k : Nat} {y : AV}, get (finS base D) k = some y → (∃ i : Nat, D[i]? = some (some k, y)) ∨ get base k = some y
  | [], k, y, h => .inr h
  | (d, x) :: r, k, y, h => by
    simp only [finS] at h
    cases d with
    | none =>
      simp only [putS] at h
      rcases finS_get h with ⟨i, h1⟩ | h1
      · exact .inl ⟨i + 1, by simpa using h1⟩
      · exact .inr h1
    | some d =>
      simp only [putS] at h
      rw [get_cons] at h
      by_cases hk : d = k
      · rw [if_pos hk] at h
        cases h
        subst hk
        exact .inl ⟨0, rfl⟩
      · rw [if_neg hk] at h
        rcases finS_get h with ⟨i, h1⟩ | h1
        · exact .inl ⟨i + 1, by simpa using h1⟩
        · exact .inr h1

section
variable {P : Program} {T : Tab} {X : Ctx P T} {n : Nat} {e : Env} {st : St} {a : Act} {w : World} {ops : Array Oper} {K : St → Prop}

def StepD {P : Program} {T : Tab} (X : Ctx P T) (n : Nat) (ops : Array Oper) (Si : List (Nat × AV)) (c : List Ch) (o : Oper) (x : AV) : Prop :=
  ∀ e a w S (K : Act → World → Prop) (Q : QX X), Rel X n e ⟨S, c⟩ a w → (∀ k y, get Si k = some y → get S k = some y) →
    (∀ e' a' w', Rel X n e' ⟨putS o.dst x S, c⟩ a' w' → K a' w') →
    if Region.wanted o (yielded ops a.tmps) then o.wp P a w K Q ∨ (o.asks P a w ∧ LetsOut Q) else K (a.put o.dst undef) w

def SymD {P : Program} {T : Tab} (X : Ctx P T) (n : Nat) (ops : Array Oper) (base : List (Nat × AV)) (c : List Ch) (K : St → Prop) : List Oper → Done → Prop
  | [], done => K ⟨finS base done, c⟩
  | o :: rest, done => ∃ x, StepD X n ops (availL done o.after.toList base) c o x ∧ SymD X n ops base c K rest (done ++ [(o.dst, x)])

def dstOK (n : Nat) : Option Nat → Bool
  | none => true
  | some d => Nat.blt d n

theorem putOK (r : Rel X n e st a w) {d : Option Nat} {x : AV} {v : Value} (hd : dstOK n d = true) (hv : Rep e x v) : Rel X n e ⟨putS d x st.s, st.c⟩ (a.put d v) w := by
  cases d with
  | none => simpa [putS, Act.put] using r
  | some d => exact r.put hd hv

def stepDK {P : Program} {T : Tab} (X : Ctx P T) (n : Nat) (ops : Array Oper) (base : List (Nat × AV)) (c : List Ch) (K : St → Prop) : List Oper → Done → Option Prop
  | [], done => normG (finS base done) fun s => some (K ⟨s, c⟩)
  | o :: rest, done => normG (availL done o.after.toList base) fun Si => match guardA ops ⟨Si, c⟩ o, dstOK n o.dst with
    | some true, true => (match still T ⟨Si, c⟩ o.op with
      | some x => normA x fun x => normG (done ++ [(o.dst, x)]) fun done => some (SymD X n ops base c K rest done)
      | none => match still1 T ⟨Si, c⟩ o.op with
        | some (vc, x) => normA x fun x => normG (done ++ [(o.dst, x)]) fun done => some (vc ∧ SymD X n ops base c K rest done)
        | none => none)
    | some false, true => normG (done ++ [(o.dst, .tup [])]) fun done => some (SymD X n ops base c K rest done)
    | _, _ => none

theorem sd {base : List (Nat × AV)} {c : List Ch} {l : List Oper} {done : Done} {p : Prop} (h : stepDK X n ops base c K l done = some p) (hp : p) : SymD X n ops base c K l done := by
  cases l with
  | nil =>
    simp only [stepDK, normG_eq, Option.some.injEq] at h
    subst h
    exact hp
  | cons o rest =>
    simp only [stepDK, normG_eq, normA_eq] at h
    split at h
    · rename_i hg hd
      split at h
      · rename_i x hs
        simp only [Option.some.injEq] at h
        subst h
        refine ⟨x, fun e a w S K Q r hS hk => ?_, hp⟩
        have r' : Rel X n e ⟨availL done o.after.toList base, c⟩ a w := r.less hS id
        rw [if_pos (guardA_sound r' hg)]
        obtain ⟨v, h2, h1⟩ := still_sound r' hs
        refine .inl ?_
        unfold Oper.wp
        rw [h1 w (SameAs.refl w)]
        exact hk _ _ _ (putOK r hd h2)
      · split at h
        · rename_i vc x hs
          simp only [Option.some.injEq] at h
          subst h
          refine ⟨x, fun e a w S K Q r hS hk => ?_, hp.2⟩
          have r' : Rel X n e ⟨availL done o.after.toList base, c⟩ a w := r.less hS id
          rw [if_pos (guardA_sound r' hg)]
          obtain ⟨v, h2, h1⟩ := still1_sound r' hs hp.1
          refine .inl ?_
          unfold Oper.wp
          rw [h1 w (SameAs.refl w)]
          exact hk _ _ _ (putOK r hd h2)
        · cases h
    · rename_i hg hd
      simp only [Option.some.injEq] at h
      subst h
      refine ⟨.tup [], fun e a w S K Q r hS hk => ?_, hp⟩
      have r' : Rel X n e ⟨availL done o.after.toList base, c⟩ a w := r.less hS id
      rw [if_neg (by rw [guardA_sound r' hg]; decide)]
      exact hk _ _ _ (putOK r hd (by simp [Rep, RepT, undef]))
    · cases h

theorem D_call {base : List (Nat × AV)} {c : List Ch} {done : Done} {f : FuncId} {dst : Nat} {args : Array Operand} {tys : Array TypeId} {ty : TypeId} {pos : String} {aft : Array Edge} {gd : Option (Nat × Bool)} {rest : List Oper} {avs : List AV} {x : AV}
    (hf : FnP P f avs (· = x)) (hg : guardA ops ⟨availL done aft.toList base, c⟩ ⟨some dst, .call ⟨.value (.func f), args, tys⟩, ty, pos, aft, gd⟩ = some true) (ha : opds (availL done aft.toList base) args.toList = some avs) (himm : AV.imm.immL avs = true) (hd : Nat.blt dst n = true)
    (k : SymD X n ops base c K rest (done ++ [(some dst, x)])) :
    SymD X n ops base c K (⟨some dst, .call ⟨.value (.func f), args, tys⟩, ty, pos, aft, gd⟩ :: rest) done := by
  refine ⟨x, fun e a w S K' Q r hS hk => ?_, k⟩
  have r0 : Rel X n e ⟨availL done aft.toList base, c⟩ a w := r.less hS id
  rw [if_pos (guardA_sound r0 hg)]
  refine .inl ?_
  unfold Oper.wp
  rw [run_call hf.1 a.eval rfl w, Oper.upon_enter]
  have h1 := RepT.toI avs himm (opds_sound r0 ha)
  have h2 := hf.2 e.G w _ ⟨r.im, r.mz⟩ h1
  have harr : args.map a.eval = (args.toList.map a.eval).toArray := by
    apply Array.ext'; simp
  rw [harr]
  refine h2.mono ?_
  rintro en w' ⟨rv, cr, G', rfl, rfl, g1, g2, g3, g4, g5⟩
  have r' : Rel X n ⟨G', e.μ, e.hd⟩ ⟨S, c⟩ a w' := r.after g2 g3 g4 g5
  exact hk _ _ _ (r'.put (x := rv) (v := cr) hd (RepI.toRep (e := ⟨G', e.μ, e.hd⟩) rv g1))

theorem SymD.plan {base : List (Nat × AV)} {c : List Ch} : ∀ {l : List Oper} {done : Done}, SymD X n ops base c K l done →
    ∃ D : Done, done <+: D ∧ D.length = done.length + l.length ∧ K ⟨finS base D, c⟩ ∧
      ∀ i o, l[i]? = some o → ∃ x, D[done.length + i]? = some (o.dst, x) ∧ StepD X n ops (availL (D.take (done.length + i)) o.after.toList base) c o x
  | [], done, h => ⟨done, List.prefix_refl _, by simp, h, fun i o hi => by simp at hi⟩
  | o :: rest, done, h => by
    obtain ⟨x, h1, h2⟩ := h
    obtain ⟨D, hp, hl, hK, hs⟩ := SymD.plan h2
    have hp' : done <+: D := (List.prefix_append done _).trans hp
    refine ⟨D, hp', by simp at hl ⊢; omega, hK, fun i o' hi => ?_⟩
    cases i with
    | zero =>
      simp only [List.getElem?_cons_zero, Option.some.injEq] at hi
      subst hi
      refine ⟨x, ?_, ?_⟩
      · obtain ⟨t, rfl⟩ := hp
        simp
      · obtain ⟨t, rfl⟩ := hp'
        simpa using h1
    | succ i =>
      obtain ⟨y, g1, g2⟩ := hs i o' (by simpa using hi)
      refine ⟨y, ?_, ?_⟩
      · simpa [Nat.add_assoc, Nat.add_comm 1 i] using g1
      · simpa [Nat.add_assoc, Nat.add_comm 1 i] using g2

def chkD (base : List (Nat × AV)) : Nat → List Nat → List Oper → Bool
  | _, _, [] => true
  | i, seen, o :: r => (o.after.toList.all fun e => !Region.binds .any e || Nat.blt e.on i) &&
    match o.dst with
    | none => chkD base (i + 1) seen r
    | some d => !(seen.any (Nat.beq d)) && freeS d base && chkD base (i + 1) (d :: seen) r
where freeS (d : Nat) : List (Nat × AV) → Bool
  | [] => true
  | (k, _) :: r => !(Nat.beq k d) && freeS d r

theorem freeS_get {d : Nat} : ∀ {s : List (Nat × AV)}, chkD.freeS d s = true → get s d = none
  | [], _ => rfl
  | (k, x) :: r, h => by
    simp only [chkD.freeS, Bool.and_eq_true, Bool.not_eq_true'] at h
    rw [get_cons, if_neg (beq_ne h.1)]
    exact freeS_get h.2

theorem chkD_spec {base : List (Nat × AV)} : ∀ {l : List Oper} {i : Nat} {seen : List Nat}, chkD base i seen l = true →
    (∀ (j : Nat) (o : Oper), l[j]? = some o → (∀ e ∈ o.after, Region.binds .any e = true → e.on < i + j) ∧ ∀ d, o.dst = some d → get base d = none ∧ d ∉ seen) ∧
    ∀ (j k : Nat) (o o' : Oper) (d : Nat), l[j]? = some o → l[k]? = some o' → o.dst = some d → o'.dst = some d → j = k
  | [], i, seen, _ => ⟨fun j o h => by simp at h, fun j k o o' d h => by simp at h⟩
  | o :: r, i, seen, h => by
    simp only [chkD, Bool.and_eq_true] at h
    obtain ⟨h1, h2⟩ := h
    have hedge : ∀ e ∈ o.after, Region.binds .any e = true → e.on < i := by
      intro e he hb
      have := List.all_eq_true.1 h1 e (by simpa using he)
      rw [hb] at this
      simp [Nat.blt] at this
      omega
    cases hd : o.dst with
    | none =>
      rw [hd] at h2
      obtain ⟨ih1, ih2⟩ := chkD_spec h2
      refine ⟨fun j o' hj => ?_, fun j k o1 o2 d hj hk e1 e2 => ?_⟩
      · cases j with
        | zero => simp at hj; subst hj; exact ⟨hedge, fun d hd' => by rw [hd] at hd'; cases hd'⟩
        | succ j =>
          obtain ⟨g1, g2⟩ := ih1 j o' (by simpa using hj)
          exact ⟨fun e he hb => by have := g1 e he hb; omega, g2⟩
      · cases j with
        | zero => simp at hj; subst hj; rw [hd] at e1; cases e1
        | succ j =>
          cases k with
          | zero => simp at hk; subst hk; rw [hd] at e2; cases e2
          | succ k => exact congrArg (· + 1) (ih2 j k o1 o2 d (by simpa using hj) (by simpa using hk) e1 e2)
    | some d0 =>
      rw [hd] at h2
      simp only [Bool.and_eq_true, Bool.not_eq_true'] at h2
      obtain ⟨⟨h3, h4⟩, h5⟩ := h2
      obtain ⟨ih1, ih2⟩ := chkD_spec h5
      have hns : d0 ∉ seen := fun hm => by
        have : seen.any (Nat.beq d0) = true := List.any_eq_true.2 ⟨d0, hm, Nat.beq_refl d0⟩
        rw [this] at h3; cases h3
      refine ⟨fun j o' hj => ?_, fun j k o1 o2 d hj hk e1 e2 => ?_⟩
      · cases j with
        | zero =>
          simp at hj; subst hj
          exact ⟨hedge, fun d hd' => by rw [hd] at hd'; cases hd'; exact ⟨freeS_get h4, hns⟩⟩
        | succ j =>
          obtain ⟨g1, g2⟩ := ih1 j o' (by simpa using hj)
          exact ⟨fun e he hb => by have := g1 e he hb; omega, fun d hd' => ⟨(g2 d hd').1, fun hm => (g2 d hd').2 (List.mem_cons_of_mem _ hm)⟩⟩
      · cases j with
        | zero =>
          simp at hj; subst hj
          rw [hd] at e1; cases e1
          cases k with
          | zero => rfl
          | succ k => exact absurd (List.mem_cons_self) ((ih1 k o2 (by simpa using hk)).2 d0 e2).2
        | succ j =>
          cases k with
          | zero =>
            simp at hk; subst hk
            rw [hd] at e2; cases e2
            exact absurd (List.mem_cons_self) ((ih1 j o1 (by simpa using hj)).2 d0 e1).2
          | succ k => exact congrArg (· + 1) (ih2 j k o1 o2 d (by simpa using hj) (by simpa using hk) e1 e2)

theorem any_of_D {base : List (Nat × AV)} {c : List Ch} {D : Done} {Q : QX X} (hD : D.length = ops.size)
    (hstep : ∀ i o, ops[i]? = some o → ∃ x, D[i]? = some (o.dst, x) ∧ StepD X n ops (availL (D.take i) o.after.toList base) c o x)
    (hedge : ∀ i o, ops[i]? = some o → ∀ e ∈ o.after, Region.binds .any e = true → e.on < i)
    (hdist : ∀ (i j : Nat) o o' d, ops[i]? = some o → ops[j]? = some o' → o.dst = some d → o'.dst = some d → i = j)
    (hbase : ∀ (i : Nat) o d, ops[i]? = some o → o.dst = some d → get base d = none)
    (hfin : ∀ e a w, Rel X n e ⟨finS base D, c⟩ a w → Q .normal a w) :
    ∀ (fuel : Nat) (listed : Array Bool) (a : Act) (w : World) (e : Env) (S : List (Nat × AV)), listed.size = ops.size → listed.toList.count false = fuel → Rel X n e ⟨S, c⟩ a w →
      (∀ k y, get base k = some y → get S k = some y) → (∀ (i : Nat) d x, listed.getD i false = true → D[i]? = some (some d, x) → get S d = some x) →
      wpAny P .any ops Q fuel listed a w := by
  have progress : ∀ (listed : Array Bool), listed.size = ops.size → Region.ready .any ops listed = [] → ∀ i, i < ops.size → listed.getD i false = true := by
    intro listed hsz hr i
    induction i using Nat.strongRecOn with
    | ind i ih =>
      intro hi
      cases hl : listed.getD i true with
      | true =>
        have : i < listed.size := by omega
        simp [this] at hl ⊢
        exact hl
      | false =>
        exfalso
        have hmem : i ∈ Region.ready .any ops listed := by
          rw [mem_ready]
          refine ⟨hl, ops[i], by simp [hi], fun e he hb => ih e.on (hedge i ops[i] (by simp [hi]) e he hb) ?_⟩
          have := hedge i ops[i] (by simp [hi]) e he hb
          omega
        rw [hr] at hmem
        cases hmem
  have final : ∀ (listed : Array Bool) a w e S, listed.size = ops.size → Region.ready .any ops listed = [] → Rel X n e ⟨S, c⟩ a w →
      (∀ k y, get base k = some y → get S k = some y) → (∀ (i : Nat) d x, listed.getD i false = true → D[i]? = some (some d, x) → get S d = some x) → Q .normal a w := by
    intro listed a w e S hsz hr r hb hs
    refine hfin e a w (r.less (fun k y hk => ?_) id)
    rcases finS_get hk with ⟨i, hi⟩ | h
    · have hlt : i < D.length := by
        rcases Nat.lt_or_ge i D.length with h | h
        · exact h
        · rw [List.getElem?_eq_none h] at hi; cases hi
      exact hs i k y (progress listed hsz hr i (by omega)) hi
    · exact hb k y h
  intro fuel
  induction fuel with
  | zero =>
    intro listed a w e S hsz hc r hb hs
    have hall : ∀ i, i < listed.size → listed.getD i true = true := by
      intro i hi
      cases hl : listed.getD i true with
      | true => rfl
      | false =>
        exfalso
        have : false ∈ listed.toList := by
          simp [hi] at hl
          exact List.mem_iff_getElem.2 ⟨i, by simpa using hi, by simpa using hl⟩
        have := List.count_pos_iff.2 this
        omega
    have hr : Region.ready .any ops listed = [] := by
      cases hrr : Region.ready .any ops listed with
      | nil => rfl
      | cons j js =>
        exfalso
        have hm : j ∈ Region.ready .any ops listed := by rw [hrr]; simp
        rw [mem_ready] at hm
        obtain ⟨h0, o, ho, _⟩ := hm
        have hlt : j < ops.size := (Array.getElem?_eq_some_iff.1 ho).1
        rw [hall j (by omega)] at h0
        cases h0
    exact ⟨hr, final listed a w e S hsz hr r hb hs⟩
  | succ fuel ih =>
    intro listed a w e S hsz hc r hb hs
    refine ⟨fun hr => final listed a w e S hsz hr r hb hs, fun i hi => ?_⟩
    rw [mem_ready] at hi
    obtain ⟨h0, o, ho, hpre⟩ := hi
    have hlt : i < ops.size := (Array.getElem?_eq_some_iff.1 ho).1
    have hlf : listed.toList[i]? = some false := by
      have : i < listed.size := by omega
      simp [this] at h0 ⊢
      exact h0
    obtain ⟨x, hx, hst⟩ := hstep i o ho
    unfold wpOp
    simp only [ho]
    refine hst e a w S _ Q r (fun k y hk => ?_) (fun e' a' w' r' => ?_)
    · rcases availL_get hk with ⟨ed, h1, h2, h3⟩ | h
      · have h4 : D[ed.on]? = some (some k, y) := by
          rw [List.getElem?_take] at h3
          split at h3
          · exact h3
          · cases h3
        exact hs ed.on k y (hpre ed (by simpa using h1) h2) h4
      · exact hb k y h
    · refine ih (listed.setIfInBounds i true) a' w' e' _ (by simpa using hsz) ?_ r' (fun k y hk => ?_) (fun j d y hj hy => ?_)
      · rw [Array.toList_setIfInBounds]
        have hlt' : i < listed.toList.length := by simpa using (by omega : i < listed.size)
        have hg : listed.toList[i] = false := by
          have := List.getElem?_eq_getElem hlt'
          rw [hlf] at this
          simpa using this.symm
        rw [List.count_set hlt', hg, hc]
        simp
      · cases hd : o.dst with
        | none => exact hb k y hk
        | some d =>
          simp only [putS]
          rw [get_cons]
          by_cases h : d = k
          · subst h
            rw [hbase i o d ho hd] at hk
            cases hk
          · rw [if_neg h]; exact hb k y hk
      · by_cases hji : j = i
        · subst hji
          rw [hx] at hy
          simp only [Option.some.injEq, Prod.mk.injEq] at hy
          rw [hy.1, hy.2]
          simp only [putS]
          rw [get_cons, if_pos rfl]
        · rw [getD_set_ne false (Ne.symm hji)] at hj
          have hold := hs j d y hj hy
          cases hd : o.dst with
          | none => exact hold
          | some d' =>
            simp only [putS]
            rw [get_cons]
            by_cases h : d' = d
            · exfalso
              subst h
              have hjl : j < ops.size := by
                rw [← hD]
                rcases Nat.lt_or_ge j D.length with h | h
                · exact h
                · rw [List.getElem?_eq_none h] at hy; cases hy
              obtain ⟨x', hx', _⟩ := hstep j ops[j] (by simp [hjl])
              rw [hx'] at hy
              simp only [Option.some.injEq, Prod.mk.injEq] at hy
              exact hji (hdist j i ops[j] o d' (by simp [hjl]) ho hy.1 hd)
            · rw [if_neg h]; exact hold

def eraseD : List Oper → List (Nat × AV) → Option (List (Nat × AV))
  | [], s => some s
  | o :: r, s => match o.dst with
    | none => eraseD r s
    | some d => normG (eraseS d s) fun s => eraseD r s

theorem eraseD_get : ∀ {l : List Oper} {s base : List (Nat × AV)} {k : Nat} {y : AV}, eraseD l s = some base → get base k = some y → get s k = some y
  | [], s, base, k, y, h, hk => by simp only [eraseD, Option.some.injEq] at h; subst h; exact hk
  | o :: r, s, base, k, y, h, hk => by
    simp only [eraseD] at h
    split at h
    · exact eraseD_get h hk
    · rw [normG_eq] at h
      have := eraseD_get h hk
      rw [get_eraseS] at this
      split at this
      · cases this
      · exact this

theorem C_drawD {id : Nat} {Q : Exit → St → Prop} {s base : List (Nat × AV)} {c : List Ch} (hb : eraseD ops.toList s = some base) (hchk : chkD base 0 [] ops.toList = true)
    (h : SymD X n ops base c (fun s => Q .normal s) ops.toList []) : SymC X n (.region id ops true) ⟨s, c⟩ Q := by
  intro e a w r
  have hbs : ∀ k y, get base k = some y → get s k = some y := fun k y hk => eraseD_get hb hk
  obtain ⟨D, _, hl, hK, hs⟩ := h.plan
  obtain ⟨c1, c2⟩ := chkD_spec hchk
  have hbel : Below w.heap.size w { w with drawn := w.drawn + 1 } := ⟨rfl, rfl, rfl, Nat.le_refl _, fun _ _ => rfl⟩
  refine wp_region_any X.wide ?_
  refine any_of_D (X := X) (Q := concX X n Q) (n := n) (base := base) (c := c) (D := D) (by simpa using hl) (fun i o ho => ?_) (fun i o ho => ?_) (fun i j o o' d hi hj => c2 i j o o' d (by simpa using hi) (by simpa using hj)) (fun i o d ho hd => ((c1 i o (by simpa using ho)).2 d hd).1)
    (fun e a w r => ⟨e, _, r, hK⟩) _ _ a _ e base (by simp) (by simp) ((r.below hbel).less hbs (fun h => h)) (fun k y hk => hk) (fun i d x hi => ?_)
  · have := hs i o (by simpa using ho)
    simpa using this
  · simpa using (c1 i o (by simpa using ho)).1
  · rcases Nat.lt_or_ge i ops.size with h | h
    · simp [h] at hi
    · simp [Nat.not_lt.2 h] at hi
end
end Go.Sy

namespace Go.Sy
open Go.RowKit

abbrev VEC {α : Type} [Inhabited α] (k t esz : Nat) (cells : α → List AV) (l : List α) : Ch := .vec k t esz l.length (fun i => cells (l.getD i default))

theorem getD_snoc_lt {α : Type} {d : α} {l : List α} {x : α} {i : Nat} (h : i < l.length) : (l ++ [x]).getD i d = l.getD i d := by
  simp [List.getD, List.getElem?_append_left h]
theorem getD_snoc_eq {α : Type} {d : α} {l : List α} {x : α} : (l ++ [x]).getD l.length d = x := by
  simp [List.getD]

section
variable {P : Program} {T : Tab} {X : Ctx P T} {n : Nat} {e : Env} {st : St} {a : Act} {w : World} {ops : Array Oper} {K : St → Prop}

theorem O_push {α : Type} [Inhabited α] (cells : α → List AV) (l : List α) (x : α) {dst : Nat} {so_ xo : Operand} {t ty : TypeId} {pos : String} {aft : Array Edge} {rest : List Oper} {s : List (Nat × AV)} {c r1 r2 : List Ch} {k j : Nat} {el esz : Nat} {row2 : Nat → List AV} {by_ : Nat} {sz0 b0 : Nat} {ag0 ag1 : Bool} {z0 z1 : List Value} {d1 : TD}
    (s2 : List (Nat × AV))
    (hTs : T t = some ⟨sz0, b0, ag0, z0, .slice el⟩) (hTe : T el = some ⟨esz, by_, ag1, z1, d1⟩) (hpos : Nat.blt 0 esz = true)
    (hso : opd s so_ = some (.own k)) (hk : takeCh k c = some (VEC k el esz cells l, r1))
    (hxo : opd s xo = some (.own j)) (hj : takeCh j c = some (.vec j el esz 1 row2, r2)) (hx : row2 0 = cells x) (hxl : (cells x).length = esz)
    (hd : Nat.blt dst n = true) (hs2 : subS s2 s) (hf : freshS dst s2 = true) (hfc : freshC dst r1 = true)
    (hlen : (l.length + 1) * by_ ≤ 140737488355328) (hlen2 : l.length + 1 ≤ maxLen)
    (h : SymO X n ops rest ⟨(dst, .own dst) :: s2, VEC dst el esz cells (l ++ [x]) :: r1⟩ K) :
    SymO X n ops (⟨some dst, .call ⟨.builtin .append, #[so_, xo], #[t, t]⟩, ty, pos, aft, none⟩ :: rest) ⟨s, c⟩ K := by
  have hr2 : ∀ i, i < 1 → (row2 i).length = esz := fun i hi => by
    obtain rfl : i = 0 := by omega
    rw [hx]; exact hxl
  refine O_append (m3 := (l ++ [x]).length) (row3 := fun i => cells ((l ++ [x]).getD i default)) (m2 := 1) (row2 := row2) (s2 := s2) hTs hTe hpos hso hk (src_own hxo hj hr2) hd hs2 hf hfc hlen hlen2 (by simp) (fun i hi => ?_) h
  simp only [List.length_append, List.length_singleton] at hi
  unfold appRow
  by_cases h : i < l.length
  · rw [if_pos h]
    simp only [getD_snoc_lt h]
  · rw [if_neg h]
    obtain rfl : i = l.length := by omega
    rw [Nat.sub_self, hx]
    simp only [getD_snoc_eq]

theorem Le.nilvec {α : Type} [Inhabited α] (cells : α → List AV) {s : List (Nat × AV)} {c : List Ch} (i d : Nat) (t : TypeId) (esz : Nat) (hi : get s i = some (.v (.slice none 0 0))) (hf : freshS d s = true) (hc : freshC d c = true) :
    Le X n ⟨s, c⟩ ⟨(i, .own d) :: s, VEC d t esz cells ([] : List α) :: c⟩ := Le.nilown i d t esz _ hi hf hc

theorem Le.freezeL {α : Type} [Inhabited α] {cells : α → List AV} {l : List α} {s : List (Nat × AV)} {c rest : List Ch} (i : Nat) {k : Nat} {t : TypeId} {esz : Nat} (hi : get s i = some (.own k)) (hk : takeCh k c = some (VEC k t esz cells l, rest)) :
    Le X n ⟨s, c⟩ ⟨(i, SL esz cells l) :: s, rest⟩ := Le.freeze i hi hk

theorem O_join {l : List Oper} (s2 : St) (h1 : SymO X n ops l st (fun s => Le X n s s2)) (h2 : ∀ s, Le X n s s2 → K s) : SymO X n ops l st K :=
  fun e a w Q r hq => h1 e a w Q r (fun e' st' a' w' hk hr => hq e' st' a' w' (h2 st' hk) hr)

end
end Go.Sy

namespace Go.Sy
open Go.RowKit

def buildA (T : Tab) (st : St) : Op → Option AV
  | .build t parts => (match T t with
    | some ⟨_, _, _, zero, .struct fs⟩ => (match opdP st.s parts.toList with
      | some ps => (match fillA (fs[·]?) (zero.map constA) ps with
        | some cs => some (.agg cs)
        | none => none)
      | none => none)
    | _ => none)
  | _ => none

section
variable {P : Program} {T : Tab} {X : Ctx P T} {n : Nat} {e : Env} {st : St} {a : Act} {w : World} {ops : Array Oper} {K : St → Prop}

theorem buildA_sound (r : Rel X n e st a w) {o : Oper} {av : AV} (h : buildA T st o.op = some av) : ∃ v, Rep e av v ∧ ∀ w', (execOp a.eval o).run P w' = .ok (.value v) w' := by
  have hT := X.ok
  obtain ⟨dst, op, ty, pos, aft, gd⟩ := o
  simp only at h
  unfold buildA at h
  split at h
  · rename_i t parts
    split at h
    · rename_i sz by_ ag zero fs hTt
      split at h
      · rename_i ps hps
        split at h
        · rename_i cs hcs
          simp only [Option.some.injEq] at h
          subst h
          obtain ⟨pi, z, g1, g2, g3, g4, g5, g6, g7⟩ := (hT _ _ hTt).info
          obtain ⟨d, e1, _, e3⟩ := (hT _ _ hTt).desc
          simp only [TDOK] at e3
          obtain ⟨fields, rfl, e4, e5⟩ := e3
          obtain ⟨q1, q2⟩ := opdP_sound r hps
          simp only at g5 g6
          have hplace : ∀ (i : Nat) (q : Nat × Nat), fs[i]? = some q → (fields.map fun f => (f.offset, P.cellsOf f.type))[i]? = some q := by
            intro i q hq
            rw [← e4] at hq
            simpa using hq
          obtain ⟨out, o1, o2⟩ := fill_sound (e := e) hplace ps (parts.toList.map fun (i, x) => (i, a.eval x)) _ z.cells cs (by simp [q1]) q2 (by rw [g5]; exact zero_sound e g6) hcs
          refine ⟨.agg out, by simp only [Rep]; exact ⟨_, rfl, o2⟩, fun w' => ?_⟩
          have hmm := run_places (w := w') fields e5
          simp only [execOp, Instr.build, Sem.run_bind, zeroValue, typeInfo, run_program, Result.andThen_ok, g1, Sem.run_pure, g4, run_underlying e1, hmm, Array.toList_map]
          rw [o1]
          rfl
        · cases h
      · cases h
    · cases h
  · cases h

theorem D_val {base : List (Nat × AV)} {c : List Ch} {o : Oper} {rest : List Oper} {done : Done} (x : AV) (hg : guardA ops ⟨availL done o.after.toList base, c⟩ o = some true) (hd : dstOK n o.dst = true)
    (hrun : ∀ e a w, Rel X n e ⟨availL done o.after.toList base, c⟩ a w → ∃ v, Rep e x v ∧ ∀ w', SameAs w w' → (execOp a.eval o).run P w' = .ok (.value v) w')
    (k : SymD X n ops base c K rest (done ++ [(o.dst, x)])) : SymD X n ops base c K (o :: rest) done := by
  refine ⟨x, fun e a w S K' Q r hS hk => ?_, k⟩
  have r' : Rel X n e ⟨availL done o.after.toList base, c⟩ a w := r.less hS (fun h => h)
  rw [if_pos (guardA_sound r' hg)]
  obtain ⟨v, h2, h1⟩ := hrun e a w r'
  refine .inl ?_
  unfold Oper.wp
  rw [h1 w (SameAs.refl w)]
  exact hk _ _ _ (putOK r hd h2)

def stepDB {P : Program} {T : Tab} (X : Ctx P T) (n : Nat) (ops : Array Oper) (base : List (Nat × AV)) (c : List Ch) (K : St → Prop) : List Oper → Done → Option Prop
  | [], _ => none
  | o :: rest, done => normG (availL done o.after.toList base) fun Si => match guardA ops ⟨Si, c⟩ o, dstOK n o.dst, buildA T ⟨Si, c⟩ o.op with
    | some true, true, some x => normA x fun x => normG (done ++ [(o.dst, x)]) fun done => some (SymD X n ops base c K rest done)
    | _, _, _ => none

theorem sdb {base : List (Nat × AV)} {c : List Ch} {l : List Oper} {done : Done} {p : Prop} (h : stepDB X n ops base c K l done = some p) (hp : p) : SymD X n ops base c K l done := by
  cases l with
  | nil => simp [stepDB] at h
  | cons o rest =>
    simp only [stepDB, normG_eq] at h
    split at h
    · rename_i x hg hd hb
      simp only [normA_eq, normG_eq, Option.some.injEq] at h
      subst h
      exact D_val x hg hd (fun e a w r => let ⟨v, h1, h2⟩ := buildA_sound r hb; ⟨v, h1, fun w' _ => h2 w'⟩) hp
    · cases h

end
end Go.Sy

namespace Go.Sy
open Go.RowKit

def bslA (T : Tab) (st : St) : Op → Option (Nat × Nat × Nat × List AV)
  | .buildSlice t len parts => (match T t, opdP st.s parts.toList with
    | some ⟨_, _, _, _, .slice el⟩, some ps => (match T el with
      | some ti => (match fillA (fun i => some (i * ti.size, ti.size)) (baseA ti.zero (len * ti.size)) ps with
        | some cs => (match Nat.ble (len * ti.size) 16777216 && Nat.blt 0 ti.size && Nat.blt 0 (len * ti.size) && AV.imm.immL cs with
          | true => some (el, ti.size, len, cs)
          | false => none)
        | none => none)
      | none => none)
    | _, _ => none)
  | _ => none

def numsA (row : Nat → List AV) : Nat → Nat → Option (List Int)
  | 0, _ => some []
  | m + 1, i => match row i, numsA row m (i + 1) with
    | [.v (.int .u8 n)], some l => some (n :: l)
    | _, _ => none

def bytesA (T : Tab) (st : St) : Op → Option AV
  | .convert src dst x => (match T src, T dst, opd st.s x with
    | some ⟨_, _, _, _, .slice el⟩, some ⟨_, _, _, _, .str⟩, some (.sl (m + 1) 1 row) => (match T el, numsA row (m + 1) 0 with
      | some ⟨_, _, _, _, .int .u8⟩, some l => some (.s (l.map fun n => UInt8.ofNat n.toNat))
      | _, _ => none)
    | some ⟨_, _, _, _, .slice el⟩, some ⟨_, _, _, _, .str⟩, some (.own k) => (match takeCh k st.c with
      | some (.vec _ _ 1 (m + 1) row, _) => (match T el, numsA row (m + 1) 0 with
        | some ⟨_, _, _, _, .int .u8⟩, some l => some (.s (l.map fun n => UInt8.ofNat n.toNat))
        | _, _ => none)
      | _ => none)
    | _, _, _ => none)
  | _ => none

theorem numsA_spec {row : Nat → List AV} : ∀ {m i : Nat} {l : List Int}, numsA row m i = some l → l.length = m ∧ ∀ j, j < m → row (i + j) = [.v (.int .u8 (l.getD j 0))]
  | 0, i, l, h => by simp only [numsA, Option.some.injEq] at h; subst h; exact ⟨rfl, fun j hj => by omega⟩
  | m + 1, i, l, h => by
    simp only [numsA] at h
    split at h
    · rename_i n l' h1 h2
      simp only [Option.some.injEq] at h
      subst h
      obtain ⟨g1, g2⟩ := numsA_spec h2
      refine ⟨by simp [g1], fun j hj => ?_⟩
      cases j with
      | zero => simpa using h1
      | succ j =>
        have := g2 j (by omega)
        rw [show i + (j + 1) = i + 1 + j by omega, this]
        rfl
    · cases h

section
variable {P : Program} {T : Tab} {X : Ctx P T} {n : Nat} {e : Env} {st : St} {a : Act} {w : World} {ops : Array Oper} {K : St → Prop}

theorem bslA_sound (r : Rel X n e st a w) {o : Oper} {el esz len : Nat} {cs : List AV} (h : bslA T st o.op = some (el, esz, len, cs)) :
    ∃ arr : Array Value, arr.size = len * esz ∧ len ≤ maxLen ∧ RowsL e.G esz len (chunkRow esz cs) arr.toList ∧
      ∀ w', (execOp a.eval o).run P w' = .ok (.value (.slice (some ⟨w'.heap.size, 0, none⟩) len len)) (w'.alloc (.cells arr el)) := by
  have hT := X.ok
  obtain ⟨dst, op, ty, pos, aft, gd⟩ := o
  simp only at h
  unfold bslA at h
  split at h
  · rename_i t len parts
    split at h
    · rename_i sz by_ ag zero el ps hTt hps
      split at h
      · rename_i ti hTe
        split at h
        · rename_i cs hcs
          split at h
          · rename_i hok
            simp only [Bool.and_eq_true] at hok
            obtain ⟨⟨⟨k1, k2⟩, k4⟩, k3⟩ := hok
            have k4 : 0 < len * ti.size := by have := k4; simp only [Nat.blt] at this; have := Nat.le_of_ble_eq_true this; omega
            have k1 := Nat.le_of_ble_eq_true k1
            have k2 : 0 < ti.size := by have := k2; simp only [Nat.blt] at this; have := Nat.le_of_ble_eq_true this; omega
            obtain ⟨pi, z, g1, g2, g3, g4, g5, g6, g7⟩ := (hT _ _ hTe).info
            obtain ⟨dd, e1, _, e3⟩ := (hT _ _ hTt).desc
            simp only [TDOK] at e3
            subst e3
            obtain ⟨q1, q2⟩ := opdP_sound r hps
            have hzs : z.cells.size = ti.size := by
              have : z.cells.toList.length = ti.size := by rw [g5]; exact g7
              simpa using this
            have hbase : RepL e (baseA ti.zero (len * ti.size)) ((Array.range (len * ti.size)).map (fun j => z.cells[j % z.cells.size]!)).toList := by
              refine RepL.mk (by simp [baseA]) (fun j c hc => ?_)
              unfold baseA at hc
              rw [List.getElem?_map] at hc
              have hj : j < len * ti.size := by
                rcases Nat.lt_or_ge j (len * ti.size) with h | h
                · exact h
                · rw [List.getElem?_eq_none (by simpa using h)] at hc; cases hc
              rw [List.getElem?_range hj] at hc
              simp only [Option.map_some, Option.some.injEq] at hc
              subst hc
              have hlt : j % z.cells.size < z.cells.size := Nat.mod_lt _ (by omega)
              have hge : ti.zero.getD (j % ti.zero.length) undef = z.cells[j % z.cells.size]! := by
                have hlen : ti.zero.length = z.cells.size := by rw [g7, hzs]
                rw [hlen, ← g5]
                simp [List.getD, hlt]
              refine ⟨z.cells[j % z.cells.size]!, by simp [hj], by rw [hge]; exact constA_sound e, ?_⟩
              have hmem : z.cells[j % z.cells.size]! ∈ ti.zero := by
                rw [← g5, getElem!_pos z.cells _ hlt]
                simp
              exact (List.all_eq_true.1 g6) _ hmem
            have hplace : ∀ (i : Nat) (q : Nat × Nat), (fun i => some (i * ti.size, ti.size)) i = some q → (fun i => some (i * ti.size, ti.size)) i = some q := fun _ _ h => h
            obtain ⟨out, o1, o2⟩ := fill_sound (e := e) hplace ps (parts.toList.map fun (i, x) => (i, a.eval x)) _ _ cs (by simp [q1]) q2 hbase hcs
            have hfl : ∀ (parts : List (Nat × AV)) (cells res : List AV), fillA (fun i => some (i * ti.size, ti.size)) cells parts = some res → res.length = cells.length := by
              intro parts
              induction parts with
              | nil => intro cells res h; simp only [fillA, Option.some.injEq] at h; rw [h]
              | cons p parts ih =>
                intro cells res h
                obtain ⟨i, x⟩ := p
                simp only [fillA] at h
                split at h
                · rename_i hok2
                  simp only [Bool.and_eq_true] at hok2
                  have u1 := Nat.eq_of_beq_eq_true hok2.1.1
                  have u2 := Nat.le_of_ble_eq_true hok2.1.2
                  rw [normL_eq] at h
                  rw [ih _ _ h]
                  simp [splice]
                  omega
                · cases h
            have hcl : cs.length = len * ti.size := by rw [hfl _ _ _ hcs]; simp [baseA]
            have hol : out.size = len * ti.size := by have := RepL.len o2; simp at this; omega
            simp only [Option.some.injEq, Prod.mk.injEq] at h
            obtain ⟨rfl, rfl, rfl, rfl⟩ := h
            have hm : len ≤ maxLen := by
              have : len * 1 ≤ len * ti.size := Nat.mul_le_mul_left _ k2
              simp only [maxLen]; omega
            refine ⟨out, hol, hm, rows_chunk (RepL.toI cs k3 o2) hcl, fun w' => ?_⟩
            have hn0 : ¬ len * ti.size > 2 ^ 24 := by omega
            simp only [execOp, Instr.buildSlice, Sem.run_bind, run_underlying e1, Result.andThen_ok, hT.size hTe, hn0, if_false, Sem.run_pure]
            have hz : ¬ len * ti.size = 0 := by omega
            simp only [hz, if_false, Sem.run_bind, zeroValue, typeInfo, run_program, Result.andThen_ok, g1, Sem.run_pure, g4, Array.toList_map, newRow]
            rw [o1]
            rfl
          · cases h
        · cases h
      · cases h
    · cases h
  · cases h

def stepDS {P : Program} {T : Tab} (X : Ctx P T) (n : Nat) (ops : Array Oper) (base : List (Nat × AV)) (c : List Ch) (K : St → Prop) : List Oper → Done → Option Prop
  | [], _ => none
  | o :: rest, done => normG (availL done o.after.toList base) fun Si => match guardA ops ⟨Si, c⟩ o, dstOK n o.dst, bslA T ⟨Si, c⟩ o.op with
    | some true, true, some (el, esz, len, cs) => normL cs fun cs => normG (done ++ [(o.dst, .sl len esz (chunkRow esz cs))]) fun done => some (SymD X n ops base c K rest done)
    | _, _, _ => none

theorem sds {base : List (Nat × AV)} {c : List Ch} {l : List Oper} {done : Done} {p : Prop} (h : stepDS X n ops base c K l done = some p) (hp : p) : SymD X n ops base c K l done := by
  cases l with
  | nil => simp [stepDS] at h
  | cons o rest =>
    simp only [stepDS, normG_eq] at h
    split at h
    · rename_i el esz len cs hg hd hb
      simp only [normL_eq, normG_eq, Option.some.injEq] at h
      subst h
      refine ⟨_, fun e a w S K' Q r hS hk => ?_, hp⟩
      have r' : Rel X n e ⟨availL done o.after.toList base, c⟩ a w := r.less hS (fun h => h)
      rw [if_pos (guardA_sound r' hg)]
      obtain ⟨arr, b1, b2, b3, b4⟩ := bslA_sound r' hb
      refine .inl ?_
      unfold Oper.wp
      rw [b4 w]
      let G' : IM := ⟨fun b oo => if b = w.heap.size then arr.toList[oo]? else e.G b oo, e.G.m⟩
      have hlt : ∀ b o v, e.G b o = some v → b < w.heap.size := fun b o v h => Go.block_lt_of_cell (r.im b o v h)
      have hle : IM.le e.G G' := by
        refine ⟨?_, fun _ _ h => h⟩
        intro b o v hv
        show (if b = w.heap.size then arr.toList[o]? else e.G b o) = some v
        rw [if_neg (by have := hlt b o v hv; omega)]
        exact hv
      have hnew : (w.alloc (.cells arr el)).heap[w.heap.size]? = some (.cells arr el (0, 0)) := Go.heap_alloc_new w _
      have him : ImOK G' (w.alloc (.cells arr el)) := by
        refine ⟨?_, fun b x hx => (r.mz b x hx).keep (H := G') hle (Go.heap_alloc_old w _ (r.mz b x hx).lt) (fun o v hv => ⟨v, by
          have hv' : (if b = w.heap.size then arr.toList[o]? else e.G b o) = some v := hv
          rw [if_neg (by have := (r.mz b x hx).lt; omega)] at hv'
          exact hv'⟩)⟩
        intro b o v hv
        have hv' : (if b = w.heap.size then arr.toList[o]? else e.G b o) = some v := hv
        split at hv'
        · rename_i hb; subst hb
          rw [cell_of_row _ _ o arr el (0, 0) hnew]
          simpa using hv'
        · have h1 := r.im b o v hv'
          simp only [World.cell?] at h1 ⊢
          rw [Go.heap_alloc_old w _ (hlt b o v hv')]
          exact h1
      have r2 := r.after hle ⟨fun b o v hv => by
        have hv' : (if b = w.heap.size then arr.toList[o]? else e.G b o) = some v := hv
        split at hv'
        · rename_i hb; exact .inr (by omega)
        · exact .inl hv', fun _ _ h => .inl h⟩ him ⟨rfl, rfl, rfl, by simp, fun b hb _ => Go.heap_alloc_old w _ hb⟩
      refine hk _ _ _ (putOK r2 hd ?_)
      simp only [Rep, RepI]
      refine ⟨_, len, rfl, Nat.le_refl _, .inr ⟨w.heap.size, 0, rfl, fun q hq => CellsAt.mk (fun j x hx => ?_)⟩⟩
      obtain ⟨z, z1, z2, z3⟩ := (b3 q hq).get j x hx
      have hj : j < esz := by
        rcases Nat.lt_or_ge j esz with h | h
        · exact h
        · rw [List.getElem?_eq_none (by simp; omega)] at z1; cases z1
      refine ⟨z, ?_, RepI.mono hle x z2, z3⟩
      show (if w.heap.size = w.heap.size then arr.toList[0 + q * esz + j]? else _) = some z
      rw [if_pos rfl, Nat.zero_add]
      rw [List.getElem?_take, if_pos hj, List.getElem?_drop] at z1
      exact z1
    · cases h

theorem bytesA_sound (r : Rel X n e st a w) {o : Oper} {av : AV} (h : bytesA T st o.op = some av) : ∃ v, Rep e av v ∧ ∀ w', SameAs w w' → (execOp a.eval o).run P w' = .ok (.value v) w' := by
  have hT := X.ok
  obtain ⟨dst, op, ty, pos, aft, gd⟩ := o
  simp only at h
  unfold bytesA at h
  split at h
  · rename_i src dst' x
    have key : ∀ {el m : Nat} {row : Nat → List AV} {l : List Int} {b off cap : Nat} {s1 s2 s3 s4 : Nat} {g1 g2 g3 : Bool} {z1 z2 z3 : List Value} {s5 s6 : Nat}, T src = some ⟨s1, s2, g1, z1, .slice el⟩ → T dst' = some ⟨s3, s4, g2, z2, .str⟩ → T el = some ⟨s5, s6, g3, z3, .int .u8⟩ → numsA row m 0 = some l →
        a.eval x = .slice (some ⟨b, off, none⟩) m cap → (∀ i, i < m → Readable e w b (off + i) (row i)) →
        ∃ v, Rep e (.s (l.map fun n => UInt8.ofNat n.toNat)) v ∧ ∀ w', SameAs w w' → (execOp a.eval ⟨dst, .convert src dst' x, ty, pos, aft, gd⟩).run P w' = .ok (.value v) w' := by
      intro el m row l b off cap s1 s2 s3 s4 g1 g2 g3 z1 z2 z3 s5 s6 t1 t2 t3 hn hx hr
      obtain ⟨d1, e1, _, e2⟩ := (hT _ _ t1).desc
      obtain ⟨d2, e3, _, e4⟩ := (hT _ _ t2).desc
      obtain ⟨d3, e5, _, e6⟩ := (hT _ _ t3).desc
      simp only [TDOK] at e2 e4 e6
      subst e2 e4 e6
      obtain ⟨n1, n2⟩ := numsA_spec hn
      refine ⟨S (l.map fun n => UInt8.ofNat n.toNat), Rep_s, fun w' hs => ?_⟩
      have := run_convert_bytes_arg (P := P) w' src el e1 e5 b off m cap l n1 (fun i hi => by
        have h0 := n2 i hi
        rw [Nat.zero_add] at h0
        obtain ⟨z, z1, z2, z3⟩ := hr i hi 0 (.v (.int .u8 (l.getD i 0))) (by rw [h0]; rfl)
        simp only [Rep] at z2
        subst z2
        exact hs.cell z1) dst' e3
      simp only [execOp, hx, Sem.run_bind, this, Result.andThen_ok, Sem.run_pure]
      rfl
    split at h
    · rename_i s1 s2 g1 z1 el s3 s4 g2 z2 m row t1 t2 hx
      split at h
      · rename_i s5 s6 g3 z3 l t3 hn
        simp only [Option.some.injEq] at h
        subst h
        have := opd_sound r hx
        simp only [Rep, RepI] at this
        obtain ⟨aa, cap, e1, e2, e3⟩ := this
        rcases e3 with e3 | ⟨b, o, rfl, e3⟩
        · omega
        · refine key t1 t2 t3 hn e1 (fun i hi => ?_)
          have := readable_cp r (e3 i hi)
          simpa using this
      · cases h
    · rename_i s1 s2 g1 z1 el s3 s4 g2 z2 k t1 t2 hx
      split at h
      · rename_i kk tt m row rest htk
        split at h
        · rename_i s5 s6 g3 z3 l t3 hn
          simp only [Option.some.injEq] at h
          subst h
          have := opd_sound r hx
          simp only [Rep] at this
          obtain ⟨hx', _⟩ := this
          obtain ⟨cap, e1, _⟩ := r.heap.vecread htk (i := 0) (by omega)
          rw [e1] at hx'
          refine key t1 t2 t3 hn hx' (fun i hi => ?_)
          obtain ⟨_, _, e2⟩ := r.heap.vecread htk (i := i) hi
          simpa using e2
        · cases h
      · cases h
    · cases h
  · cases h

def stepDV {P : Program} {T : Tab} (X : Ctx P T) (n : Nat) (ops : Array Oper) (base : List (Nat × AV)) (c : List Ch) (K : St → Prop) : List Oper → Done → Option Prop
  | [], _ => none
  | o :: rest, done => normG (availL done o.after.toList base) fun Si => match guardA ops ⟨Si, c⟩ o, dstOK n o.dst, bytesA T ⟨Si, c⟩ o.op with
    | some true, true, some x => normG (done ++ [(o.dst, x)]) fun done => some (SymD X n ops base c K rest done)
    | _, _, _ => none

theorem sdv {base : List (Nat × AV)} {c : List Ch} {l : List Oper} {done : Done} {p : Prop} (h : stepDV X n ops base c K l done = some p) (hp : p) : SymD X n ops base c K l done := by
  cases l with
  | nil => simp [stepDV] at h
  | cons o rest =>
    simp only [stepDV, normG_eq] at h
    split at h
    · rename_i x hg hd hb
      simp only [Option.some.injEq] at h
      subst h
      exact D_val x hg hd (fun e a w r => bytesA_sound r hb) hp
    · cases h

theorem C_scope {X : Ctx P T} {n : Nat} {st : St} {c : Code} {Q : Exit → St → Prop} (h : SymC X n c st (fun ex s => match ex with
    | .goto _ => False
    | ex => Q ex s)) : SymC X n (.scope c) st Q := by
  intro e a w r
  refine wp_scope_straight (Code.wp_mono (fun ex a' w' hc => ?_) (h e a w r))
  cases ex with
  | goto l => obtain ⟨e', st', h1, h2⟩ := hc; exact h2.elim
  | normal => exact hc
  | exit id => exact hc
  | ret => exact hc
  | panic ch => exact hc
  | outgrown => exact hc
end

def flatL : List AV → Option (List Value)
  | [] => some []
  | x :: xs => match flatV x, flatL xs with
    | some v, some vs => some (v :: vs)
    | _, _ => none
theorem flatL_sound {G : IM} : ∀ {avs : List AV} {vs cargs : List Value}, flatL avs = some vs → RepIT G avs cargs → cargs = vs
  | [], vs, cargs, h, r => by simp only [flatL, Option.some.injEq] at h; subst h; simpa [RepIT] using r
  | x :: xs, vs, cargs, h, r => by
    simp only [flatL] at h
    split at h
    · rename_i v vs' h1 h2
      simp only [Option.some.injEq] at h
      subst h
      simp only [RepIT] at r
      obtain ⟨z, zs, rfl, r1, r2⟩ := r
      rw [(flatV_sound h1 r1).1, flatL_sound h2 r2]
    · cases h

theorem FnP.ofCalls {P : Program} {f : FuncId} {avs : List AV} {vs : List Value} {x : AV} {v : Value} (hc : Callable P f) (ha : flatL avs = some vs) (hx : flatV x = some v) (hxi : ∀ G, RepI G x v)
    (h : ∀ w, Calls P f vs.toArray w fun e w' => e = .returned v ∧ Below w.heap.size w w') : FnP P f avs (· = x) := by
  refine ⟨hc, fun G w cargs him hr => ?_⟩
  rw [flatL_sound ha hr]
  refine (h w).mono ?_
  rintro e w' ⟨rfl, hb⟩
  exact ⟨x, v, G, rfl, rfl, hxi G, IM.le_refl _, NewIn.refl _ _, ⟨fun b o u hu => by
    have h1 := him.1 b o u hu
    have h2 := Go.block_lt_of_cell h1
    simp only [World.cell?] at h1 ⊢
    rw [hb.block b h2]
    exact h1, fun b x hx => (him.2 b x hx).keep0 (hb.block b (him.2 b x hx).lt)⟩, .of hb⟩
end Go.Sy

namespace Go.Sy
open Go.RowKit

abbrev U8c (b : UInt8) : List AV := [.v (.int .u8 (b.toNat : Int))]

section
variable {P : Program} {T : Tab} {X : Ctx P T} {n : Nat} {e : Env} {st : St} {a : Act} {w : World} {ops : Array Oper} {K : St → Prop}

theorem text_run (r : Rel X n e st a w) {src dst' : TypeId} {x : Operand} {dst : Option Tmp} {ty : TypeId} {pos : String} {aft : Array Edge} {gd : Option (Nat × Bool)} {l : List UInt8} {b off cap el : Nat} {s1 s2 s3 s4 s5 s6 : Nat} {g1 g2 g3 : Bool} {z1 z2 z3 : List Value}
    (t1 : T src = some ⟨s1, s2, g1, z1, .slice el⟩) (t2 : T dst' = some ⟨s3, s4, g2, z2, .str⟩) (t3 : T el = some ⟨s5, s6, g3, z3, .int .u8⟩)
    (hx : a.eval x = .slice (some ⟨b, off, none⟩) l.length cap) (hr : ∀ i, i < l.length → Readable e w b (off + i) (U8c (l.getD i default))) :
    ∀ w', SameAs w w' → (execOp a.eval ⟨dst, .convert src dst' x, ty, pos, aft, gd⟩).run P w' = .ok (.value (S l)) w' := by
  have hT := X.ok
  obtain ⟨d1, e1, _, e2⟩ := (hT _ _ t1).desc
  obtain ⟨d2, e3, _, e4⟩ := (hT _ _ t2).desc
  obtain ⟨d3, e5, _, e6⟩ := (hT _ _ t3).desc
  simp only [TDOK] at e2 e4 e6
  subst e2 e4 e6
  intro w' hs
  have := run_convert_bytes_arg (P := P) w' src el e1 e5 b off l.length cap (l.map (fun b => (b.toNat : Int))) (by simp) (fun i hi => by
    obtain ⟨z, z1, z2, z3⟩ := hr i hi 0 _ rfl
    simp only [Rep] at z2
    subst z2
    have hg : (l.map (fun b => (b.toNat : Int))).getD i 0 = ((l.getD i default).toNat : Int) := by
      simp [List.getD, List.getElem?_eq_getElem hi]
    rw [hg]
    exact hs.cell z1) dst' e3
  simp only [execOp, hx, Sem.run_bind, this, Result.andThen_ok, Sem.run_pure]
  unfold strOfNums S
  have hid : (l.map (fun b => (b.toNat : Int))).map (fun n => UInt8.ofNat n.toNat) = l := by
    rw [List.map_map]
    conv => rhs; rw [← List.map_id l]
    refine List.map_congr_left (fun b _ => ?_)
    simp
  rw [hid]

theorem O_text (l : List UInt8) {dst : Nat} {src dst' : TypeId} {x : Operand} {ty : TypeId} {pos : String} {aft : Array Edge} {rest : List Oper} {s : List (Nat × AV)} {c r1 : List Ch} {k tt el : Nat} {s1 s2 s3 s4 s5 s6 : Nat} {g1 g2 g3 : Bool} {z1 z2 z3 : List Value}
    (t1 : T src = some ⟨s1, s2, g1, z1, .slice el⟩) (t2 : T dst' = some ⟨s3, s4, g2, z2, .str⟩) (t3 : T el = some ⟨s5, s6, g3, z3, .int .u8⟩)
    (hx : opd s x = some (.own k)) (hk : takeCh k c = some (VEC k tt 1 U8c l, r1)) (hl : 0 < l.length) (hd : Nat.blt dst n = true)
    (h : SymO X n ops rest ⟨(dst, .s l) :: s, c⟩ K) :
    SymO X n ops (⟨some dst, .convert src dst' x, ty, pos, aft, none⟩ :: rest) ⟨s, c⟩ K := by
  intro e a w Q r hq
  have h0 := opd_sound r hx
  simp only [Rep] at h0
  obtain ⟨hx', _⟩ := h0
  obtain ⟨cap, e1, _⟩ := r.heap.vecread hk (i := 0) hl
  rw [e1] at hx'
  have hrun := text_run (dst := some dst) (ty := ty) (pos := pos) (aft := aft) (gd := none) r t1 t2 t3 hx' (fun i hi => by
    obtain ⟨_, _, e2⟩ := r.heap.vecread hk (i := i) hi
    simpa using e2)
  unfold wpList
  rw [if_pos (guardA_sound r (o := ⟨some dst, .convert src dst' x, ty, pos, aft, none⟩) (b := true) rfl)]
  refine .inl ?_
  unfold Oper.wp
  rw [hrun w (SameAs.refl w)]
  exact h e _ w Q (r.put hd Rep_s) hq
end
end Go.Sy

namespace Go.Sy
open Go.RowKit

section
variable {P : Program} {T : Tab} {X : Ctx P T} {n : Nat} {e : Env} {st : St} {a : Act} {w : World} {ops : Array Oper} {K : St → Prop}

theorem Le.freezebox {s : List (Nat × AV)} {c rest : List Ch} (i : Nat) {k kk : Nat} {t : TypeId} {cells : List AV} (hi : get s i = some (.bp k 0)) (hk : takeCh k c = some (.box kk t cells, rest)) (himm : AV.imm.immL cells = true) :
    Le X n ⟨s, c⟩ ⟨(i, .cp cells) :: s, rest⟩ := by
  intro e a w r
  have hkk : kk = k := kid_of_take hk
  subst hkk
  have hh := r.heap.perm (takeCh_perm hk)
  obtain ⟨bs, ⟨hbs, arr, g1, g2⟩, _, hgood⟩ := hh.head
  obtain ⟨v, h1, h2⟩ := r.slots i _ hi
  simp only [Rep] at h2
  subst h2
  have hGg : e.G.free (e.μ kk) := (hgood (e.μ kk) (by rw [hbs]; simp)).2.2
  let G' : IM := ⟨fun b o => if b = e.μ kk then arr.toList[o]? else e.G b o, e.G.m⟩
  have hle : IM.le e.G G' := by
    refine ⟨?_, fun _ _ h => h⟩
    intro b o v hv
    show (if b = e.μ kk then arr.toList[o]? else e.G b o) = some v
    rw [if_neg]
    · exact hv
    · rintro rfl; rw [hGg.1 o] at hv; cases hv
  have hnew : ∀ b o v, G' b o = some v → e.G b o = some v ∨ b ∈ bs := by
    intro b o v hv
    have hv' : (if b = e.μ kk then arr.toList[o]? else e.G b o) = some v := hv
    split at hv'
    · rename_i hc; rw [hbs, hc]; exact .inr (by simp)
    · exact .inl hv'
  refine ⟨{ e with G := G' }, { r with slots := ?sl, heap := ?hp, im := ?im, mz := ?mz, newm := r.newm, le := IM.le_trans r.le hle, new := ?nw }⟩
  case sl =>
    intro j x hx
    rw [get_cons] at hx
    by_cases hij : i = j
    · subst hij
      simp only [if_true, Option.some.injEq] at hx
      subst hx
      refine ⟨_, h1, ?_⟩
      simp only [Rep, RepI]
      refine ⟨e.μ kk, 0, rfl, CellsAt.mk (fun j x hx => ?_)⟩
      obtain ⟨z, z1, z2, z3⟩ := (RepL.toI cells himm g2).get j x hx
      refine ⟨z, ?_, RepI.mono hle x z2, z3⟩
      show (if e.μ kk = e.μ kk then arr.toList[0 + j]? else e.G (e.μ kk) (0 + j)) = some z
      rw [if_pos rfl, Nat.zero_add]
      exact z1
    · rw [if_neg hij] at hx
      obtain ⟨v, q1, q2⟩ := r.slots j x hx
      exact ⟨v, q1, Rep.mono (e := e) (f := { e with G := G' }) hle x (fun q _ => ⟨rfl, rfl⟩) q2⟩
  case hp =>
    obtain ⟨pl, p1, p2, p3, p4⟩ := hh
    cases pl with
    | nil => simp at p1
    | cons p pl =>
      simp only [List.map_cons, List.cons.injEq] at p1
      simp only [List.flatMap_cons] at p3 p4
      have hp := p2 p (List.mem_cons_self ..)
      rw [p1.1] at hp
      have hpb : p.2 = bs := by rw [hp.1, hbs]
      obtain ⟨q1, q2, q3⟩ := List.nodup_append.1 p3
      refine ⟨pl, p1.2, fun q hq => ChOK.keep (e := e) hle q.1 (fun j _ => ⟨rfl, rfl⟩) (fun b _ => rfl) (p2 q (List.mem_cons_of_mem _ hq)), q2, fun b hb => ?_⟩
      obtain ⟨s1, s2, s3⟩ := p4 b (List.mem_append.2 (.inr hb))
      refine ⟨s1, s2, fun o => ?_, s3.2⟩
      show G' b o = none
      cases hg : G' b o with
      | none => rfl
      | some v =>
        rcases hnew b o v hg with h | h
        · rw [s3.1 o] at h; cases h
        · rw [← hpb] at h; exact absurd rfl (q3 b h b hb)
  case im =>
    intro b o v hv
    have hv' : (if b = e.μ kk then arr.toList[o]? else e.G b o) = some v := hv
    split at hv'
    · rename_i hc
      subst hc
      rw [cell_of_row w _ o arr t (0, 0) g1]
      simpa using hv'
    · exact r.im b o v hv'
  case mz =>
    intro b x hx
    refine (r.mz b x hx).keep (H := G') hle rfl (fun o v hv => ?_)
    have hv' : (if b = e.μ kk then arr.toList[o]? else e.G b o) = some v := hv
    split at hv'
    · rename_i hc
      rw [hc, hGg.2] at hx; cases hx
    · exact ⟨v, hv'⟩
  case nw =>
    intro b o v hv
    rcases hnew b o v hv with h | h
    · exact r.new b o v h
    · exact .inr (hgood b h).2.1

def arrA (T : Tab) (st : St) : Op → Option AV
  | .slice t x none none none => (match T t, opd st.s x with
    | some ⟨_, _, _, _, .arr len el⟩, some (.cp cells) => (match T el with
      | some ti => (match Nat.beq cells.length (len * ti.size) with
        | true => some (.sl len ti.size (chunkRow ti.size cells))
        | false => none)
      | none => none)
    | _, _ => none)
  | _ => none

theorem CellsAt.get' {G : IM} {cs : List AV} {b o : Nat} (h : CellsAt G cs b o) (j : Nat) (x : AV) (hx : cs[j]? = some x) : ∃ z, G b (o + j) = some z ∧ RepI G x z ∧ z.oneCell' = true := h.get j x hx

theorem arrA_sound (r : Rel X n e st a w) {o : Oper} {av : AV} (h : arrA T st o.op = some av) : ∃ v, Rep e av v ∧ ∀ w', SameAs w w' → (execOp a.eval o).run P w' = .ok (.value v) w' := by
  have hT := X.ok
  obtain ⟨dst, op, ty, pos, aft, gd⟩ := o
  simp only at h
  unfold arrA at h
  split at h
  · rename_i t x
    split at h
    · rename_i s1 s2 g1 z1 len el cells hTt hx
      split at h
      · rename_i ti hTe
        split at h
        · rename_i hlen
          have hlen := Nat.eq_of_beq_eq_true hlen
          simp only [Option.some.injEq] at h
          subst h
          have := opd_sound r hx
          simp only [Rep, RepI] at this
          obtain ⟨b, o, hx', hc⟩ := this
          obtain ⟨d, e4, _, e5⟩ := (hT _ _ hTt).desc
          simp only [TDOK] at e5
          subst e5
          refine ⟨.slice (some ⟨b, o, none⟩) len len, ?_, fun w' _ => ?_⟩
          · simp only [Rep, RepI]
            refine ⟨_, len, rfl, Nat.le_refl _, .inr ⟨b, o, rfl, fun q hq => CellsAt.mk (fun j x hxj => ?_)⟩⟩
            unfold chunkRow at hxj
            rw [List.getElem?_take] at hxj
            split at hxj
            · rw [List.getElem?_drop] at hxj
              have := hc.get' (q * ti.size + j) x hxj
              rwa [← Nat.add_assoc] at this
            · cases hxj
          · simp only [execOp, hx', Instr.sliceAt, Sem.run_bind, run_underlying e4, Result.andThen_ok, Instr.sureAddr, Sem.run_pure, Option.map_none, Instr.sliceBounds, hT.size hTe]
            simp [add_addr, hT.size hTe]
        · cases h
      · cases h
    · cases h
  · cases h

def stepDA {P : Program} {T : Tab} (X : Ctx P T) (n : Nat) (ops : Array Oper) (base : List (Nat × AV)) (c : List Ch) (K : St → Prop) : List Oper → Done → Option Prop
  | [], _ => none
  | o :: rest, done => normG (availL done o.after.toList base) fun Si => match guardA ops ⟨Si, c⟩ o, dstOK n o.dst, arrA T ⟨Si, c⟩ o.op with
    | some true, true, some x => normG (done ++ [(o.dst, x)]) fun done => some (SymD X n ops base c K rest done)
    | _, _, _ => none

theorem sda {base : List (Nat × AV)} {c : List Ch} {l : List Oper} {done : Done} {p : Prop} (h : stepDA X n ops base c K l done = some p) (hp : p) : SymD X n ops base c K l done := by
  cases l with
  | nil => simp [stepDA] at h
  | cons o rest =>
    simp only [stepDA, normG_eq] at h
    split at h
    · rename_i x hg hd hb
      simp only [Option.some.injEq] at h
      subst h
      exact D_val x hg hd (fun e a w r => arrA_sound r hb) hp
    · cases h
end
end Go.Sy

namespace Go.Sy
open Go.RowKit

section
variable {P : Program} {T : Tab} {X : Ctx P T} {n : Nat} {e : Env} {st : St} {a : Act} {w : World} {ops : Array Oper} {K : St → Prop}

end
end Go.Sy

namespace Go.Sy
open Go.RowKit

section
variable {P : Program} {T : Tab} {X : Ctx P T} {n : Nat} {e : Env} {st : St} {a : Act} {w : World} {ops : Array Oper} {K : St → Prop}

theorem slots_of {e : Env} : ∀ (xs : List AV) (vs : List Value) (i0 : Nat), RepT e xs vs → ∀ i x, get (enumA i0 xs) i = some x → ∃ v, i0 ≤ i ∧ vs[i - i0]? = some v ∧ Rep e x v
  | [], vs, i0, _, i, x, h => by simp [enumA, get] at h
  | y :: ys, vs, i0, hr, i, x, h => by
    simp only [RepT] at hr
    obtain ⟨z, zs, rfl, h1, h2⟩ := hr
    simp only [enumA] at h
    rw [get_cons] at h
    by_cases hi : i0 = i
    · subst hi
      simp only [if_true, Option.some.injEq] at h
      subst h
      exact ⟨z, Nat.le_refl _, by simp, h1⟩
    · rw [if_neg hi] at h
      obtain ⟨v, g1, g2, g3⟩ := slots_of ys zs (i0 + 1) h2 i x h
      refine ⟨v, by omega, ?_, g3⟩
      rw [show i - i0 = (i - (i0 + 1)) + 1 by omega]
      simpa using g2
theorem RepT.len {e : Env} : ∀ {xs : List AV} {vs : List Value}, RepT e xs vs → vs.length = xs.length
  | [], vs, h => by simp only [RepT] at h; subst h; rfl
  | x :: xs, vs, h => by
    simp only [RepT] at h
    obtain ⟨z, zs, rfl, _, h3⟩ := h
    simp [RepT.len h3]

theorem Rel.enter {X : Ctx P T} {n : Nat} {e : Env} {c : List Ch} {args : List AV} {cargs : List Value} (hX : X.w0 = w) (hG : e.G = X.G0) (him : ImOK X.G0 w) (hrep : RepT e args cargs) (hl : args.length ≤ n) (hh : HeapOK X e w c) (hμ : e.μ = X.μ0) (hdf : X.dfr = [] := by rfl) :
    Rel X n e ⟨enumA 0 args, c⟩ { tmps := cargs.toArray ++ Array.replicate (n - cargs.toArray.size) undef, defers := [] } w :=
  { defers := hdf.symm
    size := by have := RepT.len hrep; simp; omega
    slots := fun i x hx => by
      obtain ⟨v, _, g2, g3⟩ := slots_of args cargs 0 hrep i x hx
      simp only [Nat.sub_zero] at g2
      have hi : i < cargs.length := by
        rcases Nat.lt_or_ge i cargs.length with h | h
        · exact h
        · rw [List.getElem?_eq_none h] at g2; cases g2
      refine ⟨v, ?_, g3⟩
      rw [Array.getElem?_append_left (by simpa using hi)]
      simpa using g2
    im := by rw [hG]; exact him.1
    mz := by rw [hG]; exact him.2
    newm := fun b x hv => .inl (by rw [← hG]; exact hv)
    heap := hh
    le := by rw [hG]; exact IM.le_refl _
    new := fun b o v hv => .inl (by rw [← hG]; exact hv)
    os := by rw [hX]
    tape := by rw [hX]
    output := by rw [hX]
    sz := by rw [hX]; exact Nat.le_refl _
    keep := fun b _ _ _ => by rw [hX]
    fix := fun k _ => by rw [hμ] }

theorem map_eval (args : Array Operand) (a : Act) : args.map a.eval = (args.toList.map a.eval).toArray := by
  apply Array.ext'; simp

def cloRP (f : FuncId) (caps : List AV) : RP :=
  { R := fun G y => ∃ vs : Array Value, y = .func (.func f) #[] vs ∧ RepIT G caps vs.toList
    mono := by
      rintro G H h v ⟨vs, e, r⟩
      exact ⟨vs, e, RepIT.mono h caps r⟩
    one := by
      rintro G v ⟨vs, e, r⟩
      subst e; rfl }

def IsClo (x : AV) (f : FuncId) (caps : List AV) : Prop := ∀ G y, RepI G x y → ∃ vs : Array Value, y = .func (.func f) #[] vs ∧ RepIT G caps vs.toList
theorem isClo_func (f : FuncId) : IsClo (.v (.func (.func f) #[] #[])) f [] := fun G y h => by
  simp only [RepI] at h
  exact ⟨#[], h, by simp [RepIT]⟩
theorem isClo_p (f : FuncId) (caps : List AV) : IsClo (.p (cloRP f caps)) f caps := fun G y h => by
  simp only [RepI] at h
  exact h

theorem O_makeFunc {f : FuncId} {caps : Array Operand} {cavs : List AV} {d : Nat} {ty : TypeId} {pos : String} {aft : Array Edge} {gd : Option (Nat × Bool)} {rest : List Oper} {s : List (Nat × AV)} {c : List Ch}
    (hg : guardA ops ⟨s, c⟩ ⟨some d, .makeFunc (.func f) #[] caps, ty, pos, aft, gd⟩ = some true) (ha : opds s caps.toList = some cavs) (himm : AV.imm.immL cavs = true) (hd : Nat.blt d n = true)
    (kk : SymO X n ops rest ⟨(d, .p (cloRP f cavs)) :: s, c⟩ K) : SymO X n ops (⟨some d, .makeFunc (.func f) #[] caps, ty, pos, aft, gd⟩ :: rest) ⟨s, c⟩ K := by
  intro e a w Q r hq
  unfold wpList
  rw [if_pos (guardA_sound r hg)]
  refine .inl ?_
  have h1 := RepT.toI cavs himm (opds_sound r ha)
  have hrun : (execOp a.eval ⟨some d, .makeFunc (.func f) #[] caps, ty, pos, aft, gd⟩).run P w = .ok (.value (.func (.func f) #[] (caps.map a.eval))) w := by
    simp [execOp, Instr.makeFunc]
  unfold Oper.wp
  rw [hrun]
  exact kk _ _ _ Q (r.put hd (by simp only [Rep]; exact ⟨_, rfl, by rw [map_eval]; exact h1⟩)) hq

theorem run_callV {f : FuncId} (hc : Callable P f) {dst : Option Tmp} {x : Operand} {args : Array Operand} {tys : Array TypeId} {ty : TypeId} {pos : String} {aft : Array Edge} {gd : Option (Nat × Bool)} (ρ : Operand → Value)
    {vs : Array Value} (hρ : ρ x = .func (.func f) #[] vs) (w : World) :
    (execOp ρ ⟨dst, .call ⟨.value x, args, tys⟩, ty, pos, aft, gd⟩).run P w = .ok (.enter f (args.map ρ ++ vs)) w := by
  obtain ⟨fn, h1, h2, h3⟩ := hc
  simp only [execOp, resolve, hρ, Deferred.ofValue, Sem.run_bind, Sem.run_pure, Result.andThen_ok, invoke]
  have h4 : ¬ fn.body = none := by intro h; simp [h] at h2
  have h5 : ¬ fn.name = "runtime.NumGoroutine" := by simpa using h3
  simp [callFunc, h1, h4, h5]

theorem RepIT.app {G : IM} : ∀ {xs ys : List AV} {vs us : List Value}, RepIT G xs vs → RepIT G ys us → RepIT G (xs ++ ys) (vs ++ us)
  | [], ys, vs, us, h, k => by simp only [RepIT] at h; subst h; simpa using k
  | x :: xs, ys, vs, us, h, k => by
    simp only [RepIT] at h
    obtain ⟨z, zs, rfl, h1, h2⟩ := h
    simp only [List.cons_append, RepIT]
    exact ⟨z, _, rfl, h1, RepIT.app h2 k⟩

theorem D_callV {base : List (Nat × AV)} {c : List Ch} {done : Done} {f : FuncId} {xo : Operand} {fv : AV} {caps : List AV} {dst : Nat} {args : Array Operand} {tys : Array TypeId} {ty : TypeId} {pos : String} {aft : Array Edge} {gd : Option (Nat × Bool)} {rest : List Oper} {avs : List AV} {x : AV}
    (hclo : IsClo fv f caps) (hfi : fv.imm = true) (hf : FnP P f (avs ++ caps) (· = x)) (hxo : opd (availL done aft.toList base) xo = some fv)
    (hg : guardA ops ⟨availL done aft.toList base, c⟩ ⟨some dst, .call ⟨.value xo, args, tys⟩, ty, pos, aft, gd⟩ = some true) (ha : opds (availL done aft.toList base) args.toList = some avs) (himm : AV.imm.immL avs = true) (hd : Nat.blt dst n = true)
    (k : SymD X n ops base c K rest (done ++ [(some dst, x)])) :
    SymD X n ops base c K (⟨some dst, .call ⟨.value xo, args, tys⟩, ty, pos, aft, gd⟩ :: rest) done := by
  refine ⟨x, fun e a w S K' Q r hS hk => ?_, k⟩
  have r0 : Rel X n e ⟨availL done aft.toList base, c⟩ a w := r.less hS id
  rw [if_pos (guardA_sound r0 hg)]
  refine .inl ?_
  unfold Oper.wp
  obtain ⟨vs, hfv, hvs⟩ := hclo e.G _ (Rep.toI fv hfi (opd_sound r0 hxo))
  rw [run_callV hf.1 a.eval hfv w, Oper.upon_enter]
  have h1 := RepT.toI avs himm (opds_sound r0 ha)
  have h2 := hf.2 e.G w _ ⟨r.im, r.mz⟩ (RepIT.app h1 hvs)
  have harr : args.map a.eval ++ vs = (args.toList.map a.eval ++ vs.toList).toArray := by
    apply Array.ext'; simp
  rw [harr]
  refine h2.mono ?_
  rintro en w' ⟨rv, cr, G', rfl, rfl, g1, g2, g3, g4, g5⟩
  exact hk _ _ _ ((r.after g2 g3 g4 g5).put (x := rv) (v := cr) hd (RepI.toRep (e := ⟨G', e.μ, e.hd⟩) rv g1))
end
end Go.Sy

namespace Go.Sy
open Go.RowKit

section
variable {P : Program} {T : Tab} {X : Ctx P T} {n : Nat} {e : Env} {st : St} {a : Act} {w : World} {ops : Array Oper} {K : St → Prop}

end
end Go.Sy
