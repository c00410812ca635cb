/- The symbolic walk, part 63: cells of variables that hold slices of one's own; slice literals and appends in drawn regions of effects. -/
import Derived.Test.YtgmdpfoccnalnaaGreatE11
import Derived.Test.YtgmdpfoccnalnaaGreatE10
import Derived.Test.YtgmdpfoccnalnaaGreatE12
set_option linter.unusedSimpArgs false
set_option linter.unusedVariables false
namespace Go.Sy
open Go.RowKit

section
variable {P : Program} {T : Tab} {X : Ctx P T} {n : Nat} {e : Env} {st : St} {a : Act} {w : World} {ops : Array Oper} {K : St → Prop}

theorem RepL.setA {e : Env} {x y : AV} (h : ∀ v, Rep e x v → Rep e y v) : ∀ {cs : List AV} {j : Nat} {ys : List Value}, cs[j]? = some x → RepL e cs ys → RepL e (cs.set j y) ys
  | [], j, ys, hj, _ => by simp at hj
  | c :: cs, 0, ys, hj, r => by
    simp only [List.getElem?_cons_zero, Option.some.injEq] at hj
    subst hj
    simp only [RepL, List.set_cons_zero] at r ⊢
    obtain ⟨z, zs, e1, r1, r2, r3⟩ := r
    exact ⟨z, zs, e1, h _ r1, r2, r3⟩
  | c :: cs, j + 1, ys, hj, r => by
    simp only [List.getElem?_cons_succ] at hj
    simp only [RepL, List.set_cons_succ] at r ⊢
    obtain ⟨z, zs, e1, r1, r2, r3⟩ := r
    exact ⟨z, zs, e1, r1, r2, RepL.setA h hj r3⟩

theorem HeapOK.cell {e : Env} {w : World} {kk : Nat} {t0 : TypeId} {cells : List AV} {rest : List Ch} {j : Nat} {x y : AV} (h : HeapOK X e w (.box kk t0 cells :: rest)) (hj : cells[j]? = some x) (hxy : ∀ v, Rep e x v → Rep e y v) :
    HeapOK X e w (.box kk t0 (cells.set j y) :: rest) :=
  HeapOK.retell h (fun bs hb => by
    obtain ⟨h1, arr, h2, h3⟩ := hb
    exact ⟨h1, arr, h2, RepL.setA hxy hj h3⟩)

theorem Rel.newHd {s : List (Nat × AV)} {c : List Ch} (r : Rel X n e ⟨s, c⟩ a w) (d : Nat) (v : Value) (hf : freshS d s = true) (hc : freshC d c = true) : Rel X n { e with hd := upd e.hd d v } ⟨s, c⟩ a w := by
  have hnod : ∀ {x : AV}, x.no d = true → ∀ j, x.no j = false → j ≠ d := fun hx j hj he => by subst he; rw [hx] at hj; cases hj
  have hid : ∀ (q : Nat), q ≠ d → upd e.hd d v q = e.hd q := fun q hq => by simp [upd, hq]
  refine { r with slots := ?_, heap := ?_ }
  · intro j x hx
    obtain ⟨v', h1, h2⟩ := r.slots j x hx
    exact ⟨v', h1, Rep.mono (e := e) (f := { e with hd := upd e.hd d v }) (IM.le_refl _) x (fun q hq => ⟨rfl, hid q (hnod (freshS_get hf j x hx) q hq)⟩) h2⟩
  · refine HeapOK.grow r.heap (IM.le_refl _) (fun x hcm j hj => ⟨rfl, hid j ?_⟩) (fun b hb => rfl) (Nat.le_refl _) (fun b _ h => h)
    intro he; subst he; rw [freshC_mem hc x hcm] at hj; cases hj

/-- A cell that is nil may be grown. -/
theorem Le.cellNil {s : List (Nat × AV)} {c rest : List Ch} (b j d : Nat) {kk : Nat} {t0 : TypeId} {cells : List AV} (t : TypeId) (esz : Nat) (row : Nat → List AV) (hk : takeCh b c = some (.box kk t0 cells, rest)) (hj : cells[j]? = some (.v (.slice none 0 0)))
    (hf : freshS d s = true) (hc : freshC d c = true) : Le X n ⟨s, c⟩ ⟨s, .box kk t0 (cells.set j (.own d)) :: .vec d t esz 0 row :: rest⟩ := by
  intro e a w r
  have r1 := Rel.newHd r d (.slice none 0 0) hf hc
  have h1 := r1.heap.perm (takeCh_perm hk)
  have h2 := HeapOK.cell (y := .own d) h1 hj (fun v hv => by
    simp only [Rep] at hv ⊢
    subst hv
    exact ⟨by simp [upd], _, _, _, rfl⟩)
  have h3 := HeapOK.push (c' := .vec d t esz 0 row) (bs' := []) h2 (IM.le_refl _) (fun _ _ _ _ => ⟨rfl, rfl⟩) (fun b hb => rfl)
    ⟨by simp [upd, Value.ownBlock], [], by simp only [upd, if_true]; exact World.ownsRow_nil _ _ _ _, fun i hi => by omega⟩ (by simp) (by simp) (by simp) (Nat.le_refl _) (fun b _ h => h)
  exact ⟨_, { r1 with slots := r1.slots, heap := h3.perm (.swap _ _ _) }⟩

/-- A cell's slice under another id. -/
theorem Le.cellRename {s s2 : List (Nat × AV)} {c r1 r2 : List Ch} (b j k d : Nat) {kv kk : Nat} {t t0 : TypeId} {esz m : Nat} {row : Nat → List AV} {cells : List AV} (hk : takeCh k c = some (.vec kv t esz m row, r1)) (hb : takeCh b r1 = some (.box kk t0 cells, r2)) (hj : cells[j]? = some (.own k))
    (hs2 : subS s2 s) (hf : freshS d s2 = true) (hc : freshC d c = true) : Le X n ⟨s, c⟩ ⟨s2, .box kk t0 (cells.set j (.own d)) :: .vec d t esz m row :: r2⟩ := by
  intro e a w r
  have hkv : kv = k := kid_of_take hk
  subst hkv
  have r0 : Rel X n e ⟨s2, c⟩ a w := r.less (fun i x h => subS_get hs2 i x h) (fun h => h)
  have q1 := Rel.newHd r0 d (e.hd kv) hf hc
  have hp : c.Perm (.vec kv t esz m row :: .box kk t0 cells :: r2) := (takeCh_perm hk).trans (.cons _ (takeCh_perm hb))
  have hne : kv ≠ d := by
    intro h; subst h
    have := freshC_mem hc _ (hp.symm.subset (List.mem_cons_self ..))
    simp [Ch.no] at this
  have h1 := q1.heap.perm hp
  have h2 : HeapOK X { e with hd := upd e.hd d (e.hd kv) } w (.vec d t esz m row :: .box kk t0 cells :: r2) := HeapOK.retell h1 (fun bs hb => by
    obtain ⟨h1, xs, h2, h3⟩ := hb
    have e1 : upd e.hd d (e.hd kv) kv = e.hd kv := by simp [upd, hne]
    have e2 : upd e.hd d (e.hd kv) d = e.hd kv := by simp [upd]
    simp only [e1] at h1 h2
    exact ⟨by simp only [e2]; exact h1, xs, by simp only [e2]; exact h2, h3⟩)
  have h3 := HeapOK.cell (y := .own d) (h2.perm (.swap _ _ _)) hj (fun v hv => by
    simp only [Rep] at hv ⊢
    obtain ⟨rfl, hs⟩ := hv
    exact ⟨by simp [upd], hs⟩)
  exact ⟨_, { q1 with slots := q1.slots, heap := h3 }⟩

theorem Rel.freezeC {s : List (Nat × AV)} {c rest : List Ch} (r : Rel X n e ⟨s, c⟩ a w) {k kv : Nat} {t : TypeId} {esz m : Nat} {row : Nat → List AV} (hk : takeCh k c = some (.vec kv t esz m row, rest)) :
    ∃ f : Env, Rel X n f ⟨s, rest⟩ a w ∧ f.hd = e.hd ∧ RepI f.G (.sl m esz row) (e.hd k) := by
  have hkv : kv = k := kid_of_take hk
  subst hkv
  have hh := r.heap.perm (takeCh_perm hk)
  obtain ⟨bs, ⟨hbs, xs, g1, g2⟩, _, hgood⟩ := hh.head
  have base : ∀ (f : Env), IM.le e.G f.G → f.μ = e.μ → f.hd = e.hd → ImOK f.G w → (∀ b o v, f.G b o = some v → e.G b o = some v ∨ b ∈ bs) → f.G.m = e.G.m → Rel X n f ⟨s, rest⟩ a w := by
    intro f hle hμ hhd him hnew hmm
    refine { r with slots := ?_, heap := ?_, im := him.1, mz := him.2, newm := by rw [hmm]; exact r.newm, le := IM.le_trans r.le hle, new := ?_, fix := by rw [hμ]; exact r.fix }
    · intro j x hx
      obtain ⟨v, q1, q2⟩ := r.slots j x hx
      exact ⟨v, q1, Rep.mono (e := e) (f := f) hle x (fun q _ => by rw [hμ, hhd]; exact ⟨rfl, rfl⟩) q2⟩
    · obtain ⟨pl, p1, p2, p3, p4⟩ := hh
      cases pl with
      | nil => simp at p1
      | cons p pl =>
        simp only [List.map_cons, List.cons.injEq] at p1
        simp only [List.flatMap_cons] at p3 p4
        have hp := p2 p (List.mem_cons_self ..)
        rw [p1.1] at hp
        have hpb : p.2 = bs := by rw [hp.1, hbs]
        obtain ⟨q1, q2, q3⟩ := List.nodup_append.1 p3
        refine ⟨pl, p1.2, fun q hq => ChOK.keep (e := e) hle q.1 (fun j _ => by rw [hμ, hhd]; exact ⟨rfl, rfl⟩) (fun b _ => rfl) (p2 q (List.mem_cons_of_mem _ hq)), q2, fun b hb => ?_⟩
        obtain ⟨s1, s2, s3⟩ := p4 b (List.mem_append.2 (.inr hb))
        refine ⟨s1, s2, fun o => ?_, by rw [hmm]; exact s3.2⟩
        cases hg : f.G b o with
        | none => rfl
        | some v =>
          rcases hnew b o v hg with h | h
          · rw [s3.1 o] at h; cases h
          · rw [← hpb] at h; exact absurd rfl (q3 b h b hb)
    · intro b o v hv
      rcases hnew b o v hv with h | h
      · exact r.new b o v h
      · exact .inr (hgood b h).2.1
  rcases g1.2 with ⟨hnil, hm⟩ | ⟨g, cap, cur, hsl, _, hg, hcap, hmax, hcs, htake⟩
  · refine ⟨e, base e (IM.le_refl _) rfl rfl ⟨r.im, r.mz⟩ (fun b o v h => .inl h) rfl, rfl, ?_⟩
    simp only [RepI]
    exact ⟨none, 0, by rw [hnil, hm], by omega, .inl hm⟩
  · have hbs' : bs = [g] := by rw [hbs, hsl]; rfl
    have hGg : e.G.free g := (hgood g (by rw [hbs']; simp)).2.2
    let G' : IM := ⟨fun b o => if b = g ∧ o < m * esz then cur[o]? else e.G b o, e.G.m⟩
    have hle : IM.le e.G G' := by
      refine ⟨?_, fun _ _ h => h⟩
      intro b o v hv
      show (if b = g ∧ o < m * esz then cur[o]? else e.G b o) = some v
      rw [if_neg]
      · exact hv
      · rintro ⟨rfl, _⟩; rw [hGg.1 o] at hv; cases hv
    refine ⟨{ e with G := G' }, base _ hle rfl rfl ⟨?_, ?_⟩ ?_ rfl, rfl, ?_⟩
    · intro b o v hv
      have hv' : (if b = g ∧ o < m * esz then cur[o]? else e.G b o) = some v := hv
      split at hv'
      · rename_i hc
        obtain ⟨rfl, _⟩ := hc
        rw [cell_of_row w b o cur t (0, 0) hg]
        exact hv'
      · exact r.im b o v hv'
    · intro b x hx
      refine (r.mz b x hx).keep (H := G') hle rfl (fun o v hv => ?_)
      have hv' : (if b = g ∧ o < m * esz then cur[o]? else e.G b o) = some v := hv
      split at hv'
      · rename_i hc
        rw [hc.1, hGg.2] at hx; cases hx
      · exact ⟨v, hv'⟩
    · intro b o v hv
      have hv' : (if b = g ∧ o < m * esz then cur[o]? else e.G b o) = some v := hv
      split at hv'
      · rename_i hc; rw [hbs', hc.1]; exact .inr (by simp)
      · exact .inl hv'
    · simp only [RepI]
      refine ⟨some ⟨g, 0, none⟩, cap, hsl, hcap, .inr ⟨g, 0, rfl, fun q hq => CellsAt.mk (fun j c hc => ?_)⟩⟩
      obtain ⟨z, z1, z2, z3⟩ := (g2 q hq).get j c hc
      have hj : j < esz := by
        rcases Nat.lt_or_ge j esz with h | h
        · exact h
        · rw [List.getElem?_eq_none (by simp; omega)] at z1; cases z1
      have hlt : q * esz + j < m * esz := by
        have : (q + 1) * esz ≤ m * esz := Nat.mul_le_mul_right _ hq
        rw [Nat.add_mul] at this; omega
      refine ⟨z, ?_, RepI.mono hle c z2, z3⟩
      show (if g = g ∧ 0 + q * esz + j < m * esz then cur[0 + q * esz + j]? else e.G g (0 + q * esz + j)) = some z
      rw [Nat.zero_add, if_pos ⟨rfl, hlt⟩]
      rw [List.getElem?_take, if_pos hj, List.getElem?_drop, ← htake, List.getElem?_take, if_pos hlt] at z1
      simpa using z1

/-- A cell's slice is given up: from now on it is read alone. -/
theorem Le.cellFreeze {s : List (Nat × AV)} {c r1 r2 : List Ch} (b j k : Nat) {kv kk : Nat} {t t0 : TypeId} {esz m : Nat} {row : Nat → List AV} {cells : List AV} (hk : takeCh k c = some (.vec kv t esz m row, r1)) (hb : takeCh b r1 = some (.box kk t0 cells, r2)) (hj : cells[j]? = some (.own k)) :
    Le X n ⟨s, c⟩ ⟨s, .box kk t0 (cells.set j (.sl m esz row)) :: r2⟩ := by
  intro e a w r
  obtain ⟨f, q1, q2, q3⟩ := Rel.freezeC r hk
  have h3 := HeapOK.cell (y := .sl m esz row) (q1.heap.perm (takeCh_perm hb)) hj (fun v hv => by
    simp only [Rep] at hv ⊢
    obtain ⟨rfl, _⟩ := hv
    rw [q2]
    exact q3)
  exact ⟨f, { q1 with slots := q1.slots, heap := h3 }⟩

/-- A slice literal, in whatever order. -/
theorem X_bsl {p : Pl} {Si : List (Nat × AV)} {c : List Ch} {i : Nat} {o : Oper} {el esz len : Nat} {cs : List AV} (hg : guardA ops ⟨Si, c⟩ o = some true) (hd : dstOK n o.dst = true) (hb : bslA T ⟨Si, c⟩ o.op = some (el, esz, len, cs)) :
    StepX X n ops p Si c c i o (.sl len esz (chunkRow esz cs)) :=
  StepX.val hg hd (fun e a w S r r' => by
    obtain ⟨arr, b1, b2, b3, b4⟩ := bslA_sound r' hb
    let G' : IM := ⟨fun b oo => if b = w.heap.size then arr.toList[oo]? else e.G b oo, e.G.m⟩
    have hlt : ∀ b o v, e.G b o = some v → b < w.heap.size := fun b o v h => Go.block_lt_of_cell (r.im b o v h)
    have hle : IM.le e.G G' := by
      refine ⟨?_, fun _ _ h => h⟩
      intro b o v hv
      show (if b = w.heap.size then arr.toList[o]? else e.G b o) = some v
      rw [if_neg (by have := hlt b o v hv; omega)]
      exact hv
    have hnew : (w.alloc (.cells arr el)).heap[w.heap.size]? = some (.cells arr el (0, 0)) := Go.heap_alloc_new w _
    have him : ImOK G' (w.alloc (.cells arr el)) := by
      refine ⟨?_, fun b x hx => (r.mz b x hx).keep (H := G') hle (Go.heap_alloc_old w _ (r.mz b x hx).lt) (fun o v hv => ⟨v, by
        have hv' : (if b = w.heap.size then arr.toList[o]? else e.G b o) = some v := hv
        rw [if_neg (by have := (r.mz b x hx).lt; omega)] at hv'
        exact hv'⟩)⟩
      intro b o v hv
      have hv' : (if b = w.heap.size then arr.toList[o]? else e.G b o) = some v := hv
      split at hv'
      · rename_i hb; subst hb
        rw [cell_of_row _ _ o arr el (0, 0) hnew]
        simpa using hv'
      · have h1 := r.im b o v hv'
        simp only [World.cell?] at h1 ⊢
        rw [Go.heap_alloc_old w _ (hlt b o v hv')]
        exact h1
    have r2 := r.after hle ⟨fun b o v hv => by
      have hv' : (if b = w.heap.size then arr.toList[o]? else e.G b o) = some v := hv
      split at hv'
      · rename_i hb; exact .inr (by omega)
      · exact .inl hv', fun _ _ h => .inl h⟩ him ⟨rfl, rfl, rfl, by simp, fun b hb _ => Go.heap_alloc_old w _ hb⟩
    refine ⟨_, _, _, b4 w, r2, ?_⟩
    simp only [Rep, RepI]
    refine ⟨_, len, rfl, Nat.le_refl _, .inr ⟨w.heap.size, 0, rfl, fun q hq => CellsAt.mk (fun j x hx => ?_)⟩⟩
    obtain ⟨z, z1, z2, z3⟩ := (b3 q hq).get j x hx
    have hj : j < esz := by
      rcases Nat.lt_or_ge j esz with h | h
      · exact h
      · rw [List.getElem?_eq_none (by simp; omega)] at z1; cases z1
    refine ⟨z, ?_, RepI.mono hle x z2, z3⟩
    show (if w.heap.size = w.heap.size then arr.toList[0 + q * esz + j]? else _) = some z
    rw [if_pos rfl, Nat.zero_add]
    rw [List.getElem?_take, if_pos hj, List.getElem?_drop] at z1
    exact z1)

/-- append(s, x...), s one's own, x read alone, in whatever order: the outcome has an id of its own. -/
theorem X_appendK {p : Pl} {dst : Nat} {so_ xo : Operand} {t ty : TypeId} {pos : String} {aft : Array Edge} {gd : Option (Nat × Bool)} {j : Nat} {Si : List (Nat × AV)} {c r1 : List Ch} {k : Nat} {el esz m m2 m3 : Nat} {row row2 row3 : Nat → List AV} {by_ : Nat} {sz0 b0 : Nat} {ag0 ag1 : Bool} {z0 z1 : List Value} {d1 : TD}
    (hTs : T t = some ⟨sz0, b0, ag0, z0, .slice el⟩) (hTe : T el = some ⟨esz, by_, ag1, z1, d1⟩) (hpos : Nat.blt 0 esz = true)
    (hg : guardA ops ⟨Si, c⟩ ⟨some dst, .call ⟨.builtin .append, #[so_, xo], #[t, t]⟩, ty, pos, aft, gd⟩ = some true)
    (hso : opd Si so_ = some (.own k)) (hk : takeCh k c = some (.vec k el esz m row, r1))
    (hxo : opd Si xo = some (.sl m2 esz row2)) (hr2 : ∀ i, i < m2 → (row2 i).length = esz)
    (hd : Nat.blt dst n = true) (hcre : (j, dst) ∈ p.cre) (hfc : freshC dst r1 = true) (hki : p.ki = [])
    (hlen : (m + m2) * by_ ≤ 140737488355328) (hlen2 : m + m2 ≤ maxLen)
    (hm3 : m3 = m + m2) (hrow3 : ∀ i, i < m3 → appRow m row row2 i = row3 i) :
    StepX X n ops p Si c (.vec dst el esz m3 row3 :: r1) j ⟨some dst, .call ⟨.builtin .append, #[so_, xo], #[t, t]⟩, ty, pos, aft, gd⟩ (.own dst) := by
  subst hm3
  intro e a w S K Q rS hS hcr hkk
  have r0 : Rel X n e ⟨Si, c⟩ a w := rS.less hS (fun h => h)
  rw [if_pos (guardA_sound r0 hg)]
  have hfree : ∀ k y, get S k = some y → y.no dst = true := fun k y h => hcr k y h (j, dst) hcre rfl
  have r : Rel X n e ⟨S.filter fun q => q.2.no dst, c⟩ a w := rS.less (fun k y h => get_unfilter hfree h) (fun h => h)
  obtain ⟨pi, z, i1, i2, i3, i4, i5, i6, i7⟩ := (X.ok _ _ hTe).info
  obtain ⟨dd, e1, _, e3⟩ := (X.ok _ _ hTs).desc
  simp only [TDOK] at e3
  subst e3
  have hso' := opd_sound r0 hso
  simp only [Rep] at hso'
  obtain ⟨hso', _⟩ := hso'
  have hh := r.heap.perm (takeCh_perm hk)
  obtain ⟨bs, ⟨hbs, xs, g1, g2⟩, _, hgood⟩ := hh.head
  have hzs : z.cells.size = esz := by
    have : z.cells.toList.length = esz := by rw [i5]; exact i7
    simpa using this
  have hpos' : 0 < esz := by have := hpos; simp [Nat.blt] at this; omega
  have hold : ∀ b, (e.hd k).ownBlock = some b → b < w.heap.size ∧ (X.w0.heap.size ≤ b ∨ b ∈ X.bs) ∧ e.G.free b := fun b hb => hgood b (by rw [hbs, hb]; simp)
  have hdis : ∀ b, (e.hd k).ownBlock = some b → ∀ pl : List (Ch × List Nat), pl.map (·.1) = r1 → (∀ p ∈ pl, ChOK e w p.1 p.2) → b ∉ pl.flatMap (·.2) := by
    intro b hb pl hpl hok hin
    obtain ⟨pl', p1, p2, p3, p4⟩ := hh
    cases pl' with
    | nil => simp at p1
    | cons p pl' =>
      simp only [List.map_cons, List.cons.injEq] at p1
      simp only [List.flatMap_cons] at p3
      have hp := p2 p (List.mem_cons_self ..)
      rw [p1.1] at hp
      have heq : pl' = pl := by
        have key : ∀ (l1 l2 : List (Ch × List Nat)), l1.map (·.1) = l2.map (·.1) → (∀ p ∈ l1, ChOK e w p.1 p.2) → (∀ p ∈ l2, ChOK e w p.1 p.2) → l1 = l2 := by
          intro l1
          induction l1 with
          | nil => intro l2 h _ _; cases l2 with
            | nil => rfl
            | cons _ _ => simp at h
          | cons q l1 ih =>
            intro l2 h h1 h2
            cases l2 with
            | nil => simp at h
            | cons q2 l2 =>
              simp only [List.map_cons, List.cons.injEq] at h
              have e1 := h1 q (List.mem_cons_self ..)
              have e2 := h2 q2 (List.mem_cons_self ..)
              rw [← h.1] at e2
              have : q.2 = q2.2 := by
                cases hc : q.1 with
                | box k T cells => rw [hc] at e1 e2; rw [e1.1, e2.1]
                | vec k T esz n row => rw [hc] at e1 e2; rw [e1.1, e2.1]
                | obj k o => rw [hc] at e1 e2; rw [e1.1, e2.1]
                | mapc k ks xs => rw [hc] at e1 e2; rw [e1.1, e2.1]
                | abs A => rw [hc] at e1 e2; rw [e1.1, e2.1]
              rw [ih l2 h.2 (fun p hp => h1 p (List.mem_cons_of_mem _ hp)) (fun p hp => h2 p (List.mem_cons_of_mem _ hp))]
              congr 1
              exact Prod.ext h.1 this
        exact key pl' pl (by rw [p1.2, hpl]) (fun p hp => p2 p (List.mem_cons_of_mem _ hp)) hok
      subst heq
      have := (List.nodup_append.1 p3).2.2 b (by rw [hp.1, hb]; simp) b hin
      exact this rfl
  have hrowsOut : ∀ {news : List Value}, RowsL e.G esz m2 row2 news → RowsL e.G esz (m + m2) row3 (xs ++ news) := fun hn i hi => by
    rw [← hrow3 i hi]; exact rows_app g1.1 g2 hn i hi
  have fin : ∀ {v' : Value}, UpdX p j (some dst) (.own dst) S ((dst, .own dst) :: S.filter fun q => q.2.no dst) := fun {v'} => by
    refine ⟨?_, ?_, ?_⟩
    · rintro d' h'
      cases h'
      rw [get_cons, if_pos rfl]
    · intro k y hne hy _
      rw [get_cons, if_neg (fun h => hne (by rw [h]))]
      exact get_filter hy (hfree k y hy)
    · intro k y hy
      rw [get_cons] at hy
      by_cases h : dst = k
      · rw [if_pos h] at hy
        simp only [Option.some.injEq] at hy
        exact .inl ⟨by rw [h], hy.symm⟩
      · rw [if_neg h] at hy; exact .inr (.inl (get_unfilter hfree hy))
  rcases src_sl hxo hr2 e a w r0 with ⟨ad, cc, news, hx, hl, hnews, h1, hrn⟩ | ⟨hm2, cc, hx⟩
  · obtain ⟨v', w', hr, q2, q3, q4⟩ := run_append_own (P := P) w 0 t ty el pi z esz by_ e1 i1 i4 i2 i3 hzs hpos' (e.hd k) m xs g1 ad m2 cc news hl hnews h1 hlen2 hlen (Nat.zero_le _)
    refine .inl ?_
    unfold Oper.wp
    have hrun : (execOp a.eval ⟨some dst, .call ⟨.builtin .append, #[so_, xo], #[t, t]⟩, ty, pos, aft, gd⟩).run P w = .ok (.value v') w' := by
      simp only [execOp, resolve, invoke, builtin, Sem.run_bind, Sem.run_pure, Result.andThen_ok, List.map_toArray, List.map_cons, List.map_nil, hso', hx, hr]
    rw [hrun]
    have hblk : ∀ b, v'.ownBlock = some b → b < w'.heap.size ∧ (some b = (e.hd k).ownBlock ∨ w.heap.size ≤ b) := by
      intro b hb
      refine ⟨(q2.lt b hb).2, ?_⟩
      simp only at i2 i3
      subst i2 i3
      exact append_block t ty el pi z e1 i1 i4 (e.hd k) m xs g1 ad m2 cc news hl hnews h1 hlen2 hlen hr b hb
    have r2 := r.vec (d := dst) (w' := w') (v' := v') (t := el) (esz := esz) (m := m + m2) (row := row3) (xs := xs ++ news) (s := S.filter fun q => q.2.no dst) (c := r1) (c' := r1) (e.hd k).ownBlock hd
      (fun i x hi => hi) (freshS_filter dst S) hfc hh.drop hold hdis q2 (hrowsOut hrn) q3 hblk
    exact hkk _ _ _ _ r2 (fin (v' := v'))
  · subst hm2
    have hrun0 := append_none t ty el pi e1 i1 (e.hd k) m xs g1 cc
    refine .inl ?_
    unfold Oper.wp
    have hrun : (execOp a.eval ⟨some dst, .call ⟨.builtin .append, #[so_, xo], #[t, t]⟩, ty, pos, aft, gd⟩).run P w = .ok (.value (e.hd k)) w := by
      simp only [execOp, resolve, invoke, builtin, Sem.run_bind, Sem.run_pure, Result.andThen_ok, List.map_toArray, List.map_cons, List.map_nil, hso', hx, hrun0]
    rw [hrun]
    have hrn : RowsL e.G esz 0 row2 ([] : List Value) := fun i hi => by omega
    have r2 := r.vec (d := dst) (w' := w) (v' := e.hd k) (t := el) (esz := esz) (m := m + 0) (row := row3) (xs := xs ++ []) (s := S.filter fun q => q.2.no dst) (c := r1) (c' := r1) (e.hd k).ownBlock hd
      (fun i x hi => hi) (freshS_filter dst S) hfc hh.drop hold hdis (by simpa using g1) (hrowsOut hrn) ⟨rfl, rfl, rfl, Nat.le_refl _, fun _ _ _ => rfl⟩ (fun b hb => ⟨(hold b hb).1, .inl hb.symm⟩)
    exact hkk _ _ _ _ r2 (fin (v' := e.hd k))
end
end Go.Sy

/- Contracts of blank: plain. -/
set_option linter.unusedSimpArgs false
set_option linter.unusedVariables false
set_option maxRecDepth 100000
namespace Go.Proofs
open Go.Sy Go.Lib

/-- A maker. -/
abbrev MK (b : Nat) : AV := .cp [PT b 0]
abbrev BR (b : Nat) (l : List Dcl) (x : Val × Bool) : AV → List Abs → Prop := fun r cs' => r = .tup [.agg (Val.c x.1), B x.2] ∧ cs' = [dscS b l]

theorem DRows_X (b : Nat) (l : List Dcl) (hP : Prep l) (hW : WellL l) (nm : List UInt8) : FnA Tryz.prog 25 [PT b 0, .s nm] [dscS b l] (fun r cs' => (r = SL 5 Fld.c (rowsU l nm) ∧ ∃ Rs, RowsOK l Rs) ∧ cs' = [dscS b l]) :=
  FnA_ex (φ := fun r => r = SL 5 Fld.c (rowsU l nm) ∧ ∃ Rs, RowsOK l Rs) (fun q hq => (DRows_A b l hP q hq nm).mono (fun r cs' ⟨Rs, h1, h2, h3⟩ => ⟨⟨by rw [h2, rowsU_eq hW h1], Rs, h1⟩, some Rs, fun _ h => by cases h; exact h1, h3⟩)) (DRows_A b l hP none (fun _ h => by cases h) nm).1

theorem plain_A (b : Nat) (l : List Dcl) (t : Ty) (h6 : t.kind ≠ 6) (d : Nat) (hd : d ≤ 1000) (h : List UInt8 → Val × Bool)
    (hby : 0 < t.of.length → FnA Tryz.prog 132 [MK b, .agg (Ty.c (t.of.getD 0 default)), I64 (d : Nat)] [dscS b l] (BR b l (plF h (t.of.getD 0 default)))) :
    FnA Tryz.prog 203 [MK b, .agg (Ty.c t), I64 (d : Nat)] [dscS b l] (BR b l (plF h t)) := by
  obtain ⟨q, hq⟩ : ∃ q, plF h t = q := ⟨_, rfl⟩
  rw [hq]
  rw [plF_eq, if_neg h6] at hq
  refine FnA.intro Tryz.tabOK Tryz.wide_ Tryz.func203 rfl (by decide) rfl (fun X => ?_)
  repeat (first | refine sc rfl ?_ | refine so rfl ?_ | refine sb rfl ?_)
  refine O_case 12 rfl (fun c0 => ?_) (fun c0 => ?_) <;> simp only [decide_eq_true_eq, decide_eq_false_iff_not, Bool.not_eq_true', Bool.not_eq_false', beq_iff_eq, beq_eq_false_iff_ne, bne_iff_ne, ne_eq, bne_eq_false_iff_eq, Decidable.not_not] at c0
  · repeat (first | refine sc rfl ?_ | refine so rfl ?_ | refine sb rfl ?_)
    refine O_case 17 rfl (fun c1 => ?_) (fun c1 => ?_) <;> simp only [decide_eq_true_eq, decide_eq_false_iff_not, Bool.not_eq_true', Bool.not_eq_false', beq_iff_eq, beq_eq_false_iff_ne, bne_iff_ne, ne_eq, bne_eq_false_iff_eq, Decidable.not_not] at c1
    · repeat (first | refine sc rfl ?_ | refine so rfl ?_ | refine sb rfl ?_)
      refine C_if rfl (fun m1 => ?_) (fun m1 => ?_) <;> simp only [decide_eq_true_eq, decide_eq_false_iff_not, Bool.not_eq_true', Bool.not_eq_false', beq_iff_eq, beq_eq_false_iff_ne, bne_iff_ne, ne_eq, bne_eq_false_iff_eq, Decidable.not_not] at m1
      · repeat (first | refine sc rfl ?_ | refine so rfl ?_ | refine sb rfl ?_)
        refine C_true rfl (decide_eq_true (by omega)) ?_
        repeat (first | refine O_le _ (Le.agg 43 (Val.c ⟨t.kind, 0, [], [], []⟩) rfl (.cons .refl (.cons .refl (.cons .refl (.cons .nil (.cons .nil .nil)))))) ?_ | refine sc rfl ?_ | refine so rfl ?_ | refine sb rfl ?_)
        first
          | exact ⟨_, [_], _, rfl, pickA_perm (is := [0]) (As := [_]) rfl, rfl, by rw [← hq, if_pos (by omega)]; rfl, rfl⟩
          | exact ⟨_, [_], _, rfl, pickA_perm (is := [1]) (As := [_]) rfl, rfl, by rw [← hq, if_pos (by omega)]; rfl, rfl⟩
          | exact ⟨_, [_], _, rfl, pickA_perm (is := [2]) (As := [_]) rfl, rfl, by rw [← hq, if_pos (by omega)]; rfl, rfl⟩
          | exact ⟨_, [_], _, rfl, pickA_perm (is := [3]) (As := [_]) rfl, rfl, by rw [← hq, if_pos (by omega)]; rfl, rfl⟩
          | exact ⟨_, [_], _, rfl, pickA_perm (is := [4]) (As := [_]) rfl, rfl, by rw [← hq, if_pos (by omega)]; rfl, rfl⟩
      · repeat (first | refine sc rfl ?_ | refine so rfl ?_ | refine sb rfl ?_)
        refine O_case 26 rfl (fun c2 => ?_) (fun c2 => ?_) <;> simp only [decide_eq_true_eq, decide_eq_false_iff_not, Bool.not_eq_true', Bool.not_eq_false', beq_iff_eq, beq_eq_false_iff_ne, bne_iff_ne, ne_eq, bne_eq_false_iff_eq, Decidable.not_not] at c2
        · repeat (first | refine sc rfl ?_ | refine so rfl ?_ | refine sb rfl ?_)
          refine C_if rfl (fun m2 => ?_) (fun m2 => ?_) <;> simp only [decide_eq_true_eq, decide_eq_false_iff_not, Bool.not_eq_true', Bool.not_eq_false', beq_iff_eq, beq_eq_false_iff_ne, bne_iff_ne, ne_eq, bne_eq_false_iff_eq, Decidable.not_not] at m2
          · repeat (first | refine sc rfl ?_ | refine so rfl ?_ | refine sb rfl ?_)
            refine C_true rfl (decide_eq_true (by omega)) ?_
            repeat (first | refine O_le _ (Le.agg 43 (Val.c ⟨t.kind, 0, [], [], []⟩) rfl (.cons .refl (.cons .refl (.cons .refl (.cons .nil (.cons .nil .nil)))))) ?_ | refine sc rfl ?_ | refine so rfl ?_ | refine sb rfl ?_)
            first
              | exact ⟨_, [_], _, rfl, pickA_perm (is := [0]) (As := [_]) rfl, rfl, by rw [← hq, if_pos (by omega)]; rfl, rfl⟩
              | exact ⟨_, [_], _, rfl, pickA_perm (is := [1]) (As := [_]) rfl, rfl, by rw [← hq, if_pos (by omega)]; rfl, rfl⟩
              | exact ⟨_, [_], _, rfl, pickA_perm (is := [2]) (As := [_]) rfl, rfl, by rw [← hq, if_pos (by omega)]; rfl, rfl⟩
              | exact ⟨_, [_], _, rfl, pickA_perm (is := [3]) (As := [_]) rfl, rfl, by rw [← hq, if_pos (by omega)]; rfl, rfl⟩
              | exact ⟨_, [_], _, rfl, pickA_perm (is := [4]) (As := [_]) rfl, rfl, by rw [← hq, if_pos (by omega)]; rfl, rfl⟩
          · repeat (first | refine sc rfl ?_ | refine so rfl ?_ | refine sb rfl ?_)
            refine O_case 35 rfl (fun c3 => ?_) (fun c3 => ?_) <;> simp only [decide_eq_true_eq, decide_eq_false_iff_not, Bool.not_eq_true', Bool.not_eq_false', beq_iff_eq, beq_eq_false_iff_ne, bne_iff_ne, ne_eq, bne_eq_false_iff_eq, Decidable.not_not] at c3
            · repeat (first | refine sc rfl ?_ | refine so rfl ?_ | refine sb rfl ?_)
              refine C_if rfl (fun m3 => ?_) (fun m3 => ?_) <;> simp only [decide_eq_true_eq, decide_eq_false_iff_not, Bool.not_eq_true', Bool.not_eq_false', beq_iff_eq, beq_eq_false_iff_ne, bne_iff_ne, ne_eq, bne_eq_false_iff_eq, Decidable.not_not] at m3
              · skip
                repeat (first | refine O_le _ (Le.agg 43 (Val.c ⟨t.kind, 0, [], [], []⟩) rfl (.cons .refl (.cons .refl (.cons .refl (.cons .nil (.cons .nil .nil)))))) ?_ | refine sc rfl ?_ | refine so rfl ?_ | refine sb rfl ?_)
                first
                  | exact ⟨_, [_], _, rfl, pickA_perm (is := [0]) (As := [_]) rfl, rfl, by rw [← hq, if_pos (by omega)]; rfl, rfl⟩
                  | exact ⟨_, [_], _, rfl, pickA_perm (is := [1]) (As := [_]) rfl, rfl, by rw [← hq, if_pos (by omega)]; rfl, rfl⟩
                  | exact ⟨_, [_], _, rfl, pickA_perm (is := [2]) (As := [_]) rfl, rfl, by rw [← hq, if_pos (by omega)]; rfl, rfl⟩
                  | exact ⟨_, [_], _, rfl, pickA_perm (is := [3]) (As := [_]) rfl, rfl, by rw [← hq, if_pos (by omega)]; rfl, rfl⟩
                  | exact ⟨_, [_], _, rfl, pickA_perm (is := [4]) (As := [_]) rfl, rfl, by rw [← hq, if_pos (by omega)]; rfl, rfl⟩
              · repeat (first | refine sc rfl ?_ | refine so rfl ?_ | refine sb rfl ?_)
                refine O_case 48 rfl (fun c4 => ?_) (fun c4 => ?_) <;> simp only [decide_eq_true_eq, decide_eq_false_iff_not, Bool.not_eq_true', Bool.not_eq_false', beq_iff_eq, beq_eq_false_iff_ne, bne_iff_ne, ne_eq, bne_eq_false_iff_eq, Decidable.not_not] at c4
                · repeat (first | refine sc rfl ?_ | refine so rfl ?_ | refine sb rfl ?_)
                  refine C_if rfl (fun m4 => ?_) (fun m4 => ?_) <;> simp only [decide_eq_true_eq, decide_eq_false_iff_not, Bool.not_eq_true', Bool.not_eq_false', beq_iff_eq, beq_eq_false_iff_ne, bne_iff_ne, ne_eq, bne_eq_false_iff_eq, Decidable.not_not] at m4
                  · skip
                    repeat (first | refine O_le _ (Le.one 56 (SL 3 Ty.c t.of) rfl (.row (Ty.rows_eq _))) ?_ | refine sc rfl ?_ | refine so rfl ?_ | refine sb rfl ?_)
                    refine ⟨by omega, ?_⟩
                    repeat (first | refine sc rfl ?_ | refine so rfl ?_ | refine sb rfl ?_)
                    first
                      | refine O_callA [0] (hby (by omega)) (by rfl) (by rfl) (by rfl) (by rfl) (by rfl) ?_
                      | refine O_callA [1] (hby (by omega)) (by rfl) (by rfl) (by rfl) (by rfl) (by rfl) ?_
                      | refine O_callA [2] (hby (by omega)) (by rfl) (by rfl) (by rfl) (by rfl) (by rfl) ?_
                      | refine O_callA [3] (hby (by omega)) (by rfl) (by rfl) (by rfl) (by rfl) (by rfl) ?_
                      | refine O_callA [4] (hby (by omega)) (by rfl) (by rfl) (by rfl) (by rfl) (by rfl) ?_
                    rintro r cs' ⟨rfl, rfl⟩
                    repeat (first | refine sc rfl ?_ | refine so rfl ?_ | refine sb rfl ?_)
                    first
                      | exact ⟨_, [_], _, rfl, pickA_perm (is := [0]) (As := [_]) rfl, rfl, by rw [← hq, if_neg (by omega), if_pos ⟨by omega, by omega⟩]; rfl, rfl⟩
                      | exact ⟨_, [_], _, rfl, pickA_perm (is := [1]) (As := [_]) rfl, rfl, by rw [← hq, if_neg (by omega), if_pos ⟨by omega, by omega⟩]; rfl, rfl⟩
                      | exact ⟨_, [_], _, rfl, pickA_perm (is := [2]) (As := [_]) rfl, rfl, by rw [← hq, if_neg (by omega), if_pos ⟨by omega, by omega⟩]; rfl, rfl⟩
                      | exact ⟨_, [_], _, rfl, pickA_perm (is := [3]) (As := [_]) rfl, rfl, by rw [← hq, if_neg (by omega), if_pos ⟨by omega, by omega⟩]; rfl, rfl⟩
                      | exact ⟨_, [_], _, rfl, pickA_perm (is := [4]) (As := [_]) rfl, rfl, by rw [← hq, if_neg (by omega), if_pos ⟨by omega, by omega⟩]; rfl, rfl⟩
                  · skip
                    repeat (first | refine O_le _ (Le.agg 63 (Val.c zV) rfl (.cons .refl (.cons .refl (.cons .refl (.cons .nil (.cons .nil .nil)))))) ?_ | refine sc rfl ?_ | refine so rfl ?_ | refine sb rfl ?_)
                    first
                      | exact ⟨_, [_], _, rfl, pickA_perm (is := [0]) (As := [_]) rfl, rfl, by rw [← hq, if_neg (by omega), if_neg (by omega)]; rfl, rfl⟩
                      | exact ⟨_, [_], _, rfl, pickA_perm (is := [1]) (As := [_]) rfl, rfl, by rw [← hq, if_neg (by omega), if_neg (by omega)]; rfl, rfl⟩
                      | exact ⟨_, [_], _, rfl, pickA_perm (is := [2]) (As := [_]) rfl, rfl, by rw [← hq, if_neg (by omega), if_neg (by omega)]; rfl, rfl⟩
                      | exact ⟨_, [_], _, rfl, pickA_perm (is := [3]) (As := [_]) rfl, rfl, by rw [← hq, if_neg (by omega), if_neg (by omega)]; rfl, rfl⟩
                      | exact ⟨_, [_], _, rfl, pickA_perm (is := [4]) (As := [_]) rfl, rfl, by rw [← hq, if_neg (by omega), if_neg (by omega)]; rfl, rfl⟩
                · repeat (first | refine sc rfl ?_ | refine so rfl ?_ | refine sb rfl ?_)
                  refine C_false rfl rfl ?_
                  repeat (first | refine O_le _ (Le.agg 63 (Val.c zV) rfl (.cons .refl (.cons .refl (.cons .refl (.cons .nil (.cons .nil .nil)))))) ?_ | refine sc rfl ?_ | refine so rfl ?_ | refine sb rfl ?_)
                  first
                    | exact ⟨_, [_], _, rfl, pickA_perm (is := [0]) (As := [_]) rfl, rfl, by rw [← hq, if_neg (by omega), if_neg (by omega)]; rfl, rfl⟩
                    | exact ⟨_, [_], _, rfl, pickA_perm (is := [1]) (As := [_]) rfl, rfl, by rw [← hq, if_neg (by omega), if_neg (by omega)]; rfl, rfl⟩
                    | exact ⟨_, [_], _, rfl, pickA_perm (is := [2]) (As := [_]) rfl, rfl, by rw [← hq, if_neg (by omega), if_neg (by omega)]; rfl, rfl⟩
                    | exact ⟨_, [_], _, rfl, pickA_perm (is := [3]) (As := [_]) rfl, rfl, by rw [← hq, if_neg (by omega), if_neg (by omega)]; rfl, rfl⟩
                    | exact ⟨_, [_], _, rfl, pickA_perm (is := [4]) (As := [_]) rfl, rfl, by rw [← hq, if_neg (by omega), if_neg (by omega)]; rfl, rfl⟩
            · repeat (first | refine sc rfl ?_ | refine so rfl ?_ | refine sb rfl ?_)
              refine C_false rfl rfl ?_
              repeat (first | refine sc rfl ?_ | refine so rfl ?_ | refine sb rfl ?_)
              refine O_case 48 rfl (fun c4 => ?_) (fun c4 => ?_) <;> simp only [decide_eq_true_eq, decide_eq_false_iff_not, Bool.not_eq_true', Bool.not_eq_false', beq_iff_eq, beq_eq_false_iff_ne, bne_iff_ne, ne_eq, bne_eq_false_iff_eq, Decidable.not_not] at c4
              · repeat (first | refine sc rfl ?_ | refine so rfl ?_ | refine sb rfl ?_)
                refine C_if rfl (fun m4 => ?_) (fun m4 => ?_) <;> simp only [decide_eq_true_eq, decide_eq_false_iff_not, Bool.not_eq_true', Bool.not_eq_false', beq_iff_eq, beq_eq_false_iff_ne, bne_iff_ne, ne_eq, bne_eq_false_iff_eq, Decidable.not_not] at m4
                · skip
                  repeat (first | refine O_le _ (Le.one 56 (SL 3 Ty.c t.of) rfl (.row (Ty.rows_eq _))) ?_ | refine sc rfl ?_ | refine so rfl ?_ | refine sb rfl ?_)
                  refine ⟨by omega, ?_⟩
                  repeat (first | refine sc rfl ?_ | refine so rfl ?_ | refine sb rfl ?_)
                  first
                    | refine O_callA [0] (hby (by omega)) (by rfl) (by rfl) (by rfl) (by rfl) (by rfl) ?_
                    | refine O_callA [1] (hby (by omega)) (by rfl) (by rfl) (by rfl) (by rfl) (by rfl) ?_
                    | refine O_callA [2] (hby (by omega)) (by rfl) (by rfl) (by rfl) (by rfl) (by rfl) ?_
                    | refine O_callA [3] (hby (by omega)) (by rfl) (by rfl) (by rfl) (by rfl) (by rfl) ?_
                    | refine O_callA [4] (hby (by omega)) (by rfl) (by rfl) (by rfl) (by rfl) (by rfl) ?_
                  rintro r cs' ⟨rfl, rfl⟩
                  repeat (first | refine sc rfl ?_ | refine so rfl ?_ | refine sb rfl ?_)
                  first
                    | exact ⟨_, [_], _, rfl, pickA_perm (is := [0]) (As := [_]) rfl, rfl, by rw [← hq, if_neg (by omega), if_pos ⟨by omega, by omega⟩]; rfl, rfl⟩
                    | exact ⟨_, [_], _, rfl, pickA_perm (is := [1]) (As := [_]) rfl, rfl, by rw [← hq, if_neg (by omega), if_pos ⟨by omega, by omega⟩]; rfl, rfl⟩
                    | exact ⟨_, [_], _, rfl, pickA_perm (is := [2]) (As := [_]) rfl, rfl, by rw [← hq, if_neg (by omega), if_pos ⟨by omega, by omega⟩]; rfl, rfl⟩
                    | exact ⟨_, [_], _, rfl, pickA_perm (is := [3]) (As := [_]) rfl, rfl, by rw [← hq, if_neg (by omega), if_pos ⟨by omega, by omega⟩]; rfl, rfl⟩
                    | exact ⟨_, [_], _, rfl, pickA_perm (is := [4]) (As := [_]) rfl, rfl, by rw [← hq, if_neg (by omega), if_pos ⟨by omega, by omega⟩]; rfl, rfl⟩
                · skip
                  repeat (first | refine O_le _ (Le.agg 63 (Val.c zV) rfl (.cons .refl (.cons .refl (.cons .refl (.cons .nil (.cons .nil .nil)))))) ?_ | refine sc rfl ?_ | refine so rfl ?_ | refine sb rfl ?_)
                  first
                    | exact ⟨_, [_], _, rfl, pickA_perm (is := [0]) (As := [_]) rfl, rfl, by rw [← hq, if_neg (by omega), if_neg (by omega)]; rfl, rfl⟩
                    | exact ⟨_, [_], _, rfl, pickA_perm (is := [1]) (As := [_]) rfl, rfl, by rw [← hq, if_neg (by omega), if_neg (by omega)]; rfl, rfl⟩
                    | exact ⟨_, [_], _, rfl, pickA_perm (is := [2]) (As := [_]) rfl, rfl, by rw [← hq, if_neg (by omega), if_neg (by omega)]; rfl, rfl⟩
                    | exact ⟨_, [_], _, rfl, pickA_perm (is := [3]) (As := [_]) rfl, rfl, by rw [← hq, if_neg (by omega), if_neg (by omega)]; rfl, rfl⟩
                    | exact ⟨_, [_], _, rfl, pickA_perm (is := [4]) (As := [_]) rfl, rfl, by rw [← hq, if_neg (by omega), if_neg (by omega)]; rfl, rfl⟩
              · repeat (first | refine sc rfl ?_ | refine so rfl ?_ | refine sb rfl ?_)
                refine C_false rfl rfl ?_
                repeat (first | refine O_le _ (Le.agg 63 (Val.c zV) rfl (.cons .refl (.cons .refl (.cons .refl (.cons .nil (.cons .nil .nil)))))) ?_ | refine sc rfl ?_ | refine so rfl ?_ | refine sb rfl ?_)
                first
                  | exact ⟨_, [_], _, rfl, pickA_perm (is := [0]) (As := [_]) rfl, rfl, by rw [← hq, if_neg (by omega), if_neg (by omega)]; rfl, rfl⟩
                  | exact ⟨_, [_], _, rfl, pickA_perm (is := [1]) (As := [_]) rfl, rfl, by rw [← hq, if_neg (by omega), if_neg (by omega)]; rfl, rfl⟩
                  | exact ⟨_, [_], _, rfl, pickA_perm (is := [2]) (As := [_]) rfl, rfl, by rw [← hq, if_neg (by omega), if_neg (by omega)]; rfl, rfl⟩
                  | exact ⟨_, [_], _, rfl, pickA_perm (is := [3]) (As := [_]) rfl, rfl, by rw [← hq, if_neg (by omega), if_neg (by omega)]; rfl, rfl⟩
                  | exact ⟨_, [_], _, rfl, pickA_perm (is := [4]) (As := [_]) rfl, rfl, by rw [← hq, if_neg (by omega), if_neg (by omega)]; rfl, rfl⟩
        · repeat (first | refine sc rfl ?_ | refine so rfl ?_ | refine sb rfl ?_)
          refine C_false rfl rfl ?_
          repeat (first | refine sc rfl ?_ | refine so rfl ?_ | refine sb rfl ?_)
          refine O_case 35 rfl (fun c3 => ?_) (fun c3 => ?_) <;> simp only [decide_eq_true_eq, decide_eq_false_iff_not, Bool.not_eq_true', Bool.not_eq_false', beq_iff_eq, beq_eq_false_iff_ne, bne_iff_ne, ne_eq, bne_eq_false_iff_eq, Decidable.not_not] at c3
          · repeat (first | refine sc rfl ?_ | refine so rfl ?_ | refine sb rfl ?_)
            refine C_if rfl (fun m3 => ?_) (fun m3 => ?_) <;> simp only [decide_eq_true_eq, decide_eq_false_iff_not, Bool.not_eq_true', Bool.not_eq_false', beq_iff_eq, beq_eq_false_iff_ne, bne_iff_ne, ne_eq, bne_eq_false_iff_eq, Decidable.not_not] at m3
            · skip
              repeat (first | refine O_le _ (Le.agg 43 (Val.c ⟨t.kind, 0, [], [], []⟩) rfl (.cons .refl (.cons .refl (.cons .refl (.cons .nil (.cons .nil .nil)))))) ?_ | refine sc rfl ?_ | refine so rfl ?_ | refine sb rfl ?_)
              first
                | exact ⟨_, [_], _, rfl, pickA_perm (is := [0]) (As := [_]) rfl, rfl, by rw [← hq, if_pos (by omega)]; rfl, rfl⟩
                | exact ⟨_, [_], _, rfl, pickA_perm (is := [1]) (As := [_]) rfl, rfl, by rw [← hq, if_pos (by omega)]; rfl, rfl⟩
                | exact ⟨_, [_], _, rfl, pickA_perm (is := [2]) (As := [_]) rfl, rfl, by rw [← hq, if_pos (by omega)]; rfl, rfl⟩
                | exact ⟨_, [_], _, rfl, pickA_perm (is := [3]) (As := [_]) rfl, rfl, by rw [← hq, if_pos (by omega)]; rfl, rfl⟩
                | exact ⟨_, [_], _, rfl, pickA_perm (is := [4]) (As := [_]) rfl, rfl, by rw [← hq, if_pos (by omega)]; rfl, rfl⟩
            · repeat (first | refine sc rfl ?_ | refine so rfl ?_ | refine sb rfl ?_)
              refine O_case 48 rfl (fun c4 => ?_) (fun c4 => ?_) <;> simp only [decide_eq_true_eq, decide_eq_false_iff_not, Bool.not_eq_true', Bool.not_eq_false', beq_iff_eq, beq_eq_false_iff_ne, bne_iff_ne, ne_eq, bne_eq_false_iff_eq, Decidable.not_not] at c4
              · repeat (first | refine sc rfl ?_ | refine so rfl ?_ | refine sb rfl ?_)
                refine C_if rfl (fun m4 => ?_) (fun m4 => ?_) <;> simp only [decide_eq_true_eq, decide_eq_false_iff_not, Bool.not_eq_true', Bool.not_eq_false', beq_iff_eq, beq_eq_false_iff_ne, bne_iff_ne, ne_eq, bne_eq_false_iff_eq, Decidable.not_not] at m4
                · skip
                  repeat (first | refine O_le _ (Le.one 56 (SL 3 Ty.c t.of) rfl (.row (Ty.rows_eq _))) ?_ | refine sc rfl ?_ | refine so rfl ?_ | refine sb rfl ?_)
                  refine ⟨by omega, ?_⟩
                  repeat (first | refine sc rfl ?_ | refine so rfl ?_ | refine sb rfl ?_)
                  first
                    | refine O_callA [0] (hby (by omega)) (by rfl) (by rfl) (by rfl) (by rfl) (by rfl) ?_
                    | refine O_callA [1] (hby (by omega)) (by rfl) (by rfl) (by rfl) (by rfl) (by rfl) ?_
                    | refine O_callA [2] (hby (by omega)) (by rfl) (by rfl) (by rfl) (by rfl) (by rfl) ?_
                    | refine O_callA [3] (hby (by omega)) (by rfl) (by rfl) (by rfl) (by rfl) (by rfl) ?_
                    | refine O_callA [4] (hby (by omega)) (by rfl) (by rfl) (by rfl) (by rfl) (by rfl) ?_
                  rintro r cs' ⟨rfl, rfl⟩
                  repeat (first | refine sc rfl ?_ | refine so rfl ?_ | refine sb rfl ?_)
                  first
                    | exact ⟨_, [_], _, rfl, pickA_perm (is := [0]) (As := [_]) rfl, rfl, by rw [← hq, if_neg (by omega), if_pos ⟨by omega, by omega⟩]; rfl, rfl⟩
                    | exact ⟨_, [_], _, rfl, pickA_perm (is := [1]) (As := [_]) rfl, rfl, by rw [← hq, if_neg (by omega), if_pos ⟨by omega, by omega⟩]; rfl, rfl⟩
                    | exact ⟨_, [_], _, rfl, pickA_perm (is := [2]) (As := [_]) rfl, rfl, by rw [← hq, if_neg (by omega), if_pos ⟨by omega, by omega⟩]; rfl, rfl⟩
                    | exact ⟨_, [_], _, rfl, pickA_perm (is := [3]) (As := [_]) rfl, rfl, by rw [← hq, if_neg (by omega), if_pos ⟨by omega, by omega⟩]; rfl, rfl⟩
                    | exact ⟨_, [_], _, rfl, pickA_perm (is := [4]) (As := [_]) rfl, rfl, by rw [← hq, if_neg (by omega), if_pos ⟨by omega, by omega⟩]; rfl, rfl⟩
                · skip
                  repeat (first | refine O_le _ (Le.agg 63 (Val.c zV) rfl (.cons .refl (.cons .refl (.cons .refl (.cons .nil (.cons .nil .nil)))))) ?_ | refine sc rfl ?_ | refine so rfl ?_ | refine sb rfl ?_)
                  first
                    | exact ⟨_, [_], _, rfl, pickA_perm (is := [0]) (As := [_]) rfl, rfl, by rw [← hq, if_neg (by omega), if_neg (by omega)]; rfl, rfl⟩
                    | exact ⟨_, [_], _, rfl, pickA_perm (is := [1]) (As := [_]) rfl, rfl, by rw [← hq, if_neg (by omega), if_neg (by omega)]; rfl, rfl⟩
                    | exact ⟨_, [_], _, rfl, pickA_perm (is := [2]) (As := [_]) rfl, rfl, by rw [← hq, if_neg (by omega), if_neg (by omega)]; rfl, rfl⟩
                    | exact ⟨_, [_], _, rfl, pickA_perm (is := [3]) (As := [_]) rfl, rfl, by rw [← hq, if_neg (by omega), if_neg (by omega)]; rfl, rfl⟩
                    | exact ⟨_, [_], _, rfl, pickA_perm (is := [4]) (As := [_]) rfl, rfl, by rw [← hq, if_neg (by omega), if_neg (by omega)]; rfl, rfl⟩
              · repeat (first | refine sc rfl ?_ | refine so rfl ?_ | refine sb rfl ?_)
                refine C_false rfl rfl ?_
                repeat (first | refine O_le _ (Le.agg 63 (Val.c zV) rfl (.cons .refl (.cons .refl (.cons .refl (.cons .nil (.cons .nil .nil)))))) ?_ | refine sc rfl ?_ | refine so rfl ?_ | refine sb rfl ?_)
                first
                  | exact ⟨_, [_], _, rfl, pickA_perm (is := [0]) (As := [_]) rfl, rfl, by rw [← hq, if_neg (by omega), if_neg (by omega)]; rfl, rfl⟩
                  | exact ⟨_, [_], _, rfl, pickA_perm (is := [1]) (As := [_]) rfl, rfl, by rw [← hq, if_neg (by omega), if_neg (by omega)]; rfl, rfl⟩
                  | exact ⟨_, [_], _, rfl, pickA_perm (is := [2]) (As := [_]) rfl, rfl, by rw [← hq, if_neg (by omega), if_neg (by omega)]; rfl, rfl⟩
                  | exact ⟨_, [_], _, rfl, pickA_perm (is := [3]) (As := [_]) rfl, rfl, by rw [← hq, if_neg (by omega), if_neg (by omega)]; rfl, rfl⟩
                  | exact ⟨_, [_], _, rfl, pickA_perm (is := [4]) (As := [_]) rfl, rfl, by rw [← hq, if_neg (by omega), if_neg (by omega)]; rfl, rfl⟩
          · repeat (first | refine sc rfl ?_ | refine so rfl ?_ | refine sb rfl ?_)
            refine C_false rfl rfl ?_
            repeat (first | refine sc rfl ?_ | refine so rfl ?_ | refine sb rfl ?_)
            refine O_case 48 rfl (fun c4 => ?_) (fun c4 => ?_) <;> simp only [decide_eq_true_eq, decide_eq_false_iff_not, Bool.not_eq_true', Bool.not_eq_false', beq_iff_eq, beq_eq_false_iff_ne, bne_iff_ne, ne_eq, bne_eq_false_iff_eq, Decidable.not_not] at c4
            · repeat (first | refine sc rfl ?_ | refine so rfl ?_ | refine sb rfl ?_)
              refine C_if rfl (fun m4 => ?_) (fun m4 => ?_) <;> simp only [decide_eq_true_eq, decide_eq_false_iff_not, Bool.not_eq_true', Bool.not_eq_false', beq_iff_eq, beq_eq_false_iff_ne, bne_iff_ne, ne_eq, bne_eq_false_iff_eq, Decidable.not_not] at m4
              · skip
                repeat (first | refine O_le _ (Le.one 56 (SL 3 Ty.c t.of) rfl (.row (Ty.rows_eq _))) ?_ | refine sc rfl ?_ | refine so rfl ?_ | refine sb rfl ?_)
                refine ⟨by omega, ?_⟩
                repeat (first | refine sc rfl ?_ | refine so rfl ?_ | refine sb rfl ?_)
                first
                  | refine O_callA [0] (hby (by omega)) (by rfl) (by rfl) (by rfl) (by rfl) (by rfl) ?_
                  | refine O_callA [1] (hby (by omega)) (by rfl) (by rfl) (by rfl) (by rfl) (by rfl) ?_
                  | refine O_callA [2] (hby (by omega)) (by rfl) (by rfl) (by rfl) (by rfl) (by rfl) ?_
                  | refine O_callA [3] (hby (by omega)) (by rfl) (by rfl) (by rfl) (by rfl) (by rfl) ?_
                  | refine O_callA [4] (hby (by omega)) (by rfl) (by rfl) (by rfl) (by rfl) (by rfl) ?_
                rintro r cs' ⟨rfl, rfl⟩
                repeat (first | refine sc rfl ?_ | refine so rfl ?_ | refine sb rfl ?_)
                first
                  | exact ⟨_, [_], _, rfl, pickA_perm (is := [0]) (As := [_]) rfl, rfl, by rw [← hq, if_neg (by omega), if_pos ⟨by omega, by omega⟩]; rfl, rfl⟩
                  | exact ⟨_, [_], _, rfl, pickA_perm (is := [1]) (As := [_]) rfl, rfl, by rw [← hq, if_neg (by omega), if_pos ⟨by omega, by omega⟩]; rfl, rfl⟩
                  | exact ⟨_, [_], _, rfl, pickA_perm (is := [2]) (As := [_]) rfl, rfl, by rw [← hq, if_neg (by omega), if_pos ⟨by omega, by omega⟩]; rfl, rfl⟩
                  | exact ⟨_, [_], _, rfl, pickA_perm (is := [3]) (As := [_]) rfl, rfl, by rw [← hq, if_neg (by omega), if_pos ⟨by omega, by omega⟩]; rfl, rfl⟩
                  | exact ⟨_, [_], _, rfl, pickA_perm (is := [4]) (As := [_]) rfl, rfl, by rw [← hq, if_neg (by omega), if_pos ⟨by omega, by omega⟩]; rfl, rfl⟩
              · skip
                repeat (first | refine O_le _ (Le.agg 63 (Val.c zV) rfl (.cons .refl (.cons .refl (.cons .refl (.cons .nil (.cons .nil .nil)))))) ?_ | refine sc rfl ?_ | refine so rfl ?_ | refine sb rfl ?_)
                first
                  | exact ⟨_, [_], _, rfl, pickA_perm (is := [0]) (As := [_]) rfl, rfl, by rw [← hq, if_neg (by omega), if_neg (by omega)]; rfl, rfl⟩
                  | exact ⟨_, [_], _, rfl, pickA_perm (is := [1]) (As := [_]) rfl, rfl, by rw [← hq, if_neg (by omega), if_neg (by omega)]; rfl, rfl⟩
                  | exact ⟨_, [_], _, rfl, pickA_perm (is := [2]) (As := [_]) rfl, rfl, by rw [← hq, if_neg (by omega), if_neg (by omega)]; rfl, rfl⟩
                  | exact ⟨_, [_], _, rfl, pickA_perm (is := [3]) (As := [_]) rfl, rfl, by rw [← hq, if_neg (by omega), if_neg (by omega)]; rfl, rfl⟩
                  | exact ⟨_, [_], _, rfl, pickA_perm (is := [4]) (As := [_]) rfl, rfl, by rw [← hq, if_neg (by omega), if_neg (by omega)]; rfl, rfl⟩
            · repeat (first | refine sc rfl ?_ | refine so rfl ?_ | refine sb rfl ?_)
              refine C_false rfl rfl ?_
              repeat (first | refine O_le _ (Le.agg 63 (Val.c zV) rfl (.cons .refl (.cons .refl (.cons .refl (.cons .nil (.cons .nil .nil)))))) ?_ | refine sc rfl ?_ | refine so rfl ?_ | refine sb rfl ?_)
              first
                | exact ⟨_, [_], _, rfl, pickA_perm (is := [0]) (As := [_]) rfl, rfl, by rw [← hq, if_neg (by omega), if_neg (by omega)]; rfl, rfl⟩
                | exact ⟨_, [_], _, rfl, pickA_perm (is := [1]) (As := [_]) rfl, rfl, by rw [← hq, if_neg (by omega), if_neg (by omega)]; rfl, rfl⟩
                | exact ⟨_, [_], _, rfl, pickA_perm (is := [2]) (As := [_]) rfl, rfl, by rw [← hq, if_neg (by omega), if_neg (by omega)]; rfl, rfl⟩
                | exact ⟨_, [_], _, rfl, pickA_perm (is := [3]) (As := [_]) rfl, rfl, by rw [← hq, if_neg (by omega), if_neg (by omega)]; rfl, rfl⟩
                | exact ⟨_, [_], _, rfl, pickA_perm (is := [4]) (As := [_]) rfl, rfl, by rw [← hq, if_neg (by omega), if_neg (by omega)]; rfl, rfl⟩
    · repeat (first | refine sc rfl ?_ | refine so rfl ?_ | refine sb rfl ?_)
      refine C_false rfl rfl ?_
      repeat (first | refine sc rfl ?_ | refine so rfl ?_ | refine sb rfl ?_)
      refine O_case 26 rfl (fun c2 => ?_) (fun c2 => ?_) <;> simp only [decide_eq_true_eq, decide_eq_false_iff_not, Bool.not_eq_true', Bool.not_eq_false', beq_iff_eq, beq_eq_false_iff_ne, bne_iff_ne, ne_eq, bne_eq_false_iff_eq, Decidable.not_not] at c2
      · repeat (first | refine sc rfl ?_ | refine so rfl ?_ | refine sb rfl ?_)
        refine C_if rfl (fun m2 => ?_) (fun m2 => ?_) <;> simp only [decide_eq_true_eq, decide_eq_false_iff_not, Bool.not_eq_true', Bool.not_eq_false', beq_iff_eq, beq_eq_false_iff_ne, bne_iff_ne, ne_eq, bne_eq_false_iff_eq, Decidable.not_not] at m2
        · repeat (first | refine sc rfl ?_ | refine so rfl ?_ | refine sb rfl ?_)
          refine C_true rfl (decide_eq_true (by omega)) ?_
          repeat (first | refine O_le _ (Le.agg 43 (Val.c ⟨t.kind, 0, [], [], []⟩) rfl (.cons .refl (.cons .refl (.cons .refl (.cons .nil (.cons .nil .nil)))))) ?_ | refine sc rfl ?_ | refine so rfl ?_ | refine sb rfl ?_)
          first
            | exact ⟨_, [_], _, rfl, pickA_perm (is := [0]) (As := [_]) rfl, rfl, by rw [← hq, if_pos (by omega)]; rfl, rfl⟩
            | exact ⟨_, [_], _, rfl, pickA_perm (is := [1]) (As := [_]) rfl, rfl, by rw [← hq, if_pos (by omega)]; rfl, rfl⟩
            | exact ⟨_, [_], _, rfl, pickA_perm (is := [2]) (As := [_]) rfl, rfl, by rw [← hq, if_pos (by omega)]; rfl, rfl⟩
            | exact ⟨_, [_], _, rfl, pickA_perm (is := [3]) (As := [_]) rfl, rfl, by rw [← hq, if_pos (by omega)]; rfl, rfl⟩
            | exact ⟨_, [_], _, rfl, pickA_perm (is := [4]) (As := [_]) rfl, rfl, by rw [← hq, if_pos (by omega)]; rfl, rfl⟩
        · repeat (first | refine sc rfl ?_ | refine so rfl ?_ | refine sb rfl ?_)
          refine O_case 35 rfl (fun c3 => ?_) (fun c3 => ?_) <;> simp only [decide_eq_true_eq, decide_eq_false_iff_not, Bool.not_eq_true', Bool.not_eq_false', beq_iff_eq, beq_eq_false_iff_ne, bne_iff_ne, ne_eq, bne_eq_false_iff_eq, Decidable.not_not] at c3
          · repeat (first | refine sc rfl ?_ | refine so rfl ?_ | refine sb rfl ?_)
            refine C_if rfl (fun m3 => ?_) (fun m3 => ?_) <;> simp only [decide_eq_true_eq, decide_eq_false_iff_not, Bool.not_eq_true', Bool.not_eq_false', beq_iff_eq, beq_eq_false_iff_ne, bne_iff_ne, ne_eq, bne_eq_false_iff_eq, Decidable.not_not] at m3
            · skip
              repeat (first | refine O_le _ (Le.agg 43 (Val.c ⟨t.kind, 0, [], [], []⟩) rfl (.cons .refl (.cons .refl (.cons .refl (.cons .nil (.cons .nil .nil)))))) ?_ | refine sc rfl ?_ | refine so rfl ?_ | refine sb rfl ?_)
              first
                | exact ⟨_, [_], _, rfl, pickA_perm (is := [0]) (As := [_]) rfl, rfl, by rw [← hq, if_pos (by omega)]; rfl, rfl⟩
                | exact ⟨_, [_], _, rfl, pickA_perm (is := [1]) (As := [_]) rfl, rfl, by rw [← hq, if_pos (by omega)]; rfl, rfl⟩
                | exact ⟨_, [_], _, rfl, pickA_perm (is := [2]) (As := [_]) rfl, rfl, by rw [← hq, if_pos (by omega)]; rfl, rfl⟩
                | exact ⟨_, [_], _, rfl, pickA_perm (is := [3]) (As := [_]) rfl, rfl, by rw [← hq, if_pos (by omega)]; rfl, rfl⟩
                | exact ⟨_, [_], _, rfl, pickA_perm (is := [4]) (As := [_]) rfl, rfl, by rw [← hq, if_pos (by omega)]; rfl, rfl⟩
            · repeat (first | refine sc rfl ?_ | refine so rfl ?_ | refine sb rfl ?_)
              refine O_case 48 rfl (fun c4 => ?_) (fun c4 => ?_) <;> simp only [decide_eq_true_eq, decide_eq_false_iff_not, Bool.not_eq_true', Bool.not_eq_false', beq_iff_eq, beq_eq_false_iff_ne, bne_iff_ne, ne_eq, bne_eq_false_iff_eq, Decidable.not_not] at c4
              · repeat (first | refine sc rfl ?_ | refine so rfl ?_ | refine sb rfl ?_)
                refine C_if rfl (fun m4 => ?_) (fun m4 => ?_) <;> simp only [decide_eq_true_eq, decide_eq_false_iff_not, Bool.not_eq_true', Bool.not_eq_false', beq_iff_eq, beq_eq_false_iff_ne, bne_iff_ne, ne_eq, bne_eq_false_iff_eq, Decidable.not_not] at m4
                · skip
                  repeat (first | refine O_le _ (Le.one 56 (SL 3 Ty.c t.of) rfl (.row (Ty.rows_eq _))) ?_ | refine sc rfl ?_ | refine so rfl ?_ | refine sb rfl ?_)
                  refine ⟨by omega, ?_⟩
                  repeat (first | refine sc rfl ?_ | refine so rfl ?_ | refine sb rfl ?_)
                  first
                    | refine O_callA [0] (hby (by omega)) (by rfl) (by rfl) (by rfl) (by rfl) (by rfl) ?_
                    | refine O_callA [1] (hby (by omega)) (by rfl) (by rfl) (by rfl) (by rfl) (by rfl) ?_
                    | refine O_callA [2] (hby (by omega)) (by rfl) (by rfl) (by rfl) (by rfl) (by rfl) ?_
                    | refine O_callA [3] (hby (by omega)) (by rfl) (by rfl) (by rfl) (by rfl) (by rfl) ?_
                    | refine O_callA [4] (hby (by omega)) (by rfl) (by rfl) (by rfl) (by rfl) (by rfl) ?_
                  rintro r cs' ⟨rfl, rfl⟩
                  repeat (first | refine sc rfl ?_ | refine so rfl ?_ | refine sb rfl ?_)
                  first
                    | exact ⟨_, [_], _, rfl, pickA_perm (is := [0]) (As := [_]) rfl, rfl, by rw [← hq, if_neg (by omega), if_pos ⟨by omega, by omega⟩]; rfl, rfl⟩
                    | exact ⟨_, [_], _, rfl, pickA_perm (is := [1]) (As := [_]) rfl, rfl, by rw [← hq, if_neg (by omega), if_pos ⟨by omega, by omega⟩]; rfl, rfl⟩
                    | exact ⟨_, [_], _, rfl, pickA_perm (is := [2]) (As := [_]) rfl, rfl, by rw [← hq, if_neg (by omega), if_pos ⟨by omega, by omega⟩]; rfl, rfl⟩
                    | exact ⟨_, [_], _, rfl, pickA_perm (is := [3]) (As := [_]) rfl, rfl, by rw [← hq, if_neg (by omega), if_pos ⟨by omega, by omega⟩]; rfl, rfl⟩
                    | exact ⟨_, [_], _, rfl, pickA_perm (is := [4]) (As := [_]) rfl, rfl, by rw [← hq, if_neg (by omega), if_pos ⟨by omega, by omega⟩]; rfl, rfl⟩
                · skip
                  repeat (first | refine O_le _ (Le.agg 63 (Val.c zV) rfl (.cons .refl (.cons .refl (.cons .refl (.cons .nil (.cons .nil .nil)))))) ?_ | refine sc rfl ?_ | refine so rfl ?_ | refine sb rfl ?_)
                  first
                    | exact ⟨_, [_], _, rfl, pickA_perm (is := [0]) (As := [_]) rfl, rfl, by rw [← hq, if_neg (by omega), if_neg (by omega)]; rfl, rfl⟩
                    | exact ⟨_, [_], _, rfl, pickA_perm (is := [1]) (As := [_]) rfl, rfl, by rw [← hq, if_neg (by omega), if_neg (by omega)]; rfl, rfl⟩
                    | exact ⟨_, [_], _, rfl, pickA_perm (is := [2]) (As := [_]) rfl, rfl, by rw [← hq, if_neg (by omega), if_neg (by omega)]; rfl, rfl⟩
                    | exact ⟨_, [_], _, rfl, pickA_perm (is := [3]) (As := [_]) rfl, rfl, by rw [← hq, if_neg (by omega), if_neg (by omega)]; rfl, rfl⟩
                    | exact ⟨_, [_], _, rfl, pickA_perm (is := [4]) (As := [_]) rfl, rfl, by rw [← hq, if_neg (by omega), if_neg (by omega)]; rfl, rfl⟩
              · repeat (first | refine sc rfl ?_ | refine so rfl ?_ | refine sb rfl ?_)
                refine C_false rfl rfl ?_
                repeat (first | refine O_le _ (Le.agg 63 (Val.c zV) rfl (.cons .refl (.cons .refl (.cons .refl (.cons .nil (.cons .nil .nil)))))) ?_ | refine sc rfl ?_ | refine so rfl ?_ | refine sb rfl ?_)
                first
                  | exact ⟨_, [_], _, rfl, pickA_perm (is := [0]) (As := [_]) rfl, rfl, by rw [← hq, if_neg (by omega), if_neg (by omega)]; rfl, rfl⟩
                  | exact ⟨_, [_], _, rfl, pickA_perm (is := [1]) (As := [_]) rfl, rfl, by rw [← hq, if_neg (by omega), if_neg (by omega)]; rfl, rfl⟩
                  | exact ⟨_, [_], _, rfl, pickA_perm (is := [2]) (As := [_]) rfl, rfl, by rw [← hq, if_neg (by omega), if_neg (by omega)]; rfl, rfl⟩
                  | exact ⟨_, [_], _, rfl, pickA_perm (is := [3]) (As := [_]) rfl, rfl, by rw [← hq, if_neg (by omega), if_neg (by omega)]; rfl, rfl⟩
                  | exact ⟨_, [_], _, rfl, pickA_perm (is := [4]) (As := [_]) rfl, rfl, by rw [← hq, if_neg (by omega), if_neg (by omega)]; rfl, rfl⟩
          · repeat (first | refine sc rfl ?_ | refine so rfl ?_ | refine sb rfl ?_)
            refine C_false rfl rfl ?_
            repeat (first | refine sc rfl ?_ | refine so rfl ?_ | refine sb rfl ?_)
            refine O_case 48 rfl (fun c4 => ?_) (fun c4 => ?_) <;> simp only [decide_eq_true_eq, decide_eq_false_iff_not, Bool.not_eq_true', Bool.not_eq_false', beq_iff_eq, beq_eq_false_iff_ne, bne_iff_ne, ne_eq, bne_eq_false_iff_eq, Decidable.not_not] at c4
            · repeat (first | refine sc rfl ?_ | refine so rfl ?_ | refine sb rfl ?_)
              refine C_if rfl (fun m4 => ?_) (fun m4 => ?_) <;> simp only [decide_eq_true_eq, decide_eq_false_iff_not, Bool.not_eq_true', Bool.not_eq_false', beq_iff_eq, beq_eq_false_iff_ne, bne_iff_ne, ne_eq, bne_eq_false_iff_eq, Decidable.not_not] at m4
              · skip
                repeat (first | refine O_le _ (Le.one 56 (SL 3 Ty.c t.of) rfl (.row (Ty.rows_eq _))) ?_ | refine sc rfl ?_ | refine so rfl ?_ | refine sb rfl ?_)
                refine ⟨by omega, ?_⟩
                repeat (first | refine sc rfl ?_ | refine so rfl ?_ | refine sb rfl ?_)
                first
                  | refine O_callA [0] (hby (by omega)) (by rfl) (by rfl) (by rfl) (by rfl) (by rfl) ?_
                  | refine O_callA [1] (hby (by omega)) (by rfl) (by rfl) (by rfl) (by rfl) (by rfl) ?_
                  | refine O_callA [2] (hby (by omega)) (by rfl) (by rfl) (by rfl) (by rfl) (by rfl) ?_
                  | refine O_callA [3] (hby (by omega)) (by rfl) (by rfl) (by rfl) (by rfl) (by rfl) ?_
                  | refine O_callA [4] (hby (by omega)) (by rfl) (by rfl) (by rfl) (by rfl) (by rfl) ?_
                rintro r cs' ⟨rfl, rfl⟩
                repeat (first | refine sc rfl ?_ | refine so rfl ?_ | refine sb rfl ?_)
                first
                  | exact ⟨_, [_], _, rfl, pickA_perm (is := [0]) (As := [_]) rfl, rfl, by rw [← hq, if_neg (by omega), if_pos ⟨by omega, by omega⟩]; rfl, rfl⟩
                  | exact ⟨_, [_], _, rfl, pickA_perm (is := [1]) (As := [_]) rfl, rfl, by rw [← hq, if_neg (by omega), if_pos ⟨by omega, by omega⟩]; rfl, rfl⟩
                  | exact ⟨_, [_], _, rfl, pickA_perm (is := [2]) (As := [_]) rfl, rfl, by rw [← hq, if_neg (by omega), if_pos ⟨by omega, by omega⟩]; rfl, rfl⟩
                  | exact ⟨_, [_], _, rfl, pickA_perm (is := [3]) (As := [_]) rfl, rfl, by rw [← hq, if_neg (by omega), if_pos ⟨by omega, by omega⟩]; rfl, rfl⟩
                  | exact ⟨_, [_], _, rfl, pickA_perm (is := [4]) (As := [_]) rfl, rfl, by rw [← hq, if_neg (by omega), if_pos ⟨by omega, by omega⟩]; rfl, rfl⟩
              · skip
                repeat (first | refine O_le _ (Le.agg 63 (Val.c zV) rfl (.cons .refl (.cons .refl (.cons .refl (.cons .nil (.cons .nil .nil)))))) ?_ | refine sc rfl ?_ | refine so rfl ?_ | refine sb rfl ?_)
                first
                  | exact ⟨_, [_], _, rfl, pickA_perm (is := [0]) (As := [_]) rfl, rfl, by rw [← hq, if_neg (by omega), if_neg (by omega)]; rfl, rfl⟩
                  | exact ⟨_, [_], _, rfl, pickA_perm (is := [1]) (As := [_]) rfl, rfl, by rw [← hq, if_neg (by omega), if_neg (by omega)]; rfl, rfl⟩
                  | exact ⟨_, [_], _, rfl, pickA_perm (is := [2]) (As := [_]) rfl, rfl, by rw [← hq, if_neg (by omega), if_neg (by omega)]; rfl, rfl⟩
                  | exact ⟨_, [_], _, rfl, pickA_perm (is := [3]) (As := [_]) rfl, rfl, by rw [← hq, if_neg (by omega), if_neg (by omega)]; rfl, rfl⟩
                  | exact ⟨_, [_], _, rfl, pickA_perm (is := [4]) (As := [_]) rfl, rfl, by rw [← hq, if_neg (by omega), if_neg (by omega)]; rfl, rfl⟩
            · repeat (first | refine sc rfl ?_ | refine so rfl ?_ | refine sb rfl ?_)
              refine C_false rfl rfl ?_
              repeat (first | refine O_le _ (Le.agg 63 (Val.c zV) rfl (.cons .refl (.cons .refl (.cons .refl (.cons .nil (.cons .nil .nil)))))) ?_ | refine sc rfl ?_ | refine so rfl ?_ | refine sb rfl ?_)
              first
                | exact ⟨_, [_], _, rfl, pickA_perm (is := [0]) (As := [_]) rfl, rfl, by rw [← hq, if_neg (by omega), if_neg (by omega)]; rfl, rfl⟩
                | exact ⟨_, [_], _, rfl, pickA_perm (is := [1]) (As := [_]) rfl, rfl, by rw [← hq, if_neg (by omega), if_neg (by omega)]; rfl, rfl⟩
                | exact ⟨_, [_], _, rfl, pickA_perm (is := [2]) (As := [_]) rfl, rfl, by rw [← hq, if_neg (by omega), if_neg (by omega)]; rfl, rfl⟩
                | exact ⟨_, [_], _, rfl, pickA_perm (is := [3]) (As := [_]) rfl, rfl, by rw [← hq, if_neg (by omega), if_neg (by omega)]; rfl, rfl⟩
                | exact ⟨_, [_], _, rfl, pickA_perm (is := [4]) (As := [_]) rfl, rfl, by rw [← hq, if_neg (by omega), if_neg (by omega)]; rfl, rfl⟩
      · repeat (first | refine sc rfl ?_ | refine so rfl ?_ | refine sb rfl ?_)
        refine C_false rfl rfl ?_
        repeat (first | refine sc rfl ?_ | refine so rfl ?_ | refine sb rfl ?_)
        refine O_case 35 rfl (fun c3 => ?_) (fun c3 => ?_) <;> simp only [decide_eq_true_eq, decide_eq_false_iff_not, Bool.not_eq_true', Bool.not_eq_false', beq_iff_eq, beq_eq_false_iff_ne, bne_iff_ne, ne_eq, bne_eq_false_iff_eq, Decidable.not_not] at c3
        · repeat (first | refine sc rfl ?_ | refine so rfl ?_ | refine sb rfl ?_)
          refine C_if rfl (fun m3 => ?_) (fun m3 => ?_) <;> simp only [decide_eq_true_eq, decide_eq_false_iff_not, Bool.not_eq_true', Bool.not_eq_false', beq_iff_eq, beq_eq_false_iff_ne, bne_iff_ne, ne_eq, bne_eq_false_iff_eq, Decidable.not_not] at m3
          · skip
            repeat (first | refine O_le _ (Le.agg 43 (Val.c ⟨t.kind, 0, [], [], []⟩) rfl (.cons .refl (.cons .refl (.cons .refl (.cons .nil (.cons .nil .nil)))))) ?_ | refine sc rfl ?_ | refine so rfl ?_ | refine sb rfl ?_)
            first
              | exact ⟨_, [_], _, rfl, pickA_perm (is := [0]) (As := [_]) rfl, rfl, by rw [← hq, if_pos (by omega)]; rfl, rfl⟩
              | exact ⟨_, [_], _, rfl, pickA_perm (is := [1]) (As := [_]) rfl, rfl, by rw [← hq, if_pos (by omega)]; rfl, rfl⟩
              | exact ⟨_, [_], _, rfl, pickA_perm (is := [2]) (As := [_]) rfl, rfl, by rw [← hq, if_pos (by omega)]; rfl, rfl⟩
              | exact ⟨_, [_], _, rfl, pickA_perm (is := [3]) (As := [_]) rfl, rfl, by rw [← hq, if_pos (by omega)]; rfl, rfl⟩
              | exact ⟨_, [_], _, rfl, pickA_perm (is := [4]) (As := [_]) rfl, rfl, by rw [← hq, if_pos (by omega)]; rfl, rfl⟩
          · repeat (first | refine sc rfl ?_ | refine so rfl ?_ | refine sb rfl ?_)
            refine O_case 48 rfl (fun c4 => ?_) (fun c4 => ?_) <;> simp only [decide_eq_true_eq, decide_eq_false_iff_not, Bool.not_eq_true', Bool.not_eq_false', beq_iff_eq, beq_eq_false_iff_ne, bne_iff_ne, ne_eq, bne_eq_false_iff_eq, Decidable.not_not] at c4
            · repeat (first | refine sc rfl ?_ | refine so rfl ?_ | refine sb rfl ?_)
              refine C_if rfl (fun m4 => ?_) (fun m4 => ?_) <;> simp only [decide_eq_true_eq, decide_eq_false_iff_not, Bool.not_eq_true', Bool.not_eq_false', beq_iff_eq, beq_eq_false_iff_ne, bne_iff_ne, ne_eq, bne_eq_false_iff_eq, Decidable.not_not] at m4
              · skip
                repeat (first | refine O_le _ (Le.one 56 (SL 3 Ty.c t.of) rfl (.row (Ty.rows_eq _))) ?_ | refine sc rfl ?_ | refine so rfl ?_ | refine sb rfl ?_)
                refine ⟨by omega, ?_⟩
                repeat (first | refine sc rfl ?_ | refine so rfl ?_ | refine sb rfl ?_)
                first
                  | refine O_callA [0] (hby (by omega)) (by rfl) (by rfl) (by rfl) (by rfl) (by rfl) ?_
                  | refine O_callA [1] (hby (by omega)) (by rfl) (by rfl) (by rfl) (by rfl) (by rfl) ?_
                  | refine O_callA [2] (hby (by omega)) (by rfl) (by rfl) (by rfl) (by rfl) (by rfl) ?_
                  | refine O_callA [3] (hby (by omega)) (by rfl) (by rfl) (by rfl) (by rfl) (by rfl) ?_
                  | refine O_callA [4] (hby (by omega)) (by rfl) (by rfl) (by rfl) (by rfl) (by rfl) ?_
                rintro r cs' ⟨rfl, rfl⟩
                repeat (first | refine sc rfl ?_ | refine so rfl ?_ | refine sb rfl ?_)
                first
                  | exact ⟨_, [_], _, rfl, pickA_perm (is := [0]) (As := [_]) rfl, rfl, by rw [← hq, if_neg (by omega), if_pos ⟨by omega, by omega⟩]; rfl, rfl⟩
                  | exact ⟨_, [_], _, rfl, pickA_perm (is := [1]) (As := [_]) rfl, rfl, by rw [← hq, if_neg (by omega), if_pos ⟨by omega, by omega⟩]; rfl, rfl⟩
                  | exact ⟨_, [_], _, rfl, pickA_perm (is := [2]) (As := [_]) rfl, rfl, by rw [← hq, if_neg (by omega), if_pos ⟨by omega, by omega⟩]; rfl, rfl⟩
                  | exact ⟨_, [_], _, rfl, pickA_perm (is := [3]) (As := [_]) rfl, rfl, by rw [← hq, if_neg (by omega), if_pos ⟨by omega, by omega⟩]; rfl, rfl⟩
                  | exact ⟨_, [_], _, rfl, pickA_perm (is := [4]) (As := [_]) rfl, rfl, by rw [← hq, if_neg (by omega), if_pos ⟨by omega, by omega⟩]; rfl, rfl⟩
              · skip
                repeat (first | refine O_le _ (Le.agg 63 (Val.c zV) rfl (.cons .refl (.cons .refl (.cons .refl (.cons .nil (.cons .nil .nil)))))) ?_ | refine sc rfl ?_ | refine so rfl ?_ | refine sb rfl ?_)
                first
                  | exact ⟨_, [_], _, rfl, pickA_perm (is := [0]) (As := [_]) rfl, rfl, by rw [← hq, if_neg (by omega), if_neg (by omega)]; rfl, rfl⟩
                  | exact ⟨_, [_], _, rfl, pickA_perm (is := [1]) (As := [_]) rfl, rfl, by rw [← hq, if_neg (by omega), if_neg (by omega)]; rfl, rfl⟩
                  | exact ⟨_, [_], _, rfl, pickA_perm (is := [2]) (As := [_]) rfl, rfl, by rw [← hq, if_neg (by omega), if_neg (by omega)]; rfl, rfl⟩
                  | exact ⟨_, [_], _, rfl, pickA_perm (is := [3]) (As := [_]) rfl, rfl, by rw [← hq, if_neg (by omega), if_neg (by omega)]; rfl, rfl⟩
                  | exact ⟨_, [_], _, rfl, pickA_perm (is := [4]) (As := [_]) rfl, rfl, by rw [← hq, if_neg (by omega), if_neg (by omega)]; rfl, rfl⟩
            · repeat (first | refine sc rfl ?_ | refine so rfl ?_ | refine sb rfl ?_)
              refine C_false rfl rfl ?_
              repeat (first | refine O_le _ (Le.agg 63 (Val.c zV) rfl (.cons .refl (.cons .refl (.cons .refl (.cons .nil (.cons .nil .nil)))))) ?_ | refine sc rfl ?_ | refine so rfl ?_ | refine sb rfl ?_)
              first
                | exact ⟨_, [_], _, rfl, pickA_perm (is := [0]) (As := [_]) rfl, rfl, by rw [← hq, if_neg (by omega), if_neg (by omega)]; rfl, rfl⟩
                | exact ⟨_, [_], _, rfl, pickA_perm (is := [1]) (As := [_]) rfl, rfl, by rw [← hq, if_neg (by omega), if_neg (by omega)]; rfl, rfl⟩
                | exact ⟨_, [_], _, rfl, pickA_perm (is := [2]) (As := [_]) rfl, rfl, by rw [← hq, if_neg (by omega), if_neg (by omega)]; rfl, rfl⟩
                | exact ⟨_, [_], _, rfl, pickA_perm (is := [3]) (As := [_]) rfl, rfl, by rw [← hq, if_neg (by omega), if_neg (by omega)]; rfl, rfl⟩
                | exact ⟨_, [_], _, rfl, pickA_perm (is := [4]) (As := [_]) rfl, rfl, by rw [← hq, if_neg (by omega), if_neg (by omega)]; rfl, rfl⟩
        · repeat (first | refine sc rfl ?_ | refine so rfl ?_ | refine sb rfl ?_)
          refine C_false rfl rfl ?_
          repeat (first | refine sc rfl ?_ | refine so rfl ?_ | refine sb rfl ?_)
          refine O_case 48 rfl (fun c4 => ?_) (fun c4 => ?_) <;> simp only [decide_eq_true_eq, decide_eq_false_iff_not, Bool.not_eq_true', Bool.not_eq_false', beq_iff_eq, beq_eq_false_iff_ne, bne_iff_ne, ne_eq, bne_eq_false_iff_eq, Decidable.not_not] at c4
          · repeat (first | refine sc rfl ?_ | refine so rfl ?_ | refine sb rfl ?_)
            refine C_if rfl (fun m4 => ?_) (fun m4 => ?_) <;> simp only [decide_eq_true_eq, decide_eq_false_iff_not, Bool.not_eq_true', Bool.not_eq_false', beq_iff_eq, beq_eq_false_iff_ne, bne_iff_ne, ne_eq, bne_eq_false_iff_eq, Decidable.not_not] at m4
            · skip
              repeat (first | refine O_le _ (Le.one 56 (SL 3 Ty.c t.of) rfl (.row (Ty.rows_eq _))) ?_ | refine sc rfl ?_ | refine so rfl ?_ | refine sb rfl ?_)
              refine ⟨by omega, ?_⟩
              repeat (first | refine sc rfl ?_ | refine so rfl ?_ | refine sb rfl ?_)
              first
                | refine O_callA [0] (hby (by omega)) (by rfl) (by rfl) (by rfl) (by rfl) (by rfl) ?_
                | refine O_callA [1] (hby (by omega)) (by rfl) (by rfl) (by rfl) (by rfl) (by rfl) ?_
                | refine O_callA [2] (hby (by omega)) (by rfl) (by rfl) (by rfl) (by rfl) (by rfl) ?_
                | refine O_callA [3] (hby (by omega)) (by rfl) (by rfl) (by rfl) (by rfl) (by rfl) ?_
                | refine O_callA [4] (hby (by omega)) (by rfl) (by rfl) (by rfl) (by rfl) (by rfl) ?_
              rintro r cs' ⟨rfl, rfl⟩
              repeat (first | refine sc rfl ?_ | refine so rfl ?_ | refine sb rfl ?_)
              first
                | exact ⟨_, [_], _, rfl, pickA_perm (is := [0]) (As := [_]) rfl, rfl, by rw [← hq, if_neg (by omega), if_pos ⟨by omega, by omega⟩]; rfl, rfl⟩
                | exact ⟨_, [_], _, rfl, pickA_perm (is := [1]) (As := [_]) rfl, rfl, by rw [← hq, if_neg (by omega), if_pos ⟨by omega, by omega⟩]; rfl, rfl⟩
                | exact ⟨_, [_], _, rfl, pickA_perm (is := [2]) (As := [_]) rfl, rfl, by rw [← hq, if_neg (by omega), if_pos ⟨by omega, by omega⟩]; rfl, rfl⟩
                | exact ⟨_, [_], _, rfl, pickA_perm (is := [3]) (As := [_]) rfl, rfl, by rw [← hq, if_neg (by omega), if_pos ⟨by omega, by omega⟩]; rfl, rfl⟩
                | exact ⟨_, [_], _, rfl, pickA_perm (is := [4]) (As := [_]) rfl, rfl, by rw [← hq, if_neg (by omega), if_pos ⟨by omega, by omega⟩]; rfl, rfl⟩
            · skip
              repeat (first | refine O_le _ (Le.agg 63 (Val.c zV) rfl (.cons .refl (.cons .refl (.cons .refl (.cons .nil (.cons .nil .nil)))))) ?_ | refine sc rfl ?_ | refine so rfl ?_ | refine sb rfl ?_)
              first
                | exact ⟨_, [_], _, rfl, pickA_perm (is := [0]) (As := [_]) rfl, rfl, by rw [← hq, if_neg (by omega), if_neg (by omega)]; rfl, rfl⟩
                | exact ⟨_, [_], _, rfl, pickA_perm (is := [1]) (As := [_]) rfl, rfl, by rw [← hq, if_neg (by omega), if_neg (by omega)]; rfl, rfl⟩
                | exact ⟨_, [_], _, rfl, pickA_perm (is := [2]) (As := [_]) rfl, rfl, by rw [← hq, if_neg (by omega), if_neg (by omega)]; rfl, rfl⟩
                | exact ⟨_, [_], _, rfl, pickA_perm (is := [3]) (As := [_]) rfl, rfl, by rw [← hq, if_neg (by omega), if_neg (by omega)]; rfl, rfl⟩
                | exact ⟨_, [_], _, rfl, pickA_perm (is := [4]) (As := [_]) rfl, rfl, by rw [← hq, if_neg (by omega), if_neg (by omega)]; rfl, rfl⟩
          · repeat (first | refine sc rfl ?_ | refine so rfl ?_ | refine sb rfl ?_)
            refine C_false rfl rfl ?_
            repeat (first | refine O_le _ (Le.agg 63 (Val.c zV) rfl (.cons .refl (.cons .refl (.cons .refl (.cons .nil (.cons .nil .nil)))))) ?_ | refine sc rfl ?_ | refine so rfl ?_ | refine sb rfl ?_)
            first
              | exact ⟨_, [_], _, rfl, pickA_perm (is := [0]) (As := [_]) rfl, rfl, by rw [← hq, if_neg (by omega), if_neg (by omega)]; rfl, rfl⟩
              | exact ⟨_, [_], _, rfl, pickA_perm (is := [1]) (As := [_]) rfl, rfl, by rw [← hq, if_neg (by omega), if_neg (by omega)]; rfl, rfl⟩
              | exact ⟨_, [_], _, rfl, pickA_perm (is := [2]) (As := [_]) rfl, rfl, by rw [← hq, if_neg (by omega), if_neg (by omega)]; rfl, rfl⟩
              | exact ⟨_, [_], _, rfl, pickA_perm (is := [3]) (As := [_]) rfl, rfl, by rw [← hq, if_neg (by omega), if_neg (by omega)]; rfl, rfl⟩
              | exact ⟨_, [_], _, rfl, pickA_perm (is := [4]) (As := [_]) rfl, rfl, by rw [← hq, if_neg (by omega), if_neg (by omega)]; rfl, rfl⟩
  · repeat (first | refine sc rfl ?_ | refine so rfl ?_ | refine sb rfl ?_)
    refine C_false rfl rfl ?_
    repeat (first | refine sc rfl ?_ | refine so rfl ?_ | refine sb rfl ?_)
    refine O_case 26 rfl (fun c2 => ?_) (fun c2 => ?_) <;> simp only [decide_eq_true_eq, decide_eq_false_iff_not, Bool.not_eq_true', Bool.not_eq_false', beq_iff_eq, beq_eq_false_iff_ne, bne_iff_ne, ne_eq, bne_eq_false_iff_eq, Decidable.not_not] at c2
    · repeat (first | refine sc rfl ?_ | refine so rfl ?_ | refine sb rfl ?_)
      refine C_if rfl (fun m2 => ?_) (fun m2 => ?_) <;> simp only [decide_eq_true_eq, decide_eq_false_iff_not, Bool.not_eq_true', Bool.not_eq_false', beq_iff_eq, beq_eq_false_iff_ne, bne_iff_ne, ne_eq, bne_eq_false_iff_eq, Decidable.not_not] at m2
      · repeat (first | refine sc rfl ?_ | refine so rfl ?_ | refine sb rfl ?_)
        refine C_true rfl (decide_eq_true (by omega)) ?_
        repeat (first | refine O_le _ (Le.agg 43 (Val.c ⟨t.kind, 0, [], [], []⟩) rfl (.cons .refl (.cons .refl (.cons .refl (.cons .nil (.cons .nil .nil)))))) ?_ | refine sc rfl ?_ | refine so rfl ?_ | refine sb rfl ?_)
        first
          | exact ⟨_, [_], _, rfl, pickA_perm (is := [0]) (As := [_]) rfl, rfl, by rw [← hq, if_pos (by omega)]; rfl, rfl⟩
          | exact ⟨_, [_], _, rfl, pickA_perm (is := [1]) (As := [_]) rfl, rfl, by rw [← hq, if_pos (by omega)]; rfl, rfl⟩
          | exact ⟨_, [_], _, rfl, pickA_perm (is := [2]) (As := [_]) rfl, rfl, by rw [← hq, if_pos (by omega)]; rfl, rfl⟩
          | exact ⟨_, [_], _, rfl, pickA_perm (is := [3]) (As := [_]) rfl, rfl, by rw [← hq, if_pos (by omega)]; rfl, rfl⟩
          | exact ⟨_, [_], _, rfl, pickA_perm (is := [4]) (As := [_]) rfl, rfl, by rw [← hq, if_pos (by omega)]; rfl, rfl⟩
      · repeat (first | refine sc rfl ?_ | refine so rfl ?_ | refine sb rfl ?_)
        refine O_case 35 rfl (fun c3 => ?_) (fun c3 => ?_) <;> simp only [decide_eq_true_eq, decide_eq_false_iff_not, Bool.not_eq_true', Bool.not_eq_false', beq_iff_eq, beq_eq_false_iff_ne, bne_iff_ne, ne_eq, bne_eq_false_iff_eq, Decidable.not_not] at c3
        · repeat (first | refine sc rfl ?_ | refine so rfl ?_ | refine sb rfl ?_)
          refine C_if rfl (fun m3 => ?_) (fun m3 => ?_) <;> simp only [decide_eq_true_eq, decide_eq_false_iff_not, Bool.not_eq_true', Bool.not_eq_false', beq_iff_eq, beq_eq_false_iff_ne, bne_iff_ne, ne_eq, bne_eq_false_iff_eq, Decidable.not_not] at m3
          · skip
            repeat (first | refine O_le _ (Le.agg 43 (Val.c ⟨t.kind, 0, [], [], []⟩) rfl (.cons .refl (.cons .refl (.cons .refl (.cons .nil (.cons .nil .nil)))))) ?_ | refine sc rfl ?_ | refine so rfl ?_ | refine sb rfl ?_)
            first
              | exact ⟨_, [_], _, rfl, pickA_perm (is := [0]) (As := [_]) rfl, rfl, by rw [← hq, if_pos (by omega)]; rfl, rfl⟩
              | exact ⟨_, [_], _, rfl, pickA_perm (is := [1]) (As := [_]) rfl, rfl, by rw [← hq, if_pos (by omega)]; rfl, rfl⟩
              | exact ⟨_, [_], _, rfl, pickA_perm (is := [2]) (As := [_]) rfl, rfl, by rw [← hq, if_pos (by omega)]; rfl, rfl⟩
              | exact ⟨_, [_], _, rfl, pickA_perm (is := [3]) (As := [_]) rfl, rfl, by rw [← hq, if_pos (by omega)]; rfl, rfl⟩
              | exact ⟨_, [_], _, rfl, pickA_perm (is := [4]) (As := [_]) rfl, rfl, by rw [← hq, if_pos (by omega)]; rfl, rfl⟩
          · repeat (first | refine sc rfl ?_ | refine so rfl ?_ | refine sb rfl ?_)
            refine O_case 48 rfl (fun c4 => ?_) (fun c4 => ?_) <;> simp only [decide_eq_true_eq, decide_eq_false_iff_not, Bool.not_eq_true', Bool.not_eq_false', beq_iff_eq, beq_eq_false_iff_ne, bne_iff_ne, ne_eq, bne_eq_false_iff_eq, Decidable.not_not] at c4
            · repeat (first | refine sc rfl ?_ | refine so rfl ?_ | refine sb rfl ?_)
              refine C_if rfl (fun m4 => ?_) (fun m4 => ?_) <;> simp only [decide_eq_true_eq, decide_eq_false_iff_not, Bool.not_eq_true', Bool.not_eq_false', beq_iff_eq, beq_eq_false_iff_ne, bne_iff_ne, ne_eq, bne_eq_false_iff_eq, Decidable.not_not] at m4
              · skip
                repeat (first | refine O_le _ (Le.one 56 (SL 3 Ty.c t.of) rfl (.row (Ty.rows_eq _))) ?_ | refine sc rfl ?_ | refine so rfl ?_ | refine sb rfl ?_)
                refine ⟨by omega, ?_⟩
                repeat (first | refine sc rfl ?_ | refine so rfl ?_ | refine sb rfl ?_)
                first
                  | refine O_callA [0] (hby (by omega)) (by rfl) (by rfl) (by rfl) (by rfl) (by rfl) ?_
                  | refine O_callA [1] (hby (by omega)) (by rfl) (by rfl) (by rfl) (by rfl) (by rfl) ?_
                  | refine O_callA [2] (hby (by omega)) (by rfl) (by rfl) (by rfl) (by rfl) (by rfl) ?_
                  | refine O_callA [3] (hby (by omega)) (by rfl) (by rfl) (by rfl) (by rfl) (by rfl) ?_
                  | refine O_callA [4] (hby (by omega)) (by rfl) (by rfl) (by rfl) (by rfl) (by rfl) ?_
                rintro r cs' ⟨rfl, rfl⟩
                repeat (first | refine sc rfl ?_ | refine so rfl ?_ | refine sb rfl ?_)
                first
                  | exact ⟨_, [_], _, rfl, pickA_perm (is := [0]) (As := [_]) rfl, rfl, by rw [← hq, if_neg (by omega), if_pos ⟨by omega, by omega⟩]; rfl, rfl⟩
                  | exact ⟨_, [_], _, rfl, pickA_perm (is := [1]) (As := [_]) rfl, rfl, by rw [← hq, if_neg (by omega), if_pos ⟨by omega, by omega⟩]; rfl, rfl⟩
                  | exact ⟨_, [_], _, rfl, pickA_perm (is := [2]) (As := [_]) rfl, rfl, by rw [← hq, if_neg (by omega), if_pos ⟨by omega, by omega⟩]; rfl, rfl⟩
                  | exact ⟨_, [_], _, rfl, pickA_perm (is := [3]) (As := [_]) rfl, rfl, by rw [← hq, if_neg (by omega), if_pos ⟨by omega, by omega⟩]; rfl, rfl⟩
                  | exact ⟨_, [_], _, rfl, pickA_perm (is := [4]) (As := [_]) rfl, rfl, by rw [← hq, if_neg (by omega), if_pos ⟨by omega, by omega⟩]; rfl, rfl⟩
              · skip
                repeat (first | refine O_le _ (Le.agg 63 (Val.c zV) rfl (.cons .refl (.cons .refl (.cons .refl (.cons .nil (.cons .nil .nil)))))) ?_ | refine sc rfl ?_ | refine so rfl ?_ | refine sb rfl ?_)
                first
                  | exact ⟨_, [_], _, rfl, pickA_perm (is := [0]) (As := [_]) rfl, rfl, by rw [← hq, if_neg (by omega), if_neg (by omega)]; rfl, rfl⟩
                  | exact ⟨_, [_], _, rfl, pickA_perm (is := [1]) (As := [_]) rfl, rfl, by rw [← hq, if_neg (by omega), if_neg (by omega)]; rfl, rfl⟩
                  | exact ⟨_, [_], _, rfl, pickA_perm (is := [2]) (As := [_]) rfl, rfl, by rw [← hq, if_neg (by omega), if_neg (by omega)]; rfl, rfl⟩
                  | exact ⟨_, [_], _, rfl, pickA_perm (is := [3]) (As := [_]) rfl, rfl, by rw [← hq, if_neg (by omega), if_neg (by omega)]; rfl, rfl⟩
                  | exact ⟨_, [_], _, rfl, pickA_perm (is := [4]) (As := [_]) rfl, rfl, by rw [← hq, if_neg (by omega), if_neg (by omega)]; rfl, rfl⟩
            · repeat (first | refine sc rfl ?_ | refine so rfl ?_ | refine sb rfl ?_)
              refine C_false rfl rfl ?_
              repeat (first | refine O_le _ (Le.agg 63 (Val.c zV) rfl (.cons .refl (.cons .refl (.cons .refl (.cons .nil (.cons .nil .nil)))))) ?_ | refine sc rfl ?_ | refine so rfl ?_ | refine sb rfl ?_)
              first
                | exact ⟨_, [_], _, rfl, pickA_perm (is := [0]) (As := [_]) rfl, rfl, by rw [← hq, if_neg (by omega), if_neg (by omega)]; rfl, rfl⟩
                | exact ⟨_, [_], _, rfl, pickA_perm (is := [1]) (As := [_]) rfl, rfl, by rw [← hq, if_neg (by omega), if_neg (by omega)]; rfl, rfl⟩
                | exact ⟨_, [_], _, rfl, pickA_perm (is := [2]) (As := [_]) rfl, rfl, by rw [← hq, if_neg (by omega), if_neg (by omega)]; rfl, rfl⟩
                | exact ⟨_, [_], _, rfl, pickA_perm (is := [3]) (As := [_]) rfl, rfl, by rw [← hq, if_neg (by omega), if_neg (by omega)]; rfl, rfl⟩
                | exact ⟨_, [_], _, rfl, pickA_perm (is := [4]) (As := [_]) rfl, rfl, by rw [← hq, if_neg (by omega), if_neg (by omega)]; rfl, rfl⟩
        · repeat (first | refine sc rfl ?_ | refine so rfl ?_ | refine sb rfl ?_)
          refine C_false rfl rfl ?_
          repeat (first | refine sc rfl ?_ | refine so rfl ?_ | refine sb rfl ?_)
          refine O_case 48 rfl (fun c4 => ?_) (fun c4 => ?_) <;> simp only [decide_eq_true_eq, decide_eq_false_iff_not, Bool.not_eq_true', Bool.not_eq_false', beq_iff_eq, beq_eq_false_iff_ne, bne_iff_ne, ne_eq, bne_eq_false_iff_eq, Decidable.not_not] at c4
          · repeat (first | refine sc rfl ?_ | refine so rfl ?_ | refine sb rfl ?_)
            refine C_if rfl (fun m4 => ?_) (fun m4 => ?_) <;> simp only [decide_eq_true_eq, decide_eq_false_iff_not, Bool.not_eq_true', Bool.not_eq_false', beq_iff_eq, beq_eq_false_iff_ne, bne_iff_ne, ne_eq, bne_eq_false_iff_eq, Decidable.not_not] at m4
            · skip
              repeat (first | refine O_le _ (Le.one 56 (SL 3 Ty.c t.of) rfl (.row (Ty.rows_eq _))) ?_ | refine sc rfl ?_ | refine so rfl ?_ | refine sb rfl ?_)
              refine ⟨by omega, ?_⟩
              repeat (first | refine sc rfl ?_ | refine so rfl ?_ | refine sb rfl ?_)
              first
                | refine O_callA [0] (hby (by omega)) (by rfl) (by rfl) (by rfl) (by rfl) (by rfl) ?_
                | refine O_callA [1] (hby (by omega)) (by rfl) (by rfl) (by rfl) (by rfl) (by rfl) ?_
                | refine O_callA [2] (hby (by omega)) (by rfl) (by rfl) (by rfl) (by rfl) (by rfl) ?_
                | refine O_callA [3] (hby (by omega)) (by rfl) (by rfl) (by rfl) (by rfl) (by rfl) ?_
                | refine O_callA [4] (hby (by omega)) (by rfl) (by rfl) (by rfl) (by rfl) (by rfl) ?_
              rintro r cs' ⟨rfl, rfl⟩
              repeat (first | refine sc rfl ?_ | refine so rfl ?_ | refine sb rfl ?_)
              first
                | exact ⟨_, [_], _, rfl, pickA_perm (is := [0]) (As := [_]) rfl, rfl, by rw [← hq, if_neg (by omega), if_pos ⟨by omega, by omega⟩]; rfl, rfl⟩
                | exact ⟨_, [_], _, rfl, pickA_perm (is := [1]) (As := [_]) rfl, rfl, by rw [← hq, if_neg (by omega), if_pos ⟨by omega, by omega⟩]; rfl, rfl⟩
                | exact ⟨_, [_], _, rfl, pickA_perm (is := [2]) (As := [_]) rfl, rfl, by rw [← hq, if_neg (by omega), if_pos ⟨by omega, by omega⟩]; rfl, rfl⟩
                | exact ⟨_, [_], _, rfl, pickA_perm (is := [3]) (As := [_]) rfl, rfl, by rw [← hq, if_neg (by omega), if_pos ⟨by omega, by omega⟩]; rfl, rfl⟩
                | exact ⟨_, [_], _, rfl, pickA_perm (is := [4]) (As := [_]) rfl, rfl, by rw [← hq, if_neg (by omega), if_pos ⟨by omega, by omega⟩]; rfl, rfl⟩
            · skip
              repeat (first | refine O_le _ (Le.agg 63 (Val.c zV) rfl (.cons .refl (.cons .refl (.cons .refl (.cons .nil (.cons .nil .nil)))))) ?_ | refine sc rfl ?_ | refine so rfl ?_ | refine sb rfl ?_)
              first
                | exact ⟨_, [_], _, rfl, pickA_perm (is := [0]) (As := [_]) rfl, rfl, by rw [← hq, if_neg (by omega), if_neg (by omega)]; rfl, rfl⟩
                | exact ⟨_, [_], _, rfl, pickA_perm (is := [1]) (As := [_]) rfl, rfl, by rw [← hq, if_neg (by omega), if_neg (by omega)]; rfl, rfl⟩
                | exact ⟨_, [_], _, rfl, pickA_perm (is := [2]) (As := [_]) rfl, rfl, by rw [← hq, if_neg (by omega), if_neg (by omega)]; rfl, rfl⟩
                | exact ⟨_, [_], _, rfl, pickA_perm (is := [3]) (As := [_]) rfl, rfl, by rw [← hq, if_neg (by omega), if_neg (by omega)]; rfl, rfl⟩
                | exact ⟨_, [_], _, rfl, pickA_perm (is := [4]) (As := [_]) rfl, rfl, by rw [← hq, if_neg (by omega), if_neg (by omega)]; rfl, rfl⟩
          · repeat (first | refine sc rfl ?_ | refine so rfl ?_ | refine sb rfl ?_)
            refine C_false rfl rfl ?_
            repeat (first | refine O_le _ (Le.agg 63 (Val.c zV) rfl (.cons .refl (.cons .refl (.cons .refl (.cons .nil (.cons .nil .nil)))))) ?_ | refine sc rfl ?_ | refine so rfl ?_ | refine sb rfl ?_)
            first
              | exact ⟨_, [_], _, rfl, pickA_perm (is := [0]) (As := [_]) rfl, rfl, by rw [← hq, if_neg (by omega), if_neg (by omega)]; rfl, rfl⟩
              | exact ⟨_, [_], _, rfl, pickA_perm (is := [1]) (As := [_]) rfl, rfl, by rw [← hq, if_neg (by omega), if_neg (by omega)]; rfl, rfl⟩
              | exact ⟨_, [_], _, rfl, pickA_perm (is := [2]) (As := [_]) rfl, rfl, by rw [← hq, if_neg (by omega), if_neg (by omega)]; rfl, rfl⟩
              | exact ⟨_, [_], _, rfl, pickA_perm (is := [3]) (As := [_]) rfl, rfl, by rw [← hq, if_neg (by omega), if_neg (by omega)]; rfl, rfl⟩
              | exact ⟨_, [_], _, rfl, pickA_perm (is := [4]) (As := [_]) rfl, rfl, by rw [← hq, if_neg (by omega), if_neg (by omega)]; rfl, rfl⟩
    · repeat (first | refine sc rfl ?_ | refine so rfl ?_ | refine sb rfl ?_)
      refine C_false rfl rfl ?_
      repeat (first | refine sc rfl ?_ | refine so rfl ?_ | refine sb rfl ?_)
      refine O_case 35 rfl (fun c3 => ?_) (fun c3 => ?_) <;> simp only [decide_eq_true_eq, decide_eq_false_iff_not, Bool.not_eq_true', Bool.not_eq_false', beq_iff_eq, beq_eq_false_iff_ne, bne_iff_ne, ne_eq, bne_eq_false_iff_eq, Decidable.not_not] at c3
      · repeat (first | refine sc rfl ?_ | refine so rfl ?_ | refine sb rfl ?_)
        refine C_if rfl (fun m3 => ?_) (fun m3 => ?_) <;> simp only [decide_eq_true_eq, decide_eq_false_iff_not, Bool.not_eq_true', Bool.not_eq_false', beq_iff_eq, beq_eq_false_iff_ne, bne_iff_ne, ne_eq, bne_eq_false_iff_eq, Decidable.not_not] at m3
        · skip
          repeat (first | refine O_le _ (Le.agg 43 (Val.c ⟨t.kind, 0, [], [], []⟩) rfl (.cons .refl (.cons .refl (.cons .refl (.cons .nil (.cons .nil .nil)))))) ?_ | refine sc rfl ?_ | refine so rfl ?_ | refine sb rfl ?_)
          first
            | exact ⟨_, [_], _, rfl, pickA_perm (is := [0]) (As := [_]) rfl, rfl, by rw [← hq, if_pos (by omega)]; rfl, rfl⟩
            | exact ⟨_, [_], _, rfl, pickA_perm (is := [1]) (As := [_]) rfl, rfl, by rw [← hq, if_pos (by omega)]; rfl, rfl⟩
            | exact ⟨_, [_], _, rfl, pickA_perm (is := [2]) (As := [_]) rfl, rfl, by rw [← hq, if_pos (by omega)]; rfl, rfl⟩
            | exact ⟨_, [_], _, rfl, pickA_perm (is := [3]) (As := [_]) rfl, rfl, by rw [← hq, if_pos (by omega)]; rfl, rfl⟩
            | exact ⟨_, [_], _, rfl, pickA_perm (is := [4]) (As := [_]) rfl, rfl, by rw [← hq, if_pos (by omega)]; rfl, rfl⟩
        · repeat (first | refine sc rfl ?_ | refine so rfl ?_ | refine sb rfl ?_)
          refine O_case 48 rfl (fun c4 => ?_) (fun c4 => ?_) <;> simp only [decide_eq_true_eq, decide_eq_false_iff_not, Bool.not_eq_true', Bool.not_eq_false', beq_iff_eq, beq_eq_false_iff_ne, bne_iff_ne, ne_eq, bne_eq_false_iff_eq, Decidable.not_not] at c4
          · repeat (first | refine sc rfl ?_ | refine so rfl ?_ | refine sb rfl ?_)
            refine C_if rfl (fun m4 => ?_) (fun m4 => ?_) <;> simp only [decide_eq_true_eq, decide_eq_false_iff_not, Bool.not_eq_true', Bool.not_eq_false', beq_iff_eq, beq_eq_false_iff_ne, bne_iff_ne, ne_eq, bne_eq_false_iff_eq, Decidable.not_not] at m4
            · skip
              repeat (first | refine O_le _ (Le.one 56 (SL 3 Ty.c t.of) rfl (.row (Ty.rows_eq _))) ?_ | refine sc rfl ?_ | refine so rfl ?_ | refine sb rfl ?_)
              refine ⟨by omega, ?_⟩
              repeat (first | refine sc rfl ?_ | refine so rfl ?_ | refine sb rfl ?_)
              first
                | refine O_callA [0] (hby (by omega)) (by rfl) (by rfl) (by rfl) (by rfl) (by rfl) ?_
                | refine O_callA [1] (hby (by omega)) (by rfl) (by rfl) (by rfl) (by rfl) (by rfl) ?_
                | refine O_callA [2] (hby (by omega)) (by rfl) (by rfl) (by rfl) (by rfl) (by rfl) ?_
                | refine O_callA [3] (hby (by omega)) (by rfl) (by rfl) (by rfl) (by rfl) (by rfl) ?_
                | refine O_callA [4] (hby (by omega)) (by rfl) (by rfl) (by rfl) (by rfl) (by rfl) ?_
              rintro r cs' ⟨rfl, rfl⟩
              repeat (first | refine sc rfl ?_ | refine so rfl ?_ | refine sb rfl ?_)
              first
                | exact ⟨_, [_], _, rfl, pickA_perm (is := [0]) (As := [_]) rfl, rfl, by rw [← hq, if_neg (by omega), if_pos ⟨by omega, by omega⟩]; rfl, rfl⟩
                | exact ⟨_, [_], _, rfl, pickA_perm (is := [1]) (As := [_]) rfl, rfl, by rw [← hq, if_neg (by omega), if_pos ⟨by omega, by omega⟩]; rfl, rfl⟩
                | exact ⟨_, [_], _, rfl, pickA_perm (is := [2]) (As := [_]) rfl, rfl, by rw [← hq, if_neg (by omega), if_pos ⟨by omega, by omega⟩]; rfl, rfl⟩
                | exact ⟨_, [_], _, rfl, pickA_perm (is := [3]) (As := [_]) rfl, rfl, by rw [← hq, if_neg (by omega), if_pos ⟨by omega, by omega⟩]; rfl, rfl⟩
                | exact ⟨_, [_], _, rfl, pickA_perm (is := [4]) (As := [_]) rfl, rfl, by rw [← hq, if_neg (by omega), if_pos ⟨by omega, by omega⟩]; rfl, rfl⟩
            · skip
              repeat (first | refine O_le _ (Le.agg 63 (Val.c zV) rfl (.cons .refl (.cons .refl (.cons .refl (.cons .nil (.cons .nil .nil)))))) ?_ | refine sc rfl ?_ | refine so rfl ?_ | refine sb rfl ?_)
              first
                | exact ⟨_, [_], _, rfl, pickA_perm (is := [0]) (As := [_]) rfl, rfl, by rw [← hq, if_neg (by omega), if_neg (by omega)]; rfl, rfl⟩
                | exact ⟨_, [_], _, rfl, pickA_perm (is := [1]) (As := [_]) rfl, rfl, by rw [← hq, if_neg (by omega), if_neg (by omega)]; rfl, rfl⟩
                | exact ⟨_, [_], _, rfl, pickA_perm (is := [2]) (As := [_]) rfl, rfl, by rw [← hq, if_neg (by omega), if_neg (by omega)]; rfl, rfl⟩
                | exact ⟨_, [_], _, rfl, pickA_perm (is := [3]) (As := [_]) rfl, rfl, by rw [← hq, if_neg (by omega), if_neg (by omega)]; rfl, rfl⟩
                | exact ⟨_, [_], _, rfl, pickA_perm (is := [4]) (As := [_]) rfl, rfl, by rw [← hq, if_neg (by omega), if_neg (by omega)]; rfl, rfl⟩
          · repeat (first | refine sc rfl ?_ | refine so rfl ?_ | refine sb rfl ?_)
            refine C_false rfl rfl ?_
            repeat (first | refine O_le _ (Le.agg 63 (Val.c zV) rfl (.cons .refl (.cons .refl (.cons .refl (.cons .nil (.cons .nil .nil)))))) ?_ | refine sc rfl ?_ | refine so rfl ?_ | refine sb rfl ?_)
            first
              | exact ⟨_, [_], _, rfl, pickA_perm (is := [0]) (As := [_]) rfl, rfl, by rw [← hq, if_neg (by omega), if_neg (by omega)]; rfl, rfl⟩
              | exact ⟨_, [_], _, rfl, pickA_perm (is := [1]) (As := [_]) rfl, rfl, by rw [← hq, if_neg (by omega), if_neg (by omega)]; rfl, rfl⟩
              | exact ⟨_, [_], _, rfl, pickA_perm (is := [2]) (As := [_]) rfl, rfl, by rw [← hq, if_neg (by omega), if_neg (by omega)]; rfl, rfl⟩
              | exact ⟨_, [_], _, rfl, pickA_perm (is := [3]) (As := [_]) rfl, rfl, by rw [← hq, if_neg (by omega), if_neg (by omega)]; rfl, rfl⟩
              | exact ⟨_, [_], _, rfl, pickA_perm (is := [4]) (As := [_]) rfl, rfl, by rw [← hq, if_neg (by omega), if_neg (by omega)]; rfl, rfl⟩
      · repeat (first | refine sc rfl ?_ | refine so rfl ?_ | refine sb rfl ?_)
        refine C_false rfl rfl ?_
        repeat (first | refine sc rfl ?_ | refine so rfl ?_ | refine sb rfl ?_)
        refine O_case 48 rfl (fun c4 => ?_) (fun c4 => ?_) <;> simp only [decide_eq_true_eq, decide_eq_false_iff_not, Bool.not_eq_true', Bool.not_eq_false', beq_iff_eq, beq_eq_false_iff_ne, bne_iff_ne, ne_eq, bne_eq_false_iff_eq, Decidable.not_not] at c4
        · repeat (first | refine sc rfl ?_ | refine so rfl ?_ | refine sb rfl ?_)
          refine C_if rfl (fun m4 => ?_) (fun m4 => ?_) <;> simp only [decide_eq_true_eq, decide_eq_false_iff_not, Bool.not_eq_true', Bool.not_eq_false', beq_iff_eq, beq_eq_false_iff_ne, bne_iff_ne, ne_eq, bne_eq_false_iff_eq, Decidable.not_not] at m4
          · skip
            repeat (first | refine O_le _ (Le.one 56 (SL 3 Ty.c t.of) rfl (.row (Ty.rows_eq _))) ?_ | refine sc rfl ?_ | refine so rfl ?_ | refine sb rfl ?_)
            refine ⟨by omega, ?_⟩
            repeat (first | refine sc rfl ?_ | refine so rfl ?_ | refine sb rfl ?_)
            first
              | refine O_callA [0] (hby (by omega)) (by rfl) (by rfl) (by rfl) (by rfl) (by rfl) ?_
              | refine O_callA [1] (hby (by omega)) (by rfl) (by rfl) (by rfl) (by rfl) (by rfl) ?_
              | refine O_callA [2] (hby (by omega)) (by rfl) (by rfl) (by rfl) (by rfl) (by rfl) ?_
              | refine O_callA [3] (hby (by omega)) (by rfl) (by rfl) (by rfl) (by rfl) (by rfl) ?_
              | refine O_callA [4] (hby (by omega)) (by rfl) (by rfl) (by rfl) (by rfl) (by rfl) ?_
            rintro r cs' ⟨rfl, rfl⟩
            repeat (first | refine sc rfl ?_ | refine so rfl ?_ | refine sb rfl ?_)
            first
              | exact ⟨_, [_], _, rfl, pickA_perm (is := [0]) (As := [_]) rfl, rfl, by rw [← hq, if_neg (by omega), if_pos ⟨by omega, by omega⟩]; rfl, rfl⟩
              | exact ⟨_, [_], _, rfl, pickA_perm (is := [1]) (As := [_]) rfl, rfl, by rw [← hq, if_neg (by omega), if_pos ⟨by omega, by omega⟩]; rfl, rfl⟩
              | exact ⟨_, [_], _, rfl, pickA_perm (is := [2]) (As := [_]) rfl, rfl, by rw [← hq, if_neg (by omega), if_pos ⟨by omega, by omega⟩]; rfl, rfl⟩
              | exact ⟨_, [_], _, rfl, pickA_perm (is := [3]) (As := [_]) rfl, rfl, by rw [← hq, if_neg (by omega), if_pos ⟨by omega, by omega⟩]; rfl, rfl⟩
              | exact ⟨_, [_], _, rfl, pickA_perm (is := [4]) (As := [_]) rfl, rfl, by rw [← hq, if_neg (by omega), if_pos ⟨by omega, by omega⟩]; rfl, rfl⟩
          · skip
            repeat (first | refine O_le _ (Le.agg 63 (Val.c zV) rfl (.cons .refl (.cons .refl (.cons .refl (.cons .nil (.cons .nil .nil)))))) ?_ | refine sc rfl ?_ | refine so rfl ?_ | refine sb rfl ?_)
            first
              | exact ⟨_, [_], _, rfl, pickA_perm (is := [0]) (As := [_]) rfl, rfl, by rw [← hq, if_neg (by omega), if_neg (by omega)]; rfl, rfl⟩
              | exact ⟨_, [_], _, rfl, pickA_perm (is := [1]) (As := [_]) rfl, rfl, by rw [← hq, if_neg (by omega), if_neg (by omega)]; rfl, rfl⟩
              | exact ⟨_, [_], _, rfl, pickA_perm (is := [2]) (As := [_]) rfl, rfl, by rw [← hq, if_neg (by omega), if_neg (by omega)]; rfl, rfl⟩
              | exact ⟨_, [_], _, rfl, pickA_perm (is := [3]) (As := [_]) rfl, rfl, by rw [← hq, if_neg (by omega), if_neg (by omega)]; rfl, rfl⟩
              | exact ⟨_, [_], _, rfl, pickA_perm (is := [4]) (As := [_]) rfl, rfl, by rw [← hq, if_neg (by omega), if_neg (by omega)]; rfl, rfl⟩
        · repeat (first | refine sc rfl ?_ | refine so rfl ?_ | refine sb rfl ?_)
          refine C_false rfl rfl ?_
          repeat (first | refine O_le _ (Le.agg 63 (Val.c zV) rfl (.cons .refl (.cons .refl (.cons .refl (.cons .nil (.cons .nil .nil)))))) ?_ | refine sc rfl ?_ | refine so rfl ?_ | refine sb rfl ?_)
          first
            | exact ⟨_, [_], _, rfl, pickA_perm (is := [0]) (As := [_]) rfl, rfl, by rw [← hq, if_neg (by omega), if_neg (by omega)]; rfl, rfl⟩
            | exact ⟨_, [_], _, rfl, pickA_perm (is := [1]) (As := [_]) rfl, rfl, by rw [← hq, if_neg (by omega), if_neg (by omega)]; rfl, rfl⟩
            | exact ⟨_, [_], _, rfl, pickA_perm (is := [2]) (As := [_]) rfl, rfl, by rw [← hq, if_neg (by omega), if_neg (by omega)]; rfl, rfl⟩
            | exact ⟨_, [_], _, rfl, pickA_perm (is := [3]) (As := [_]) rfl, rfl, by rw [← hq, if_neg (by omega), if_neg (by omega)]; rfl, rfl⟩
            | exact ⟨_, [_], _, rfl, pickA_perm (is := [4]) (As := [_]) rfl, rfl, by rw [← hq, if_neg (by omega), if_neg (by omega)]; rfl, rfl⟩
end Go.Proofs

/- Contracts of blank: fields. -/
set_option linter.unusedSimpArgs false
set_option linter.unusedVariables false
set_option maxRecDepth 100000
namespace Go.Proofs
open Go.Sy Go.Lib

abbrev zC : List AV := [I64 0, I64 0, .s [], .v (.slice none 0 0), .v (.slice none 0 0)]
def CFf (b : Nat) (l : List Dcl) (tg : List Int) (it : List Val) (f : Fld) (w : Val) (b5 b10 b12 b14 : Bool) : List Ch :=
  [.box 8 70 [I64 9, I64 0, .s [], bif b12 then .own 41 else .own 90, bif b14 then .own 46 else .own 91], .box 11 70 (Val.c w), .box 10 65 (Fld.c f),
   bif b5 then .vec 41 3 1 (tg.length + 1) (fun i => INTc ((tg ++ [f.tag]).getD i default)) else .vec 90 3 1 tg.length (fun i => INTc (tg.getD i default)),
   bif b10 then .vec 46 70 5 (it.length + 1) (Val.rows (it ++ [w])) else .vec 91 70 5 it.length (Val.rows it),
   .box 6 70 zC, .abs (dscS b l)]
def PFf : Pl := ⟨[[], [], [], [], [], [], [], [], [], [], [5], [], [1, 5, 10], [], [7, 5, 10, 12]], [5, 10, 12, 14], [(5, 41), (10, 46)], []⟩

theorem rows_snoc {it : List Val} {w : Val} {i : Nat} (h : i < it.length + 1) : appRow it.length (Val.rows it) (chunkRow 5 (Val.c w)) i = Val.rows (it ++ [w]) i := by
  rw [Val.rows_eq _ _ (by simpa using h)]
  unfold appRow
  by_cases hi : i < it.length
  · rw [if_pos hi, Val.rows_eq _ _ hi, List.getD_eq_getElem?_getD, List.getD_eq_getElem?_getD, List.getElem?_append_left hi]
  · rw [if_neg hi]
    obtain rfl : i = it.length := by omega
    rw [Nat.sub_self, List.getD_eq_getElem?_getD, List.getElem?_append_right (Nat.le_refl _), Nat.sub_self]; rfl
theorem ints_snoc {tg : List Int} {x : Int} {i : Nat} (h : i < tg.length + 1) : appRow tg.length (fun i => INTc (tg.getD i default)) (chunkRow 1 [I64 x]) i = INTc ((tg ++ [x]).getD i default) := by
  unfold appRow
  by_cases hi : i < tg.length
  · rw [if_pos hi]
    show INTc (tg.getD i default) = _
    rw [List.getD_eq_getElem?_getD, List.getD_eq_getElem?_getD, List.getElem?_append_left hi]
  · rw [if_neg hi]
    obtain rfl : i = tg.length := by omega
    rw [Nat.sub_self, List.getD_eq_getElem?_getD, List.getElem?_append_right (Nat.le_refl _), Nat.sub_self]; rfl

theorem chunk1 {e : Nat} {cs : List AV} (h : cs.length = e) (i : Nat) (hi : i < 1) : (chunkRow e cs i).length = e := by
  obtain rfl : i = 0 := by omega
  simp [chunkRow, h]

theorem fields_A (b : Nat) (l : List Dcl) (R : List Fld) (hR : R.length ≤ 1000) (d : Nat) (hd : d ≤ 1000) (g : Ty → Val × Bool)
    (hby : ∀ f, f ∈ R → FnA Tryz.prog 132 [MK b, .agg (Ty.c f.ty), I64 (d : Nat)] [dscS b l] (BR b l (g f.ty))) :
    FnA Tryz.prog 204 [MK b, SL 5 Fld.c R, I64 ((d + 1 : Nat) : Int)] [dscS b l] (BR b l (fldF g R [] [])) := by
  obtain ⟨q, hq⟩ : ∃ q, fldF g R [] [] = q := ⟨_, rfl⟩
  rw [hq]
  refine FnA.intro Tryz.tabOK Tryz.wide_ Tryz.func204 rfl (by decide) rfl (fun X => ?_)
  repeat (first | refine sc rfl ?_ | refine so rfl ?_ | refine sb rfl ?_)
  refine C_le _ (Le.cellNil 8 3 90 3 1 (fun i => INTc (([] : List Int).getD i default)) rfl rfl rfl rfl) ?_
  refine C_le _ (Le.cellNil 8 4 91 70 5 (Val.rows []) rfl rfl rfl rfl) ?_
  refine C_loop (fun q : Nat × List Int × List Val => ⟨[(0, MK b), (2, I64 ((d + 1 : Nat) : Int)), (6, .bp 6 0), (8, .bp 8 0), (14, SL 5 Fld.c R), (15, I64 (R.length : Nat)), (16, I64 (q.1 : Nat))],
      [.box 8 70 [I64 9, I64 0, .s [], .own 90, .own 91], .vec 90 3 1 q.2.1.length (fun i => INTc (q.2.1.getD i default)), .vec 91 70 5 q.2.2.length (Val.rows q.2.2), .box 6 70 zC, .abs (dscS b l)]⟩)
    (fun p => p.1 ≤ R.length ∧ p.2.1.length ≤ p.1 ∧ p.2.2.length ≤ p.1 ∧ fldF g (R.drop p.1) p.2.1 p.2.2 = q) (fun p => R.length - p.1) (0, [], []) ⟨Nat.zero_le _, Nat.zero_le _, Nat.zero_le _, hq⟩ (Le.pick [0, 1, 0, 0, 0] ⟨rfl, rfl, rfl, rfl, rfl, rfl, rfl, trivial⟩ rfl) ?_
  rintro ⟨i, tg, it⟩ ⟨hi, htg, hit, hF⟩
  simp only [] at hi htg hit hF
  show SymC _ _ _ ⟨[(0, MK b), (2, I64 ((d + 1 : Nat) : Int)), (6, .bp 6 0), (8, .bp 8 0), (14, SL 5 Fld.c R), (15, I64 (R.length : Nat)), (16, I64 (i : Nat))],
      [.box 8 70 [I64 9, I64 0, .s [], .own 90, .own 91], .vec 90 3 1 tg.length (fun i => INTc (tg.getD i default)), .vec 91 70 5 it.length (Val.rows it), .box 6 70 zC, .abs (dscS b l)]⟩ _
  repeat (first | refine sc rfl ?_ | refine so rfl ?_ | refine sb rfl ?_)
  refine C_if rfl (fun m1 => ?_) (fun m1 => ?_) <;> simp only [decide_eq_true_eq, decide_eq_false_iff_not, Bool.not_eq_true', Bool.not_eq_false', beq_iff_eq, beq_eq_false_iff_ne, bne_iff_ne, ne_eq, bne_eq_false_iff_eq, Decidable.not_not] at m1
  · have hil : i < R.length := by omega
    have hmem := mem_getDf hil
    have hdrop : R.drop i = R.getD i default :: R.drop (i + 1) := by rw [List.drop_eq_getElem_cons hil, getD_at hil]
    rw [hdrop] at hF
    repeat (first | refine sc rfl ?_ | refine so rfl ?_ | refine sb rfl ?_)
    refine ⟨by omega, ?_⟩
    rw [Int.toNat_natCast]
    repeat (first | refine sc rfl ?_ | refine so rfl ?_ | refine sb rfl ?_)
    refine C_if rfl (fun m2 => ?_) (fun m2 => ?_) <;> simp only [decide_eq_true_eq, decide_eq_false_iff_not, Bool.not_eq_true', Bool.not_eq_false', beq_iff_eq, beq_eq_false_iff_ne, bne_iff_ne, ne_eq, bne_eq_false_iff_eq, Decidable.not_not] at m2
    · simp only [fldF] at hF
      rw [if_pos m2] at hF
      repeat (first | refine sc rfl ?_ | refine so rfl ?_ | refine sb rfl ?_)
      rw [w64 (x := (i : Int) + 1) (by omega) (by omega)]
      refine ⟨(i + 1, tg, it), ⟨hil, by simp only []; omega, by simp only []; omega, hF⟩, by simp only []; omega, Le.pick [1, 1, 1, 1, 1] ⟨rfl, rfl, rfl, rfl, rfl, rfl, rfl, trivial⟩ rfl⟩
    simp only [fldF] at hF
    rw [if_neg m2] at hF
    repeat (first | refine sc rfl ?_ | refine so rfl ?_ | refine sb rfl ?_)
    rw [w64 (x := ((d + 1 : Nat) : Int) - 1) (by omega) (by omega), show (((d + 1 : Nat) : Int) - 1) = ((d : Nat) : Int) by omega]
    refine O_callA [5] (hby (R.getD i default) hmem) (by rfl) (by rfl) (by rfl) (by rfl) (by rfl) ?_
    rintro r cs' ⟨rfl, rfl⟩
    obtain ⟨y, hy⟩ : ∃ y, g (R.getD i default).ty = y := ⟨_, rfl⟩
    rw [hy] at hF ⊢
    obtain ⟨w, ok⟩ := y
    cases ok with
    | false =>
      repeat (first | refine sc rfl ?_ | refine so rfl ?_ | refine sb rfl ?_)
      refine C_true rfl rfl ?_
      repeat (first | refine O_le _ (Le.agg 35 (Val.c zV) rfl (.cons .refl (.cons .refl (.cons .refl (.cons .nil (.cons .nil .nil)))))) ?_ | refine sc rfl ?_ | refine so rfl ?_ | refine sb rfl ?_)
      exact ⟨_, [_], _, rfl, pickA_perm (is := [2]) (As := [_]) rfl, rfl, by rw [← hF, if_neg (fun h => by cases h)]; rfl, rfl⟩
    | true =>
      rw [if_pos rfl] at hF
      repeat (first | refine sc rfl ?_ | refine so rfl ?_ | refine sb rfl ?_)
      refine C_false rfl rfl ?_
      repeat (first | refine sc rfl ?_ | refine so rfl ?_ | refine sb rfl ?_)
      refine C_le _ (Le.pick [3, 0, 1, 1, 1, 1, 0] (s2 := [(0, MK b), (2, I64 ((d + 1 : Nat) : Int)), (6, .bp 6 0), (8, .bp 8 0), (14, SL 5 Fld.c R), (15, I64 (R.length : Nat)), (16, I64 (i : Nat)), (10, .bp 10 0), (11, .bp 11 0)]) ⟨rfl, rfl, rfl, rfl, rfl, rfl, rfl, rfl, rfl, trivial⟩ rfl) ?_
      refine C_drawM PFf (fun L => CFf b l tg it (R.getD i default) w (L 5) (L 10) (L 12) (L 14)) rfl (by kernel_rfl) (fun L L' h => by show CFf b l tg it (R.getD i default) w (L 5) (L 10) (L 12) (L 14) = CFf b l tg it (R.getD i default) w (L' 5) (L' 10) (L' 12) (L' 14); rw [h 5 (by decide), h 10 (by decide), h 12 (by decide), h 14 (by decide)]) rfl ?_
      refine sm rfl ⟨trivial, ?_⟩
      refine SM (.own 90) rfl (fun L h1 h2 h3 => ?_) ?_
      · show StepX _ _ _ _ _ (CFf b l tg it (R.getD i default) w (L 5) (L 10) (L 12) (L 14)) (CFf b l tg it (R.getD i default) w (L 5) (L 10) (L 12) (L 14)) _ _ _
        rw [h2 12 (show (1 : Nat) ∈ PFf.anc 12 by decide)]
        exact X_stillX rfl rfl rfl trivial
      refine sm rfl ⟨trivial, ?_⟩
      refine SM (I64 (R.getD i default).tag) rfl (fun L h1 h2 h3 => ?_) ?_
      · show StepX _ _ _ _ _ (CFf b l tg it (R.getD i default) w (L 5) (L 10) (L 12) (L 14)) (CFf b l tg it (R.getD i default) w (L 5) (L 10) (L 12) (L 14)) _ _ _
        exact X_stillX rfl rfl rfl trivial
      refine SM (.sl 1 1 (chunkRow 1 [I64 (R.getD i default).tag])) rfl (fun L h1 h2 h3 => ?_) ?_
      · show StepX _ _ _ _ _ (CFf b l tg it (R.getD i default) w (L 5) (L 10) (L 12) (L 14)) (CFf b l tg it (R.getD i default) w (L 5) (L 10) (L 12) (L 14)) _ _ _
        exact X_bsl rfl rfl rfl
      refine SM (.own 41) rfl (fun L h1 h2 h3 => ?_) ?_
      · show StepX _ _ _ _ _ (CFf b l tg it (R.getD i default) w (L 5) (L 10) (L 12) (L 14)) (CFf b l tg it (R.getD i default) w true (L 10) (L 12) (L 14)) _ _ _
        rw [show L 5 = false from h3, h2 10 (show (5 : Nat) ∈ PFf.anc 10 by decide), h2 12 (show (5 : Nat) ∈ PFf.anc 12 by decide), h2 14 (show (5 : Nat) ∈ PFf.anc 14 by decide)]
        exact (X_appendK (m3 := tg.length + 1) (row3 := fun j => INTc ((tg ++ [(R.getD i default).tag]).getD j default)) rfl rfl rfl rfl rfl rfl rfl (chunk1 (e := 1) rfl) rfl (show ((5, 41) : Nat × Nat) ∈ PFf.cre by decide) rfl rfl (by show (tg.length + 1) * 8 ≤ 140737488355328; omega) (by simp only [maxLen]; omega) rfl (fun j hj => ints_snoc hj)).perm (by exact (List.perm_middle (l₁ := [_, _, _])).symm)
      refine sm rfl ⟨trivial, ?_⟩
      refine SM (.own 91) rfl (fun L h1 h2 h3 => ?_) ?_
      · show StepX _ _ _ _ _ (CFf b l tg it (R.getD i default) w (L 5) (L 10) (L 12) (L 14)) (CFf b l tg it (R.getD i default) w (L 5) (L 10) (L 12) (L 14)) _ _ _
        rw [h2 14 (show (7 : Nat) ∈ PFf.anc 14 by decide)]
        exact X_stillX rfl rfl rfl trivial
      refine SM (.agg (Val.c w)) rfl (fun L h1 h2 h3 => ?_) ?_
      · show StepX _ _ _ _ _ (CFf b l tg it (R.getD i default) w (L 5) (L 10) (L 12) (L 14)) (CFf b l tg it (R.getD i default) w (L 5) (L 10) (L 12) (L 14)) _ _ _
        exact X_stillX rfl rfl rfl trivial
      refine SM (.sl 1 5 (chunkRow 5 (Val.c w))) rfl (fun L h1 h2 h3 => ?_) ?_
      · show StepX _ _ _ _ _ (CFf b l tg it (R.getD i default) w (L 5) (L 10) (L 12) (L 14)) (CFf b l tg it (R.getD i default) w (L 5) (L 10) (L 12) (L 14)) _ _ _
        exact X_bsl rfl rfl rfl
      refine SM (.own 46) rfl (fun L h1 h2 h3 => ?_) ?_
      · show StepX _ _ _ _ _ (CFf b l tg it (R.getD i default) w (L 5) (L 10) (L 12) (L 14)) (CFf b l tg it (R.getD i default) w (L 5) true (L 12) (L 14)) _ _ _
        rw [show L 10 = false from h3, h1 5 (show (5 : Nat) ∈ PFf.anc 10 by decide), h2 12 (show (10 : Nat) ∈ PFf.anc 12 by decide), h2 14 (show (10 : Nat) ∈ PFf.anc 14 by decide)]
        exact (X_appendK (m3 := it.length + 1) (row3 := Val.rows (it ++ [w])) rfl rfl rfl rfl rfl rfl rfl (chunk1 (e := 5) rfl) rfl (show ((10, 46) : Nat × Nat) ∈ PFf.cre by decide) rfl rfl (by show (it.length + 1) * 80 ≤ 140737488355328; omega) (by simp only [maxLen]; omega) rfl (fun j hj => rows_snoc hj)).perm (by exact (List.perm_middle (l₁ := [_, _, _, _])).symm)
      refine sm rfl ⟨trivial, ?_⟩
      refine SM .bad rfl (fun L h1 h2 h3 => ?_) ?_
      · show StepX _ _ _ _ _ (CFf b l tg it (R.getD i default) w (L 5) (L 10) (L 12) (L 14)) (CFf b l tg it (R.getD i default) w (L 5) (L 10) true (L 14)) _ _ _
        rw [show L 12 = false from h3, h1 5 (show (5 : Nat) ∈ PFf.anc 12 by decide), h1 10 (show (10 : Nat) ∈ PFf.anc 12 by decide), h2 14 (show (12 : Nat) ∈ PFf.anc 14 by decide)]
        exact X_storeK rfl rfl rfl rfl rfl rfl rfl rfl rfl
      refine sm rfl ⟨trivial, ?_⟩
      refine SM .bad rfl (fun L h1 h2 h3 => ?_) ?_
      · show StepX _ _ _ _ _ (CFf b l tg it (R.getD i default) w (L 5) (L 10) (L 12) (L 14)) (CFf b l tg it (R.getD i default) w (L 5) (L 10) (L 12) true) _ _ _
        rw [show L 14 = false from h3, h1 5 (show (5 : Nat) ∈ PFf.anc 14 by decide), h1 10 (show (10 : Nat) ∈ PFf.anc 14 by decide), h1 12 (show (12 : Nat) ∈ PFf.anc 14 by decide)]
        exact X_storeK rfl rfl rfl rfl rfl rfl rfl rfl rfl
      refine sm rfl ?_
      show SymC _ _ _ ⟨_, [.box 8 70 [I64 9, I64 0, .s [], .own 41, .own 46], .box 11 70 (Val.c w), .box 10 65 (Fld.c (R.getD i default)), .vec 41 3 1 (tg.length + 1) (fun j => INTc ((tg ++ [(R.getD i default).tag]).getD j default)), .vec 46 70 5 (it.length + 1) (Val.rows (it ++ [w])), .box 6 70 zC, .abs (dscS b l)]⟩ _
      repeat (first | refine sc rfl ?_ | refine so rfl ?_ | refine sb rfl ?_)
      rw [w64 (x := (i : Int) + 1) (by omega) (by omega)]
      refine ⟨(i + 1, tg ++ [(R.getD i default).tag], it ++ [w]), ⟨hil, by simp; omega, by simp; omega, hF⟩, by simp only []; omega, ?_⟩
      refine Le.trans (Le.cellRename 8 3 41 90 (s2 := [(0, MK b), (2, I64 ((d + 1 : Nat) : Int)), (6, .bp 6 0), (8, .bp 8 0), (14, SL 5 Fld.c R), (15, I64 (R.length : Nat)), (16, I64 ((i + 1 : Nat) : Int))]) rfl rfl rfl ⟨rfl, rfl, rfl, rfl, rfl, rfl, rfl, trivial⟩ rfl rfl) ?_
      refine Le.trans (Le.cellRename 8 4 46 91 (s2 := [(0, MK b), (2, I64 ((d + 1 : Nat) : Int)), (6, .bp 6 0), (8, .bp 8 0), (14, SL 5 Fld.c R), (15, I64 (R.length : Nat)), (16, I64 ((i + 1 : Nat) : Int))]) rfl rfl rfl ⟨rfl, rfl, rfl, rfl, rfl, rfl, rfl, trivial⟩ rfl rfl) ?_
      show Le _ _ _ ⟨_, [.box 8 70 [I64 9, I64 0, .s [], .own 90, .own 91], .vec 90 3 1 (tg ++ [(R.getD i default).tag]).length (fun j => INTc ((tg ++ [(R.getD i default).tag]).getD j default)), .vec 91 70 5 (it ++ [w]).length (Val.rows (it ++ [w])), .box 6 70 zC, .abs (dscS b l)]⟩
      rw [List.length_append, List.length_append]
      exact Le.pick [0, 1, 0, 2, 2] ⟨rfl, rfl, rfl, rfl, rfl, rfl, rfl, trivial⟩ rfl
  · obtain rfl : i = R.length := by omega
    rw [List.drop_length] at hF
    refine C_le _ (Le.cellFreeze 8 3 90 rfl rfl rfl) ?_
    refine C_le _ (Le.cellFreeze 8 4 91 rfl rfl rfl) ?_
    repeat (first | refine sc rfl ?_ | refine so rfl ?_ | refine sb rfl ?_)
    exact ⟨_, [_], _, rfl, pickA_perm (is := [2]) (As := [_]) rfl, rfl, by rw [← hF]; rfl, rfl⟩
end Go.Proofs
