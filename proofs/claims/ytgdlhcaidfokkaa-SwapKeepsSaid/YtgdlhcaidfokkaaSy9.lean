/- The symbolic walk, part 9: slices that are grown; giving them up as read-only. -/
import Derived.Test.YtgdlhcaidfokkaaSy8
import Derived.Laws.AppendOwnNone
set_option linter.unusedSimpArgs false
set_option linter.unusedVariables false
namespace Go.Sy
open Go.RowKit

section
variable {P : Program} {T : Tab} {X : Ctx P T} {n : Nat} {e : Env} {st : St} {a : Act} {w : World} {ops : Array Oper} {K : St → Prop}

theorem Rel.glt (r : Rel X n e st a w) : ∀ b o v, e.G b o = some v → b < w.heap.size := fun b o v h => Go.block_lt_of_cell (r.im b o v h)

/-- A nil slice may be grown. -/
theorem Le.nilown {s : List (Nat × AV)} {c : List Ch} (i d : Nat) (t : TypeId) (esz : Nat) (row : Nat → List AV) (hi : get s i = some (.v (.slice none 0 0))) (hf : freshS d s = true) (hc : freshC d c = true) :
    Le X n ⟨s, c⟩ ⟨(i, .own d) :: s, .vec d t esz 0 row :: c⟩ := by
  intro e a w r
  have hnod : ∀ {x : AV}, x.no d = true → ∀ j, x.no j = false → j ≠ d := fun hx j hj he => by subst he; rw [hx] at hj; cases hj
  have hid : ∀ (k : Nat), k ≠ d → upd e.hd d (.slice none 0 0) k = e.hd k := fun k hk => by simp [upd, hk]
  refine ⟨{ e with hd := upd e.hd d (.slice none 0 0) }, { r with slots := ?_, heap := ?_ }⟩
  · intro j x hx
    rw [get_cons] at hx
    by_cases hij : i = j
    · subst hij
      simp only [if_true, Option.some.injEq] at hx
      subst hx
      obtain ⟨v, h1, h2⟩ := r.slots i _ hi
      simp only [Rep] at h2
      subst h2
      exact ⟨_, h1, by simp [Rep, upd]⟩
    · rw [if_neg hij] at hx
      obtain ⟨v, h1, h2⟩ := r.slots j x hx
      exact ⟨v, h1, Rep.mono (e := e) (f := { e with hd := upd e.hd d (.slice none 0 0) }) (IM.le_refl _) x (fun q hq => ⟨rfl, hid q (hnod (freshS_get hf j x hx) q hq)⟩) h2⟩
  · refine HeapOK.push r.heap (IM.le_refl _) (fun x hcm j hj => ⟨rfl, hid j ?_⟩) (fun b hb => rfl) (bs' := []) ?_ (by simp) (by simp) (by simp) (Nat.le_refl _) (fun b o _ h => h)
    · intro he; subst he; rw [freshC_mem hc x hcm] at hj; cases hj
    · refine ⟨by simp [upd, Value.ownBlock], [], ?_, fun i hi => by omega⟩
      simp only [upd, if_true]
      exact World.ownsRow_nil _ _ _ _

theorem RepIL.len {G : IM} : ∀ {cs : List AV} {ys : List Value}, RepIL G cs ys → ys.length = cs.length
  | [], ys, r => by simp only [RepIL] at r; subst r; rfl
  | d :: cs, ys, r => by
    simp only [RepIL] at r
    obtain ⟨z, zs, rfl, r1, r2, r3⟩ := r
    simp [RepIL.len r3]
theorem CellsAt.mk {G : IM} : ∀ {cs : List AV} {b o : Nat}, (∀ (j : Nat) (c : AV), cs[j]? = some c → ∃ z, G b (o + j) = some z ∧ RepI G c z ∧ z.oneCell' = true) → CellsAt G cs b o
  | [], _, _, _ => by simp [CellsAt]
  | c :: cs, b, o, h => by
    simp only [CellsAt]
    refine ⟨by simpa using h 0 c (by simp), CellsAt.mk (fun j d hd => ?_)⟩
    have := h (j + 1) d (by simpa using hd)
    rwa [show o + (j + 1) = o + 1 + j by omega] at this
theorem RepIL.mk {G : IM} : ∀ {cs : List AV} {ys : List Value}, ys.length = cs.length → (∀ (j : Nat) (c : AV), cs[j]? = some c → ∃ z, ys[j]? = some z ∧ RepI G c z ∧ z.oneCell' = true) → RepIL G cs ys
  | [], ys, hl, _ => by simp only [RepIL]; exact List.eq_nil_of_length_eq_zero hl
  | d :: cs, [], hl, _ => by simp at hl
  | d :: cs, y :: ys, hl, h => by
    simp only [RepIL]
    obtain ⟨z, h1, h2, h3⟩ := h 0 d (by simp)
    simp at h1; subst h1
    exact ⟨y, ys, rfl, h2, h3, RepIL.mk (by simpa using hl) fun j c hc => by simpa using h (j + 1) c (by simpa using hc)⟩

/-- A slice that is owned is given up: from now on it is read alone. -/
theorem Le.freeze {s : List (Nat × AV)} {c rest : List Ch} (i : Nat) {k : Nat} {t : TypeId} {esz m : Nat} {row : Nat → List AV} (hi : get s i = some (.own k)) (hk : takeCh k c = some (.vec k t esz m row, rest)) :
    Le X n ⟨s, c⟩ ⟨(i, .sl m esz row) :: s, rest⟩ := by
  intro e a w r
  have hh := r.heap.perm (takeCh_perm hk)
  obtain ⟨bs, ⟨hbs, xs, g1, g2⟩, _, hgood⟩ := hh.head
  obtain ⟨v, h1, h2⟩ := r.slots i _ hi
  simp only [Rep] at h2
  obtain ⟨rfl, _⟩ := h2
  have base : ∀ (f : Env), IM.le e.G f.G → f.μ = e.μ → f.hd = e.hd → RepI f.G (.sl m esz row) (e.hd k) → ImOK f.G w → (∀ b o v, f.G b o = some v → e.G b o = some v ∨ b ∈ bs) → Rel X n f ⟨(i, .sl m esz row) :: s, rest⟩ a w := by
    intro f hle hμ hhd hrep him hnew
    refine { r with slots := ?_, heap := ?_, im := him, le := IM.le_trans r.le hle, new := ?_, fix := by rw [hμ]; exact r.fix }
    · intro j x hx
      rw [get_cons] at hx
      by_cases hij : i = j
      · subst hij
        simp only [if_true, Option.some.injEq] at hx
        subst hx
        exact ⟨_, h1, RepI.toRep _ hrep⟩
      · rw [if_neg hij] at hx
        obtain ⟨v, q1, q2⟩ := r.slots j x hx
        exact ⟨v, q1, Rep.mono (e := e) (f := f) hle x (fun q _ => by rw [hμ, hhd]; exact ⟨rfl, rfl⟩) q2⟩
    · obtain ⟨pl, p1, p2, p3, p4⟩ := hh
      cases pl with
      | nil => simp at p1
      | cons p pl =>
        simp only [List.map_cons, List.cons.injEq] at p1
        simp only [List.flatMap_cons] at p3 p4
        have hp := p2 p (List.mem_cons_self ..)
        rw [p1.1] at hp
        have hpb : p.2 = bs := by rw [hp.1, hbs]
        obtain ⟨q1, q2, q3⟩ := List.nodup_append.1 p3
        refine ⟨pl, p1.2, fun q hq => ChOK.keep (e := e) hle q.1 (fun j _ => by rw [hμ, hhd]; exact ⟨rfl, rfl⟩) (fun b _ => rfl) (p2 q (List.mem_cons_of_mem _ hq)), q2, fun b hb => ?_⟩
        obtain ⟨s1, s2, s3⟩ := p4 b (List.mem_append.2 (.inr hb))
        refine ⟨s1, s2, fun o => ?_⟩
        cases hg : f.G b o with
        | none => rfl
        | some v =>
          rcases hnew b o v hg with h | h
          · rw [s3 o] at h; cases h
          · rw [← hpb] at h; exact absurd rfl (q3 b h b hb)
    · intro b o v hv
      rcases hnew b o v hv with h | h
      · exact r.new b o v h
      · exact .inr (hgood b h).2.1
  rcases g1.2 with ⟨hnil, hm⟩ | ⟨g, cap, cur, hsl, _, hg, hcap, hmax, hcs, htake⟩
  · refine ⟨e, base e (IM.le_refl _) rfl rfl ?_ r.im (fun b o v h => .inl h)⟩
    simp only [RepI]
    exact ⟨none, 0, by rw [hnil, hm], by omega, .inl hm⟩
  · have hbs' : bs = [g] := by rw [hbs, hsl]; rfl
    have hGg : ∀ o, e.G g o = none := (hgood g (by rw [hbs']; simp)).2.2
    let G' : IM := fun b o => if b = g ∧ o < m * esz then cur[o]? else e.G b o
    have hle : IM.le e.G G' := by
      intro b o v hv
      show (if b = g ∧ o < m * esz then cur[o]? else e.G b o) = some v
      rw [if_neg]
      · exact hv
      · rintro ⟨rfl, _⟩; rw [hGg o] at hv; cases hv
    refine ⟨{ e with G := G' }, base _ hle rfl rfl ?_ ?_ ?_⟩
    · simp only [RepI]
      refine ⟨some ⟨g, 0, none⟩, cap, hsl, hcap, .inr ⟨g, 0, rfl, fun q hq => CellsAt.mk (fun j c hc => ?_)⟩⟩
      obtain ⟨z, z1, z2, z3⟩ := (g2 q hq).get j c hc
      have hj : j < esz := by
        rcases Nat.lt_or_ge j esz with h | h
        · exact h
        · rw [List.getElem?_eq_none (by simp; omega)] at z1; cases z1
      have hlt : q * esz + j < m * esz := by
        have : (q + 1) * esz ≤ m * esz := Nat.mul_le_mul_right _ hq
        rw [Nat.add_mul] at this; omega
      refine ⟨z, ?_, RepI.mono hle c z2, z3⟩
      show (if g = g ∧ 0 + q * esz + j < m * esz then cur[0 + q * esz + j]? else e.G g (0 + q * esz + j)) = some z
      rw [Nat.zero_add, if_pos ⟨rfl, hlt⟩]
      rw [List.getElem?_take, if_pos hj, List.getElem?_drop, ← htake, List.getElem?_take, if_pos hlt] at z1
      simpa using z1
    · intro b o v hv
      have hv' : (if b = g ∧ o < m * esz then cur[o]? else e.G b o) = some v := hv
      split at hv'
      · rename_i hc
        obtain ⟨rfl, _⟩ := hc
        rw [cell_of_row w b o cur t (0, 0) hg]
        exact hv'
      · exact r.im b o v hv'
    · intro b o v hv
      have hv' : (if b = g ∧ o < m * esz then cur[o]? else e.G b o) = some v := hv
      split at hv'
      · rename_i hc; rw [hbs', hc.1]; exact .inr (by simp)
      · exact .inl hv'

/-- A slot said in other words. -/
theorem Le.conv {s : List (Nat × AV)} {c : List Ch} (i : Nat) {x y : AV} (hi : get s i = some x) (h : ∀ e v, Rep e x v → Rep e y v) : Le X n ⟨s, c⟩ ⟨(i, y) :: s, c⟩ := by
  intro e a w r
  refine ⟨e, { r with slots := ?_ }⟩
  intro j z hz
  rw [get_cons] at hz
  by_cases hij : i = j
  · subst hij
    simp only [if_true, Option.some.injEq] at hz
    subst hz
    obtain ⟨v, h1, h2⟩ := r.slots i _ hi
    exact ⟨v, h1, h e v h2⟩
  · rw [if_neg hij] at hz; exact r.slots j z hz

theorem Rep.nilsl {e : Env} {esz : Nat} {row : Nat → List AV} {v : Value} (h : Rep e (.v (.slice none 0 0)) v) : Rep e (.sl 0 esz row) v := by
  simp only [Rep, RepI] at h ⊢
  exact ⟨none, 0, h, Nat.le_refl _, .inl trivial⟩
theorem Rep.slrow {e : Env} {m esz : Nat} {row row2 : Nat → List AV} (hr : ∀ i, i < m → row i = row2 i) {v : Value} (h : Rep e (.sl m esz row) v) : Rep e (.sl m esz row2) v := by
  simp only [Rep, RepI] at h ⊢
  obtain ⟨aa, c, h1, h2, h3⟩ := h
  refine ⟨aa, c, h1, h2, ?_⟩
  rcases h3 with h3 | ⟨b, o, h3, h4⟩
  · exact .inl h3
  · exact .inr ⟨b, o, h3, fun i hi => by rw [← hr i hi]; exact h4 i hi⟩
end

/-- A chunk's rows said in other words. -/
theorem Le.vecrow {P : Program} {T : Tab} {X : Ctx P T} {n : Nat} {s : List (Nat × AV)} {c rest : List Ch} {k t esz m : Nat} {row : Nat → List AV} (m2 : Nat) (row2 : Nat → List AV) (hk : takeCh k c = some (.vec k t esz m row, rest))
    (hm : m = m2) (hr : ∀ i, i < m → row i = row2 i) : Le X n ⟨s, c⟩ ⟨s, .vec k t esz m2 row2 :: rest⟩ := by
  subst hm
  intro e a w r
  refine ⟨e, { r with slots := r.slots, heap := ?_ }⟩
  have hh := r.heap.perm (takeCh_perm hk)
  refine HeapOK.update hh (IM.le_refl _) (fun _ _ _ _ => ⟨rfl, rfl⟩) ?_ (Nat.le_refl _) (fun _ _ _ _ h => h)
  intro bs hc hnd hg
  obtain ⟨rfl, xs, g1, g2⟩ := hc
  exact ⟨fun _ _ _ => rfl, _, ⟨rfl, xs, g1, fun i hi => by rw [← hr i hi]; exact g2 i hi⟩, hnd, fun b hb => .inl hb, hg⟩

end Go.Sy
