/- The symbolic walk, part 10: slice literals, append. -/
import Derived.Test.YtgdlhcaidfokkaaSy9
set_option linter.unusedSimpArgs false
set_option linter.unusedVariables false
namespace Go.Sy
open Go.RowKit

section
variable {P : Program} {T : Tab} {X : Ctx P T} {n : Nat} {e : Env} {st : St} {a : Act} {w : World} {ops : Array Oper} {K : St → Prop}

/-- The owned slice of id d changes (or comes to be); its memory is new or was that of id k. -/
theorem Rel.vec (r : Rel X n e st a w) {d : Nat} {w' : World} {v' : Value} {t esz m : Nat} {row : Nat → List AV} {xs : List Value} {s : List (Nat × AV)} {c c' : List Ch} (old : Option Nat)
    (hd : Nat.blt d n = true) (hs : ∀ i x, get s i = some x → get st.s i = some x) (hf : freshS d s = true) (hc : freshC d c = true)
    (hheap : HeapOK X e w c) (hold : ∀ b, old = some b → b < w.heap.size ∧ (X.w0.heap.size ≤ b ∨ b ∈ X.bs) ∧ (∀ o, e.G b o = none))
    (hdis : ∀ b, old = some b → ∀ pl : List (Ch × List Nat), pl.map (·.1) = c → (∀ p ∈ pl, ChOK e w p.1 p.2) → b ∉ pl.flatMap (·.2))
    (hown : w'.ownsRow 0 t esz v' m xs) (hrows : RowsL e.G esz m row xs) (hg : w.grownBy w' old) (hblk : ∀ b, v'.ownBlock = some b → b < w'.heap.size ∧ (some b = old ∨ w.heap.size ≤ b)) :
    Rel X n { e with hd := upd e.hd d v' } ⟨(d, .own d) :: s, .vec d t esz m row :: c⟩ (a.put (some d) v') w' := by
  have hid : ∀ (k : Nat), k ≠ d → upd e.hd d v' k = e.hd k := fun k hk => by simp [upd, hk]
  have hnod : ∀ {x : AV}, x.no d = true → ∀ j, x.no j = false → j ≠ d := fun hx j hj he => by subst he; rw [hx] at hj; cases hj
  have hsl : ∃ aa nn cc, v' = .slice aa nn cc := by
    rcases hown.2 with ⟨h, _⟩ | ⟨g, cap, cur, h, _⟩
    · exact ⟨_, _, _, h⟩
    · exact ⟨_, _, _, h⟩
  have hkeepG : ∀ b o v, e.G b o = some v → w'.heap[b]? = w.heap[b]? := by
    intro b o v h
    refine hg.block b (r.glt b o v h) ?_
    intro he
    have := (hold b he.symm).2.2 o
    rw [h] at this; cases this
  have r1 : Rel X n { e with hd := upd e.hd d v' } ⟨s, .vec d t esz m row :: c⟩ a w' :=
    { defers := r.defers
      size := r.size
      slots := fun i x h => by
        obtain ⟨v, h1, h2⟩ := r.slots i x (hs i x h)
        exact ⟨v, h1, Rep.mono (e := e) (f := { e with hd := upd e.hd d v' }) (IM.le_refl _) x (fun j hj => ⟨rfl, hid j (hnod (freshS_get hf i x h) j hj)⟩) h2⟩
      im := fun b o v h => by
        have h1 := r.im b o v h
        simp only [World.cell?] at h1 ⊢
        rw [hkeepG b o v h]
        exact h1
      heap := by
        obtain ⟨pl, p1, p2, p3, p4⟩ := hheap
        refine ⟨(.vec d t esz m row, v'.ownBlock.toList) :: pl, by simp [p1], ?_, ?_, ?_⟩
        · intro q hq
          rcases List.mem_cons.1 hq with rfl | hq2
          · exact ⟨by simp [upd], xs, by simp only [upd, if_true]; exact hown, hrows⟩
          · refine ChOK.keep (e := e) (f := { e with hd := upd e.hd d v' }) (IM.le_refl _) q.1 (fun j hj => ⟨rfl, hid j ?_⟩) (fun b hb => ?_) (p2 q hq2)
            · intro he; subst he
              rw [freshC_mem hc q.1 (by rw [← p1]; exact List.mem_map.2 ⟨q, hq2, rfl⟩)] at hj; cases hj
            · have hbf : b ∈ pl.flatMap (·.2) := List.mem_flatMap.2 ⟨q, hq2, hb⟩
              refine hg.block b (p4 b hbf).1 (fun he => ?_)
              exact hdis b he.symm pl p1 p2 hbf
        · simp only [List.flatMap_cons]
          refine List.nodup_append.2 ⟨?_, p3, ?_⟩
          · cases v'.ownBlock <;> simp
          · rintro b hb b' hbf rfl
            have hb' : v'.ownBlock = some b := by
              cases hv : v'.ownBlock with
              | none => rw [hv] at hb; simp at hb
              | some g => rw [hv] at hb; simp at hb; rw [hb]
            rcases (hblk b hb').2 with h | h
            · exact hdis b h.symm pl p1 p2 hbf
            · exact absurd (p4 b hbf).1 (by omega)
        · intro b hb
          simp only [List.flatMap_cons] at hb
          rcases List.mem_append.1 hb with hb | hb
          · have hb' : v'.ownBlock = some b := by
              cases hv : v'.ownBlock with
              | none => rw [hv] at hb; simp at hb
              | some g => rw [hv] at hb; simp at hb; rw [hb]
            obtain ⟨q1, q2⟩ := hblk b hb'
            rcases q2 with h | h
            · exact ⟨q1, (hold b h.symm).2⟩
            · refine ⟨q1, .inl (Nat.le_trans r.sz h), fun o => ?_⟩
              cases hgg : e.G b o with
              | none => rfl
              | some v => exact absurd (r.glt _ _ _ hgg) (by omega)
          · obtain ⟨q1, q2, q3⟩ := p4 b hb
            exact ⟨Nat.lt_of_lt_of_le q1 hg.size, q2, q3⟩
      le := r.le
      new := r.new
      os := hg.os.trans r.os
      tape := hg.tape.trans r.tape
      output := hg.output.trans r.output
      sz := Nat.le_trans r.sz hg.size
      fix := r.fix
      keep := fun b hb hbs => by
        rw [hg.block b (Nat.lt_of_lt_of_le hb r.sz)]
        · exact r.keep b hb hbs
        · intro he
          rcases (hold b he.symm).2.1 with h | h
          · omega
          · exact hbs h }
  have := r1.put (d := d) (x := .own d) (v := v') hd (by simp only [Rep, upd, if_true]; exact ⟨trivial, hsl⟩)
  exact this

theorem append_block (t ty el : Nat) (i : TypeInfo) (z : Value) (ht : P.underlying t = some (.slice el)) (hi : P.info? el = some i) (hz : i.zero = some z)
    (v : Value) (n : Nat) (xs : List Value) (hown : w.ownsRow 0 el i.size v n xs)
    (ad : Addr) (m c : Nat) (news : List Value) (hl : news.length = m * i.size) (hnews : ∀ (j : Nat) (u : Value), news[j]? = some u → w.cell? (ad.add j) = some u) (h1 : ∀ u ∈ news, u.oneCell' = true)
    (h63 : n + m ≤ maxLen) (hbytes : (n + m) * i.bytes ≤ 140737488355328) {v' : Value} {w' : World} (hr : (Builtin.append_ #[t, t] ty #[v, .slice (some ad) m c]).run P w = .ok v' w') :
    ∀ b, v'.ownBlock = some b → some b = v.ownBlock ∨ w.heap.size ≤ b := by
  have hsmall : n + m ≤ 9223372036854775807 := by simp only [maxLen] at h63; omega
  rcases hown.2 with ⟨rfl, rfl⟩ | ⟨g, cap, cur, rfl, hbg, hg, hnc, hcm, hcs, htake⟩
  · by_cases hm : m = 0
    · subst hm
      have hn : news = [] := List.eq_nil_of_length_eq_zero (by simpa using hl)
      subst hn
      have : (Builtin.append_ #[t, t] ty #[.slice none 0 0, .slice (some ad) 0 c]).run P w = .ok (.slice none 0 0) w := by
        simp [Builtin.append_, run_underlying ht, sizeOf, typeInfo, hi, Builtin.lenOf, Builtin.firstCells, loadCells, loadCellsFrom]
      rw [this] at hr
      simp only [Result.ok.injEq] at hr
      obtain ⟨rfl, rfl⟩ := hr
      intro b hb; simp [Value.ownBlock] at hb
    · have hr' := run_append_nil (P := P) w t ty el i z ht hi hz ad m c news hl hnews (by omega) (by omega) (by have hb := hbytes; simp only [Nat.zero_add] at hb; omega)
      rw [hr'] at hr
      simp only [Result.ok.injEq] at hr
      obtain ⟨rfl, _⟩ := hr
      intro b hb; simp [Value.ownBlock] at hb; omega
  · by_cases hroom : n + m ≤ cap
    · have hfit : n * i.size + news.length ≤ cur.size := by rw [hl, hcs, ← Nat.add_mul]; exact Nat.mul_le_mul_right _ hroom
      have hr' := run_append_room (P := P) w t ty el i ht hi g n cap cur hg ad m c news hl hnews h1 hroom hfit
      rw [hr'] at hr
      simp only [Result.ok.injEq] at hr
      obtain ⟨rfl, _⟩ := hr
      intro b hb; exact .inl hb.symm
    · have holds : ∀ (j : Nat) (u : Value), xs[j]? = some u → w.cell? ((⟨g, 0, none⟩ : Addr).add j) = some u := hown.cells (g := g) rfl
      have hr' := run_append_grow (P := P) w t ty el i z ht hi hz ⟨g, 0, none⟩ n cap xs hown.1 holds ad m c news hl hnews (by omega) (by omega) (growslice_fits (by omega) hbytes)
      rw [hr'] at hr
      simp only [Result.ok.injEq] at hr
      obtain ⟨rfl, _⟩ := hr
      intro b hb; simp [Value.ownBlock] at hb; omega

def appRow (n : Nat) (row row2 : Nat → List AV) : Nat → List AV := fun i => if i < n then row i else row2 (i - n)

theorem rows_app {G : IM} {esz m m2 : Nat} {row row2 : Nat → List AV} {xs ys : List Value} (hx : xs.length = m * esz) (h1 : RowsL G esz m row xs) (h2 : RowsL G esz m2 row2 ys) :
    RowsL G esz (m + m2) (appRow m row row2) (xs ++ ys) := by
  intro i hi
  unfold appRow
  split
  · rename_i hlt
    have hle : i * esz + esz ≤ xs.length := by
      rw [hx]; have := Nat.mul_le_mul_right esz hlt; rw [Nat.succ_mul] at this; exact this
    rw [List.drop_append_of_le_length (by omega), List.take_append_of_le_length (by simp; omega)]
    exact h1 i hlt
  · rename_i hge
    have : i * esz = xs.length + (i - m) * esz := by
      rw [hx, ← Nat.add_mul]; congr 1; omega
    have hdr : (xs ++ ys).drop (xs.length + (i - m) * esz) = ys.drop ((i - m) * esz) := by simp [List.drop_append]
    rw [this, hdr]
    exact h2 (i - m) (by omega)

theorem append_none (t ty el : Nat) (i : TypeInfo) (ht : P.underlying t = some (.slice el)) (hi : P.info? el = some i) (v : Value) {size : Nat} (n : Nat) (xs : List Value) (hown : w.ownsRow 0 el size v n xs) (cc : Nat) :
    (Builtin.append_ #[t, t] ty #[v, .slice none 0 cc]).run P w = .ok v w := by
  rcases hown.2 with ⟨rfl, rfl⟩ | ⟨g, cap, cur, rfl, hbg, hg, hnc, hcm, hcs, htake⟩
  · simp [Builtin.append_, run_underlying ht, sizeOf, typeInfo, hi, Builtin.lenOf, Builtin.firstCells]
  · simp [Builtin.append_, run_underlying ht, sizeOf, typeInfo, hi, Builtin.lenOf, Builtin.firstCells, storeCells, hnc]

/-- append(s, x...): s owned (or made so), x owned too, or read-only. The rows of the outcome may be said in other words. -/
theorem O_append {dst : Nat} {so_ xo : Operand} {t ty : TypeId} {pos : String} {aft : Array Edge} {rest : List Oper} {s s2 : List (Nat × AV)} {c r1 : List Ch} {k : Nat} {el esz m m2 m3 : Nat} {row row2 row3 : Nat → List AV} {by_ : Nat} {sz0 b0 : Nat} {ag0 ag1 : Bool} {z0 z1 : List Value} {d1 : TD}
    (hTs : T t = some ⟨sz0, b0, ag0, z0, .slice el⟩) (hTe : T el = some ⟨esz, by_, ag1, z1, d1⟩) (hpos : Nat.blt 0 esz = true)
    (hso : opd s so_ = some (.own k)) (hk : takeCh k c = some (.vec k el esz m row, r1))
    (hsrc : ∀ e a w, Rel X n e ⟨s, c⟩ a w → (∃ ad cc news, a.eval xo = .slice (some ad) m2 cc ∧ news.length = m2 * esz ∧ (∀ (j : Nat) (u : Value), news[j]? = some u → w.cell? (ad.add j) = some u) ∧ (∀ u ∈ news, u.oneCell' = true) ∧ RowsL e.G esz m2 row2 news) ∨
      (m2 = 0 ∧ ∃ cc, a.eval xo = .slice none 0 cc))
    (hd : Nat.blt dst n = true) (hs2 : subS s2 s) (hf : freshS dst s2 = true) (hfc : freshC dst r1 = true)
    (hlen : (m + m2) * by_ ≤ 140737488355328) (hlen2 : m + m2 ≤ maxLen)
    (hm3 : m3 = m + m2) (hrow3 : ∀ i, i < m3 → appRow m row row2 i = row3 i)
    (h : SymO X n ops rest ⟨(dst, .own dst) :: s2, .vec dst el esz m3 row3 :: r1⟩ K) :
    SymO X n ops (⟨some dst, .call ⟨.builtin .append, #[so_, xo], #[t, t]⟩, ty, pos, aft, none⟩ :: rest) ⟨s, c⟩ K := by
  subst hm3
  intro e a w Q r hq
  obtain ⟨pi, z, i1, i2, i3, i4, i5, i6, i7⟩ := (X.ok _ _ hTe).info
  obtain ⟨dd, e1, _, e3⟩ := (X.ok _ _ hTs).desc
  simp only [TDOK] at e3
  subst e3
  have hso' := opd_sound r hso
  simp only [Rep] at hso'
  obtain ⟨hso', _⟩ := hso'
  have hh := r.heap.perm (takeCh_perm hk)
  obtain ⟨bs, ⟨hbs, xs, g1, g2⟩, _, hgood⟩ := hh.head
  have hzs : z.cells.size = esz := by
    have : z.cells.toList.length = esz := by rw [i5]; exact i7
    simpa using this
  have hpos' : 0 < esz := by have := hpos; simp [Nat.blt] at this; omega
  have hold : ∀ b, (e.hd k).ownBlock = some b → b < w.heap.size ∧ (X.w0.heap.size ≤ b ∨ b ∈ X.bs) ∧ (∀ o, e.G b o = none) := fun b hb => hgood b (by rw [hbs, hb]; simp)
  have hdis : ∀ b, (e.hd k).ownBlock = some b → ∀ pl : List (Ch × List Nat), pl.map (·.1) = r1 → (∀ p ∈ pl, ChOK e w p.1 p.2) → b ∉ pl.flatMap (·.2) := by
    intro b hb pl hpl hok hin
    obtain ⟨pl', p1, p2, p3, p4⟩ := hh
    cases pl' with
    | nil => simp at p1
    | cons p pl' =>
      simp only [List.map_cons, List.cons.injEq] at p1
      simp only [List.flatMap_cons] at p3
      have hp := p2 p (List.mem_cons_self ..)
      rw [p1.1] at hp
      have heq : pl' = pl := by
        have key : ∀ (l1 l2 : List (Ch × List Nat)), l1.map (·.1) = l2.map (·.1) → (∀ p ∈ l1, ChOK e w p.1 p.2) → (∀ p ∈ l2, ChOK e w p.1 p.2) → l1 = l2 := by
          intro l1
          induction l1 with
          | nil => intro l2 h _ _; cases l2 with
            | nil => rfl
            | cons _ _ => simp at h
          | cons q l1 ih =>
            intro l2 h h1 h2
            cases l2 with
            | nil => simp at h
            | cons q2 l2 =>
              simp only [List.map_cons, List.cons.injEq] at h
              have e1 := h1 q (List.mem_cons_self ..)
              have e2 := h2 q2 (List.mem_cons_self ..)
              rw [← h.1] at e2
              have : q.2 = q2.2 := by
                cases hc : q.1 with
                | box k T cells => rw [hc] at e1 e2; rw [e1.1, e2.1]
                | vec k T esz n row => rw [hc] at e1 e2; rw [e1.1, e2.1]
                | obj k o => rw [hc] at e1 e2; rw [e1.1, e2.1]
                | abs A => rw [hc] at e1 e2; rw [e1.1, e2.1]
              rw [ih l2 h.2 (fun p hp => h1 p (List.mem_cons_of_mem _ hp)) (fun p hp => h2 p (List.mem_cons_of_mem _ hp))]
              congr 1
              exact Prod.ext h.1 this
        exact key pl' pl (by rw [p1.2, hpl]) (fun p hp => p2 p (List.mem_cons_of_mem _ hp)) hok
      subst heq
      have := (List.nodup_append.1 p3).2.2 b (by rw [hp.1, hb]; simp) b hin
      exact this rfl
  have hrowsOut : ∀ {news : List Value}, RowsL e.G esz m2 row2 news → RowsL e.G esz (m + m2) row3 (xs ++ news) := fun hn i hi => by
    rw [← hrow3 i hi]; exact rows_app g1.1 g2 hn i hi
  rcases hsrc e a w r with ⟨ad, cc, news, hx, hl, hnews, h1, hrn⟩ | ⟨hm2, cc, hx⟩
  · obtain ⟨v', w', hr, q2, q3, q4⟩ := run_append_own (P := P) w 0 t ty el pi z esz by_ e1 i1 i4 i2 i3 hzs hpos' (e.hd k) m xs g1 ad m2 cc news hl hnews h1 hlen2 hlen (Nat.zero_le _)
    unfold wpList
    rw [if_pos (by simp [Region.wanted])]
    refine .inl ?_
    unfold Oper.wp
    have hrun : (execOp a.eval ⟨some dst, .call ⟨.builtin .append, #[so_, xo], #[t, t]⟩, ty, pos, aft, none⟩).run P w = .ok (.value v') w' := by
      simp only [execOp, resolve, invoke, builtin, Sem.run_bind, Sem.run_pure, Result.andThen_ok, List.map_toArray, List.map_cons, List.map_nil, hso', hx, hr]
    rw [hrun]
    have hblk : ∀ b, v'.ownBlock = some b → b < w'.heap.size ∧ (some b = (e.hd k).ownBlock ∨ w.heap.size ≤ b) := by
      intro b hb
      refine ⟨(q2.lt b hb).2, ?_⟩
      simp only at i2 i3
      subst i2 i3
      exact append_block t ty el pi z e1 i1 i4 (e.hd k) m xs g1 ad m2 cc news hl hnews h1 hlen2 hlen hr b hb
    have r2 := r.vec (d := dst) (w' := w') (v' := v') (t := el) (esz := esz) (m := m + m2) (row := row3) (xs := xs ++ news) (s := s2) (c := r1) (c' := r1) (e.hd k).ownBlock hd
      (fun i x hi => subS_get hs2 i x hi) hf hfc hh.drop hold hdis q2 (hrowsOut hrn) q3 hblk
    exact h _ _ w' Q r2 hq
  · subst hm2
    have hrun0 := append_none t ty el pi e1 i1 (e.hd k) m xs g1 cc
    unfold wpList
    rw [if_pos (by simp [Region.wanted])]
    refine .inl ?_
    unfold Oper.wp
    have hrun : (execOp a.eval ⟨some dst, .call ⟨.builtin .append, #[so_, xo], #[t, t]⟩, ty, pos, aft, none⟩).run P w = .ok (.value (e.hd k)) w := by
      simp only [execOp, resolve, invoke, builtin, Sem.run_bind, Sem.run_pure, Result.andThen_ok, List.map_toArray, List.map_cons, List.map_nil, hso', hx, hrun0]
    rw [hrun]
    have hrn : RowsL e.G esz 0 row2 ([] : List Value) := fun i hi => by omega
    have r2 := r.vec (d := dst) (w' := w) (v' := e.hd k) (t := el) (esz := esz) (m := m + 0) (row := row3) (xs := xs ++ []) (s := s2) (c := r1) (c' := r1) (e.hd k).ownBlock hd
      (fun i x hi => subS_get hs2 i x hi) hf hfc hh.drop hold hdis (by simpa using g1) (hrowsOut hrn) ⟨rfl, rfl, rfl, Nat.le_refl _, fun _ _ _ => rfl⟩ (fun b hb => ⟨(hold b hb).1, .inl hb.symm⟩)
    exact h _ _ w Q r2 hq
/-- A read-only source. -/
theorem src_sl {s : List (Nat × AV)} {c : List Ch} {xo : Operand} {m esz : Nat} {row : Nat → List AV} (hx : opd s xo = some (.sl m esz row)) (hr : ∀ i, i < m → (row i).length = esz) :
    ∀ e a w, Rel X n e ⟨s, c⟩ a w → (∃ ad cc news, a.eval xo = .slice (some ad) m cc ∧ news.length = m * esz ∧ (∀ (j : Nat) (u : Value), news[j]? = some u → w.cell? (ad.add j) = some u) ∧ (∀ u ∈ news, u.oneCell' = true) ∧ RowsL e.G esz m row news) ∨
      (m = 0 ∧ ∃ cc, a.eval xo = .slice none 0 cc) := by
  intro e a w r
  have h := opd_sound r hx
  simp only [Rep, RepI] at h
  obtain ⟨aa, cc, h1, h2, h3⟩ := h
  rcases Nat.eq_zero_or_pos m with hm | hm
  · subst hm
    cases aa with
    | none => exact .inr ⟨rfl, cc, h1⟩
    | some ad => exact .inl ⟨ad, cc, [], h1, by simp, by simp, by simp, fun i hi => by omega⟩
  · rcases h3 with h3 | ⟨b, o, rfl, h3⟩
    · omega
    · have hz : ∀ j, j < m * esz → ∃ z c, (row (j / esz))[j % esz]? = some c ∧ e.G b (o + j) = some z ∧ RepI e.G c z ∧ z.oneCell' = true := by
        intro j hj
        have hpos : 0 < esz := by
          rcases Nat.eq_zero_or_pos esz with h | h
          · subst h; simp at hj
          · exact h
        have hi : j / esz < m := by rw [Nat.div_lt_iff_lt_mul hpos]; exact hj
        have hjj := Nat.mod_lt j hpos
        have hc : (row (j / esz))[j % esz]? = some ((row (j / esz))[j % esz]'(by rw [hr _ hi]; exact hjj)) := List.getElem?_eq_getElem _
        obtain ⟨z, z1, z2, z3⟩ := (h3 _ hi).get _ _ hc
        have he : o + j / esz * esz + j % esz = o + j := by have := Nat.div_add_mod' j esz; omega
        rw [he] at z1
        exact ⟨z, _, hc, z1, z2, z3⟩
      have getm : ∀ {j : Nat} {u : Value}, ((List.range (m * esz)).map fun j => (e.G b (o + j)).getD undef)[j]? = some u → j < m * esz ∧ u = (e.G b (o + j)).getD undef := by
        intro j u hu
        rw [List.getElem?_map] at hu
        rcases Nat.lt_or_ge j (m * esz) with h | h
        · rw [List.getElem?_range h] at hu
          simp only [Option.map_some, Option.some.injEq] at hu
          exact ⟨h, hu.symm⟩
        · rw [List.getElem?_eq_none (by simpa using h)] at hu; cases hu
      refine .inl ⟨_, cc, (List.range (m * esz)).map fun j => (e.G b (o + j)).getD undef, h1, by simp, ?_, ?_, ?_⟩
      · intro j u hu
        obtain ⟨hj, hu⟩ := getm hu
        have hadd : (⟨b, o, none⟩ : Addr).add j = ⟨b, o + j, none⟩ := add_addr b o j
        obtain ⟨z, c, _, z2, z3, z4⟩ := hz j hj
        rw [hadd, hu, z2]
        exact r.im _ _ _ z2
      · intro u hu
        obtain ⟨j, hju⟩ := List.getElem?_of_mem hu
        obtain ⟨hj, hu'⟩ := getm hju
        obtain ⟨z, c, _, z2, z3, z4⟩ := hz j hj
        rw [hu', z2]
        exact z4
      · intro i hi
        refine RepIL.mk ?_ (fun j c hc => ?_)
        · have hle : i * esz + esz ≤ m * esz := by have := Nat.mul_le_mul_right esz hi; rw [Nat.succ_mul] at this; exact this
          simp [hr i hi]; omega
        · have hj : j < esz := by
            rcases Nat.lt_or_ge j esz with h | h
            · exact h
            · rw [List.getElem?_eq_none (by rw [hr i hi]; exact h)] at hc; cases hc
          obtain ⟨z, z1, z2, z3⟩ := (h3 i hi).get j c hc
          have hle : i * esz + esz ≤ m * esz := by have := Nat.mul_le_mul_right esz hi; rw [Nat.succ_mul] at this; exact this
          refine ⟨z, ?_, z2, z3⟩
          rw [List.getElem?_take, if_pos hj, List.getElem?_drop, List.getElem?_map, List.getElem?_range (by omega)]
          simp only [Option.map_some]
          rw [← Nat.add_assoc, z1]; rfl
end
end Go.Sy
