/- The symbolic walk, part 16: lists that grow by one. -/
import Derived.Test.YtgdlhcaidfokkaaSy15
set_option linter.unusedSimpArgs false
set_option linter.unusedVariables false
namespace Go.Sy
open Go.RowKit

/-- An owned slice of a typed list. -/
abbrev VEC {α : Type} [Inhabited α] (k t esz : Nat) (cells : α → List AV) (l : List α) : Ch := .vec k t esz l.length (fun i => cells (l.getD i default))

theorem getD_snoc_lt {α : Type} {d : α} {l : List α} {x : α} {i : Nat} (h : i < l.length) : (l ++ [x]).getD i d = l.getD i d := by
  simp [List.getD, List.getElem?_append_left h]
theorem getD_snoc_eq {α : Type} {d : α} {l : List α} {x : α} : (l ++ [x]).getD l.length d = x := by
  simp [List.getD]

section
variable {P : Program} {T : Tab} {X : Ctx P T} {n : Nat} {e : Env} {st : St} {a : Act} {w : World} {ops : Array Oper} {K : St → Prop}

theorem O_push {α : Type} [Inhabited α] (cells : α → List AV) (l : List α) (x : α) {dst : Nat} {so_ xo : Operand} {t ty : TypeId} {pos : String} {aft : Array Edge} {rest : List Oper} {s : List (Nat × AV)} {c r1 r2 : List Ch} {k j : Nat} {el esz : Nat} {row2 : Nat → List AV} {by_ : Nat} {sz0 b0 : Nat} {ag0 ag1 : Bool} {z0 z1 : List Value} {d1 : TD}
    (s2 : List (Nat × AV))
    (hTs : T t = some ⟨sz0, b0, ag0, z0, .slice el⟩) (hTe : T el = some ⟨esz, by_, ag1, z1, d1⟩) (hpos : Nat.blt 0 esz = true)
    (hso : opd s so_ = some (.own k)) (hk : takeCh k c = some (VEC k el esz cells l, r1))
    (hxo : opd s xo = some (.own j)) (hj : takeCh j c = some (.vec j el esz 1 row2, r2)) (hx : row2 0 = cells x) (hxl : (cells x).length = esz)
    (hd : Nat.blt dst n = true) (hs2 : subS s2 s) (hf : freshS dst s2 = true) (hfc : freshC dst r1 = true)
    (hlen : (l.length + 1) * by_ ≤ 140737488355328) (hlen2 : l.length + 1 ≤ maxLen)
    (h : SymO X n ops rest ⟨(dst, .own dst) :: s2, VEC dst el esz cells (l ++ [x]) :: r1⟩ K) :
    SymO X n ops (⟨some dst, .call ⟨.builtin .append, #[so_, xo], #[t, t]⟩, ty, pos, aft, none⟩ :: rest) ⟨s, c⟩ K := by
  have hr2 : ∀ i, i < 1 → (row2 i).length = esz := fun i hi => by
    obtain rfl : i = 0 := by omega
    rw [hx]; exact hxl
  refine O_append (m3 := (l ++ [x]).length) (row3 := fun i => cells ((l ++ [x]).getD i default)) (m2 := 1) (row2 := row2) (s2 := s2) hTs hTe hpos hso hk (src_own hxo hj hr2) hd hs2 hf hfc hlen hlen2 (by simp) (fun i hi => ?_) h
  simp only [List.length_append, List.length_singleton] at hi
  unfold appRow
  by_cases h : i < l.length
  · rw [if_pos h]
    simp only [getD_snoc_lt h]
  · rw [if_neg h]
    obtain rfl : i = l.length := by omega
    rw [Nat.sub_self, hx]
    simp only [getD_snoc_eq]

/-- A nil slice may be grown: typed. -/
theorem Le.nilvec {α : Type} [Inhabited α] (cells : α → List AV) {s : List (Nat × AV)} {c : List Ch} (i d : Nat) (t : TypeId) (esz : Nat) (hi : get s i = some (.v (.slice none 0 0))) (hf : freshS d s = true) (hc : freshC d c = true) :
    Le X n ⟨s, c⟩ ⟨(i, .own d) :: s, VEC d t esz cells ([] : List α) :: c⟩ := Le.nilown i d t esz _ hi hf hc

/-- Frozen: a typed list. -/
theorem Le.freezeL {α : Type} [Inhabited α] {cells : α → List AV} {l : List α} {s : List (Nat × AV)} {c rest : List Ch} (i : Nat) {k : Nat} {t : TypeId} {esz : Nat} (hi : get s i = some (.own k)) (hk : takeCh k c = some (VEC k t esz cells l, rest)) :
    Le X n ⟨s, c⟩ ⟨(i, SL esz cells l) :: s, rest⟩ := Le.freeze i hi hk

theorem O_join {l : List Oper} (s2 : St) (h1 : SymO X n ops l st (fun s => Le X n s s2)) (h2 : ∀ s, Le X n s s2 → K s) : SymO X n ops l st K :=
  fun e a w Q r hq => h1 e a w Q r (fun e' st' a' w' hk hr => hq e' st' a' w' (h2 st' hk) hr)

/-- An owned slice under another id. -/
theorem Le.rename {s s2 : List (Nat × AV)} {c rest : List Ch} (i k' : Nat) {k t esz m : Nat} {row : Nat → List AV} (hi : get s i = some (.own k)) (hk : takeCh k c = some (.vec k t esz m row, rest))
    (hs2 : subS s2 s) (hf : freshS k' s2 = true) (hfc : freshC k' rest = true) : Le X n ⟨s, c⟩ ⟨(i, .own k') :: s2, .vec k' t esz m row :: rest⟩ := by
  intro e a w r
  have hnod : ∀ {x : AV}, x.no k' = true → ∀ j, x.no j = false → j ≠ k' := fun hx j hj he => by subst he; rw [hx] at hj; cases hj
  have hid : ∀ (q : Nat), q ≠ k' → upd e.hd k' (e.hd k) q = e.hd q := fun q hq => by simp [upd, hq]
  have hh := r.heap.perm (takeCh_perm hk)
  refine ⟨{ e with hd := upd e.hd k' (e.hd k) }, { r with slots := ?_, heap := ?_ }⟩
  · intro j x hx
    rw [get_cons] at hx
    by_cases hij : i = j
    · subst hij
      simp only [if_true, Option.some.injEq] at hx
      subst hx
      obtain ⟨v, h1, h2⟩ := r.slots i _ hi
      simp only [Rep] at h2
      refine ⟨_, h1, ?_⟩
      simp only [Rep, upd, if_true]
      exact h2
    · rw [if_neg hij] at hx
      obtain ⟨v, h1, h2⟩ := r.slots j x (subS_get hs2 j x hx)
      exact ⟨v, h1, Rep.mono (e := e) (f := { e with hd := upd e.hd k' (e.hd k) }) (IM.le_refl _) x (fun q hq => ⟨rfl, hid q (hnod (freshS_get hf j x hx) q hq)⟩) h2⟩
  · refine HeapOK.update hh (IM.le_refl _) (fun x hcm j hj => ⟨rfl, hid j ?_⟩) ?_ (Nat.le_refl _) (fun _ _ _ _ h => h)
    · intro he; subst he; rw [freshC_mem hfc x hcm] at hj; cases hj
    · intro bs hc hnd hg
      obtain ⟨rfl, xs, g1, g2⟩ := hc
      exact ⟨fun _ _ _ => rfl, _, ⟨by simp [upd], xs, by simpa [upd] using g1, g2⟩, hnd, fun b hb => .inl hb, hg⟩
end
end Go.Sy
