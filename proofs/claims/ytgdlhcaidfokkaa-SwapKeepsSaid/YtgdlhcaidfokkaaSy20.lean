/- The symbolic walk, part 20: a box that is read alone from now on; arrays sliced. -/
import Derived.Test.YtgdlhcaidfokkaaSy19
set_option linter.unusedSimpArgs false
set_option linter.unusedVariables false
namespace Go.Sy
open Go.RowKit

section
variable {P : Program} {T : Tab} {X : Ctx P T} {n : Nat} {e : Env} {st : St} {a : Act} {w : World} {ops : Array Oper} {K : St → Prop}

/-- A box that is owned is given up: from now on it is read alone. -/
theorem Le.freezebox {s : List (Nat × AV)} {c rest : List Ch} (i : Nat) {k kk : Nat} {t : TypeId} {cells : List AV} (hi : get s i = some (.bp k 0)) (hk : takeCh k c = some (.box kk t cells, rest)) (himm : AV.imm.immL cells = true) :
    Le X n ⟨s, c⟩ ⟨(i, .cp cells) :: s, rest⟩ := by
  intro e a w r
  have hkk : kk = k := kid_of_take hk
  subst hkk
  have hh := r.heap.perm (takeCh_perm hk)
  obtain ⟨bs, ⟨hbs, arr, g1, g2⟩, _, hgood⟩ := hh.head
  obtain ⟨v, h1, h2⟩ := r.slots i _ hi
  simp only [Rep] at h2
  subst h2
  have hGg : ∀ o, e.G (e.μ kk) o = none := (hgood (e.μ kk) (by rw [hbs]; simp)).2.2
  let G' : IM := fun b o => if b = e.μ kk then arr.toList[o]? else e.G b o
  have hle : IM.le e.G G' := by
    intro b o v hv
    show (if b = e.μ kk then arr.toList[o]? else e.G b o) = some v
    rw [if_neg]
    · exact hv
    · rintro rfl; rw [hGg o] at hv; cases hv
  have hnew : ∀ b o v, G' b o = some v → e.G b o = some v ∨ b ∈ bs := by
    intro b o v hv
    have hv' : (if b = e.μ kk then arr.toList[o]? else e.G b o) = some v := hv
    split at hv'
    · rename_i hc; rw [hbs, hc]; exact .inr (by simp)
    · exact .inl hv'
  refine ⟨{ e with G := G' }, { r with slots := ?sl, heap := ?hp, im := ?im, le := IM.le_trans r.le hle, new := ?nw }⟩
  case sl =>
    intro j x hx
    rw [get_cons] at hx
    by_cases hij : i = j
    · subst hij
      simp only [if_true, Option.some.injEq] at hx
      subst hx
      refine ⟨_, h1, ?_⟩
      simp only [Rep, RepI]
      refine ⟨e.μ kk, 0, rfl, CellsAt.mk (fun j x hx => ?_)⟩
      obtain ⟨z, z1, z2, z3⟩ := (RepL.toI cells himm g2).get j x hx
      refine ⟨z, ?_, RepI.mono hle x z2, z3⟩
      show (if e.μ kk = e.μ kk then arr.toList[0 + j]? else e.G (e.μ kk) (0 + j)) = some z
      rw [if_pos rfl, Nat.zero_add]
      exact z1
    · rw [if_neg hij] at hx
      obtain ⟨v, q1, q2⟩ := r.slots j x hx
      exact ⟨v, q1, Rep.mono (e := e) (f := { e with G := G' }) hle x (fun q _ => ⟨rfl, rfl⟩) q2⟩
  case hp =>
    obtain ⟨pl, p1, p2, p3, p4⟩ := hh
    cases pl with
    | nil => simp at p1
    | cons p pl =>
      simp only [List.map_cons, List.cons.injEq] at p1
      simp only [List.flatMap_cons] at p3 p4
      have hp := p2 p (List.mem_cons_self ..)
      rw [p1.1] at hp
      have hpb : p.2 = bs := by rw [hp.1, hbs]
      obtain ⟨q1, q2, q3⟩ := List.nodup_append.1 p3
      refine ⟨pl, p1.2, fun q hq => ChOK.keep (e := e) hle q.1 (fun j _ => ⟨rfl, rfl⟩) (fun b _ => rfl) (p2 q (List.mem_cons_of_mem _ hq)), q2, fun b hb => ?_⟩
      obtain ⟨s1, s2, s3⟩ := p4 b (List.mem_append.2 (.inr hb))
      refine ⟨s1, s2, fun o => ?_⟩
      show G' b o = none
      cases hg : G' b o with
      | none => rfl
      | some v =>
        rcases hnew b o v hg with h | h
        · rw [s3 o] at h; cases h
        · rw [← hpb] at h; exact absurd rfl (q3 b h b hb)
  case im =>
    intro b o v hv
    have hv' : (if b = e.μ kk then arr.toList[o]? else e.G b o) = some v := hv
    split at hv'
    · rename_i hc
      subst hc
      rw [cell_of_row w _ o arr t (0, 0) g1]
      simpa using hv'
    · exact r.im b o v hv'
  case nw =>
    intro b o v hv
    rcases hnew b o v hv with h | h
    · exact r.new b o v h
    · exact .inr (hgood b h).2.1

def arrA (T : Tab) (st : St) : Op → Option AV
  | .slice t x none none none => (match T t, opd st.s x with
    | some ⟨_, _, _, _, .arr len el⟩, some (.cp cells) => (match T el with
      | some ti => (match Nat.beq cells.length (len * ti.size) with
        | true => some (.sl len ti.size (chunkRow ti.size cells))
        | false => none)
      | none => none)
    | _, _ => none)
  | _ => none

theorem CellsAt.get' {G : IM} {cs : List AV} {b o : Nat} (h : CellsAt G cs b o) (j : Nat) (x : AV) (hx : cs[j]? = some x) : ∃ z, G b (o + j) = some z ∧ RepI G x z ∧ z.oneCell' = true := h.get j x hx

theorem arrA_sound (r : Rel X n e st a w) {o : Oper} {av : AV} (h : arrA T st o.op = some av) : ∃ v, Rep e av v ∧ ∀ w', SameAs w w' → (execOp a.eval o).run P w' = .ok (.value v) w' := by
  have hT := X.ok
  obtain ⟨dst, op, ty, pos, aft, gd⟩ := o
  simp only at h
  unfold arrA at h
  split at h
  · rename_i t x
    split at h
    · rename_i s1 s2 g1 z1 len el cells hTt hx
      split at h
      · rename_i ti hTe
        split at h
        · rename_i hlen
          have hlen := Nat.eq_of_beq_eq_true hlen
          simp only [Option.some.injEq] at h
          subst h
          have := opd_sound r hx
          simp only [Rep, RepI] at this
          obtain ⟨b, o, hx', hc⟩ := this
          obtain ⟨d, e4, _, e5⟩ := (hT _ _ hTt).desc
          simp only [TDOK] at e5
          subst e5
          refine ⟨.slice (some ⟨b, o, none⟩) len len, ?_, fun w' _ => ?_⟩
          · simp only [Rep, RepI]
            refine ⟨_, len, rfl, Nat.le_refl _, .inr ⟨b, o, rfl, fun q hq => CellsAt.mk (fun j x hxj => ?_)⟩⟩
            unfold chunkRow at hxj
            rw [List.getElem?_take] at hxj
            split at hxj
            · rw [List.getElem?_drop] at hxj
              have := hc.get' (q * ti.size + j) x hxj
              rwa [← Nat.add_assoc] at this
            · cases hxj
          · simp only [execOp, hx', Instr.sliceAt, Sem.run_bind, run_underlying e4, Result.andThen_ok, Instr.sureAddr, Sem.run_pure, Option.map_none, Instr.sliceBounds, hT.size hTe]
            simp [add_addr, hT.size hTe]
        · cases h
      · cases h
    · cases h
  · cases h

def stepDA {P : Program} {T : Tab} (X : Ctx P T) (n : Nat) (ops : Array Oper) (base : List (Nat × AV)) (c : List Ch) (K : St → Prop) : List Oper → Done → Option Prop
  | [], _ => none
  | o :: rest, done => normG (availL done o.after.toList base) fun Si => match guardA ops ⟨Si, c⟩ o, dstOK n o.dst, arrA T ⟨Si, c⟩ o.op with
    | some true, true, some x => normG (done ++ [(o.dst, x)]) fun done => some (SymD X n ops base c K rest done)
    | _, _, _ => none

/-- An array sliced, in a region whose order is drawn. -/
theorem sda {base : List (Nat × AV)} {c : List Ch} {l : List Oper} {done : Done} {p : Prop} (h : stepDA X n ops base c K l done = some p) (hp : p) : SymD X n ops base c K l done := by
  cases l with
  | nil => simp [stepDA] at h
  | cons o rest =>
    simp only [stepDA, normG_eq] at h
    split at h
    · rename_i x hg hd hb
      simp only [Option.some.injEq] at h
      subst h
      exact D_val x hg hd (fun e a w r => arrA_sound r hb) hp
    · cases h
end
end Go.Sy
