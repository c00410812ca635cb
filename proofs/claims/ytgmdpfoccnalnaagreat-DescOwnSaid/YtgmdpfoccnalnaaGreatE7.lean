/- The symbolic walk, part 43: memory given up as known values; maps that stay as they are. -/
import Derived.Test.YtgmdpfoccnalnaaGreatE6
import Derived.Laws.MakeOwn
import Derived.Laws.LoneSync
import Derived.Defers
import Derived.Test.YtgmdpfoccnalnaaGreatE3
import Derived.Test.YtgmdpfoccnalnaaGreatE4
set_option linter.unusedSimpArgs false
set_option linter.unusedVariables false
namespace Go.Sy
open Go.RowKit Go.MapKept

section
variable {P : Program} {T : Tab} {X : Ctx P T} {n : Nat} {e : Env} {st : St} {a : Act} {w : World} {ops : Array Oper} {K : St → Prop}

/-- It is known what a value is, from now on. -/
def repA (x : AV) (v : Value) : Abs := ⟨[], fun G _ => RepI G x v, fun hG _ h => RepI.mono hG x h⟩

/-- Memory is given up: from now on it is read alone. -/
theorem Le.fr (q : Nat) {A A' : Abs} {s : List (Nat × AV)} {c cr : List Ch} (hp : nthA q c = some (A, cr)) (hbs : A'.bs = [])
    (h : ∀ (G : IM) (w : World), A.ok G w → (∀ b ∈ A.bs, b < w.heap.size ∧ G.free b) → ∃ G' : IM, IM.le G G' ∧ (∀ b o v, G' b o = some v → G b o = some v ∨ (b ∈ A.bs ∧ w.cell? ⟨b, o, none⟩ = some v)) ∧ (∀ b x, G'.m b = some x → G.m b = some x ∨ (b ∈ A.bs ∧ MzOK G' w b x)) ∧ A'.ok G' w) :
    Le X n ⟨s, c⟩ ⟨s, .abs A' :: cr⟩ := fun e a w r => by
  have hh := (r.heap.perm (by simpa using nthA_perm hp : c.Perm ([A].map Ch.abs ++ cr))).absOK
  have hb1 : blocks [A] = A.bs := by simp [blocks]
  have hb2 : blocks [A'] = [] := by simp [blocks, hbs]
  obtain ⟨⟨k1, k2, k3⟩, k4⟩ := hh
  rw [hb1] at k2 k3 k4
  obtain ⟨G', g1, g2, g3, g4⟩ := h e.G w (k1 A (by simp)) k3
  refine ⟨⟨G', e.μ, e.hd⟩, r.swapAbs (st := ⟨s, c⟩) (As := [A]) (As' := [A']) (G' := G') (w' := w) (by simpa using nthA_perm hp) g1 ⟨?_, ?_⟩ ⟨?_, ?_⟩ ⟨?_, by rw [hb2]; simp, by rw [hb2]; simp⟩ (by rw [hb2]; simp) ⟨rfl, rfl, rfl⟩ (Nat.le_refl _) (fun _ _ _ _ => rfl)⟩
  · intro b o v hv
    rcases g2 b o v hv with h | h
    · exact r.im b o v h
    · exact h.2
  · intro b x hx
    rcases g3 b x hx with h | h
    · refine (r.mz b x h).keep g1 rfl (fun o v hv => ?_)
      rcases g2 b o v hv with k | k
      · exact ⟨v, k⟩
      · have := (k3 b k.1).2.2; rw [this] at h; cases h
    · exact h.2
  · intro b o v hv
    rcases g2 b o v hv with h | h
    · exact .inl h
    · exact .inr (.inr (by rw [hb1]; exact h.1))
  · intro b x hx
    rcases g3 b x hx with h | h
    · exact .inl h
    · exact .inr (.inr (by rw [hb1]; exact h.1))
  · intro B hB
    simp only [List.mem_singleton] at hB
    subst hB; exact g4

theorem Le.frBox (q : Nat) {b : Nat} {t : TypeId} {cells : List AV} {s : List (Nat × AV)} {c cr : List Ch} (hp : nthA q c = some (boxA b t cells, cr)) :
    Le X n ⟨s, c⟩ ⟨s, .abs (repA (.cp cells) (.pointer (some ⟨b, 0, none⟩))) :: cr⟩ := by
  refine Le.fr q hp rfl ?_
  rintro G w ⟨arr, h1, h2⟩ hb
  have hf := hb b (by simp [boxA])
  let G' : IM := ⟨fun b' o => if b' = b then arr.toList[o]? else G b' o, G.m⟩
  have hle : IM.le G G' := by
    refine ⟨?_, fun _ _ h => h⟩
    intro b' o v hv
    show (if b' = b then arr.toList[o]? else G b' o) = some v
    rw [if_neg]
    · exact hv
    · rintro rfl; rw [hf.2.1 o] at hv; cases hv
  refine ⟨G', hle, ?_, fun _ _ h => .inl h, ?_⟩
  · intro b' o v hv
    have hv' : (if b' = b then arr.toList[o]? else G b' o) = some v := hv
    split at hv'
    · rename_i hbb; subst hbb
      refine .inr ⟨by simp [boxA], ?_⟩
      rw [cell_of_row w b' o arr t (0, 0) h1]; simpa using hv'
    · exact .inl hv'
  · simp only [repA, RepI]
    refine ⟨b, 0, rfl, CellsAt.mk (fun j c hc => ?_)⟩
    obtain ⟨z, z1, z2, z3⟩ := h2.get j c hc
    refine ⟨z, ?_, RepI.mono hle _ z2, z3⟩
    show (if b = b then arr.toList[0 + j]? else G b (0 + j)) = some z
    rw [if_pos rfl, Nat.zero_add]; exact z1

theorem Le.frMap (q : Nat) {α : Type} {kv : α → Value} {b : Nat} {es : List (α × AV)} {s : List (Nat × AV)} {c cr : List Ch} (hp : nthA q c = some (mapA kv (some b) es, cr)) :
    Le X n ⟨s, c⟩ ⟨s, .abs (repA (.mapI (es.map (fun q => kv q.1)) (es.map (·.2))) (.map (some b))) :: cr⟩ := by
  refine Le.fr q hp rfl ?_
  rintro G w ⟨arr, cl, h1, h2, h3, h4, h5⟩ hb
  have hf := hb b (by simp [mapA])
  let G' : IM := ⟨G.c, fun b' => if b' = b then some (.map (arr.toList.map (fun e => (e.key, e.val)))) else G.m b'⟩
  have hle : IM.le G G' := by
    refine ⟨fun _ _ _ h => h, ?_⟩
    intro b' x hx
    show (if b' = b then _ else G.m b') = some x
    rw [if_neg]
    · exact hx
    · rintro rfl; rw [hf.2.2] at hx; cases hx
  refine ⟨G', hle, fun _ _ _ h => .inl h, ?_, ?_⟩
  · intro b' x hx
    have hx' : (if b' = b then some (MZ.map (arr.toList.map (fun e => (e.key, e.val)))) else G.m b') = some x := hx
    split at hx'
    · rename_i hbb; subst hbb
      cases hx'
      exact .inr ⟨by simp [mapA], arr, cl, h1, rfl⟩
    · exact .inl hx'
  · simp only [repA, RepI]
    refine ⟨b, arr.toList.map (·.val), rfl, ?_, ?_, RepIT.mono hle _ h3⟩
    · show (if b = b then some (MZ.map (arr.toList.map (fun e => (e.key, e.val)))) else G.m b) = _
      rw [if_pos rfl, ← h2]
      congr 2
      rw [List.zip_map']
    · rw [← h2]; simp

theorem Le.frSlO (q : Nat) {h : Value} {t : TypeId} {esz m : Nat} {cells : List AV} {s : List (Nat × AV)} {c cr : List Ch} (row : Nat → List AV) (hp : nthA q c = some (slO h t esz cells, cr)) (hlen : cells.length = m * esz) (hpos : 0 < esz)
    (hrow : ∀ i, i < m → row i = (cells.drop (i * esz)).take esz) : Le X n ⟨s, c⟩ ⟨s, .abs (repA (.sl m esz row) h) :: cr⟩ := by
  refine Le.fr q hp rfl ?_
  rintro G w ⟨m', h1, h2⟩ hb
  obtain rfl : m' = m := by
    rw [h1] at hlen
    exact Nat.eq_of_mul_eq_mul_right hpos hlen
  rcases h2 with ⟨rfl, rfl⟩ | ⟨g, o, cc, cur, rfl, k1, k2, k3, k4, k5⟩
  · refine ⟨G, IM.le_refl _, fun _ _ _ h => .inl h, fun _ _ h => .inl h, ?_⟩
    simp only [repA, RepI]
    exact ⟨none, 0, rfl, Nat.le_refl _, .inl trivial⟩
  · have hf := hb g (by simp [slO, Value.ownBlock])
    let G' : IM := ⟨fun b' o' => if b' = g then cur[o']? else G b' o', G.m⟩
    have hle : IM.le G G' := by
      refine ⟨?_, fun _ _ h => h⟩
      intro b' o' v hv
      show (if b' = g then cur[o']? else G b' o') = some v
      rw [if_neg]
      · exact hv
      · rintro rfl; rw [hf.2.1 o'] at hv; cases hv
    refine ⟨G', hle, ?_, fun _ _ h => .inl h, ?_⟩
    · intro b' o' v hv
      have hv' : (if b' = g then cur[o']? else G b' o') = some v := hv
      split at hv'
      · rename_i hbb; subst hbb
        refine .inr ⟨by simp [slO, Value.ownBlock], ?_⟩
        rw [cell_of_row w b' o' cur t (0, 0) k3]; exact hv'
      · exact .inl hv'
    · simp only [repA, RepI]
      refine ⟨some ⟨g, o, none⟩, cc, rfl, k1, .inr ⟨g, o, rfl, fun i hi => CellsAt.mk (fun j c hc => ?_)⟩⟩
      rw [hrow i hi] at hc
      have hj : j < esz := by
        rcases Nat.lt_or_ge j esz with h | h
        · exact h
        · rw [List.getElem?_eq_none (by simp; omega)] at hc; cases hc
      rw [List.getElem?_take, if_pos hj, List.getElem?_drop] at hc
      obtain ⟨z, z1, z2, z3⟩ := k5.get _ c hc
      have hlt : i * esz + j < m' * esz := by
        have : (i + 1) * esz ≤ m' * esz := Nat.mul_le_mul_right _ hi
        rw [Nat.add_mul] at this; omega
      rw [List.getElem?_take, if_pos hlt, List.getElem?_drop] at z1
      refine ⟨z, ?_, RepI.mono hle _ z2, z3⟩
      show (if g = g then cur[o + i * esz + j]? else G g (o + i * esz + j)) = some z
      rw [if_pos rfl, Nat.add_assoc]; simpa using z1

/-- A slot is told as what its value is. -/
theorem Le.slotA (q i : Nat) {x : AV} {v : Value} {s : List (Nat × AV)} {c cr : List Ch} (hi : get s i = some (.v v)) (hp : nthA q c = some (repA x v, cr)) : Le X n ⟨s, c⟩ ⟨(i, x) :: s, c⟩ := fun e a w r => by
  obtain ⟨hok, _⟩ := r.heap.nth hp
  obtain ⟨u, h1, h2⟩ := r.slots i _ hi
  simp only [Rep] at h2
  subst h2
  refine ⟨e, { r with slots := fun j y hy => ?_ }⟩
  rw [get_cons] at hy
  by_cases hj : i = j
  · subst hj
    rw [if_pos rfl] at hy; cases hy
    exact ⟨_, h1, RepI.toRep x hok⟩
  · rw [if_neg hj] at hy
    exact r.slots j y hy

theorem repIL_set {G : IM} : ∀ {cs : List AV} {vs : List Value} (j : Nat) {x : AV} {v : Value}, RepIL G cs vs → cs[j]? = some (.v v) → RepI G x v → RepIL G (cs.set j x) vs
  | [], vs, j, x, v, h, hj, hx => by simp at hj
  | c :: cs, vs, j, x, v, h, hj, hx => by
    simp only [RepIL] at h
    obtain ⟨z, zs, rfl, h1, h2, h3⟩ := h
    cases j with
    | zero =>
      simp only [List.getElem?_cons_zero, Option.some.injEq] at hj
      subst hj
      simp only [RepI] at h1
      subst h1
      simp only [List.set_cons_zero, RepIL]
      exact ⟨z, zs, rfl, hx, h2, h3⟩
    | succ j =>
      simp only [List.set_cons_succ, RepIL]
      exact ⟨z, zs, rfl, h1, h2, repIL_set j h3 (by simpa using hj) hx⟩
/-- A cell is told as what its value is. -/
theorem Le.cellA (q1 q2 j : Nat) {b : Nat} {t : TypeId} {cells : List AV} {x : AV} {v : Value} {s : List (Nat × AV)} {c cr : List Ch} (hp : pickA [q1, q2] c = some ([boxA b t cells, repA x v], cr)) (hj : cells[j]? = some (.v v)) :
    Le X n ⟨s, c⟩ ⟨s, .abs (boxA b t (cells.set j x)) :: cr⟩ := by
  refine Le.absPerm (As := [boxA b t cells, repA x v]) (As' := [boxA b t (cells.set j x)]) (by simpa using pickA_perm hp) (by simp [blocks, boxA, repA]) ?_
  intro G w h B hB
  simp only [List.mem_singleton] at hB
  subst hB
  obtain ⟨arr, h1, h2⟩ := h (boxA b t cells) (by simp)
  exact ⟨arr, h1, repIL_set j h2 hj (h (repA x v) (by simp))⟩

/-! ### Maps that stay as they are -/
abbrev mapE {α : Type} (kv : α → Value) (es : List (α × AV)) : AV := .mapI (es.map fun q => kv q.1) (es.map (·.2))

theorem X_lookI {α : Type} [DecidableEq α] {kt et mt : TypeId} (K : Key P kt α) {p : Pl} {es : List (α × AV)} {m x : Operand} {d : Option Nat} {k : α} {zv : Value} {z : AV} {commaOk : Bool} {pi : TypeInfo} {ty : TypeId} {pos : String} {aft : Array Edge} {gd : Option (Nat × Bool)} {j : Nat} {Si : List (Nat × AV)} {c : List Ch}
    (hm : P.underlying mt = some (.map kt et)) (hpi : P.info? et = some pi) (hz : pi.zero = some zv) (hzr : ∀ e : Env, Rep e z zv) (hzi : z.imm = true)
    (hg : guardA ops ⟨Si, c⟩ ⟨d, .lookup mt m x commaOk, ty, pos, aft, gd⟩ = some true) (hmo : opd Si m = some (mapE K.kv es)) (hx : opd Si x = some (.v (K.kv k))) (hd : dstOK n d = true) :
    StepX X n ops p Si c c j ⟨d, .lookup mt m x commaOk, ty, pos, aft, gd⟩ (lookAV commaOk (lookE k es) z) :=
  StepX.val hg hd (fun e a w S r r' => by
    have h1 := opd_sound r' hmo
    have h2 := opd_sound r' hx
    simp only [Rep, RepI] at h1 h2
    obtain ⟨b, vs, e1, e2, e3, e4⟩ := h1
    obtain ⟨arr, cl, g1, g0⟩ := r.mz _ _ e2
    have g2 : arr.toList.map (·.key) = es.map (fun q => K.kv q.1) := by
      have := congrArg (List.map Prod.fst) g0
      rw [List.map_map, List.map_fst_zip (by rw [e3]; exact Nat.le_refl _)] at this
      simpa [Function.comp_def] using this
    have g3 : RepIT e.G (es.map (·.2)) (arr.toList.map (·.val)) := by
      have := congrArg (List.map Prod.snd) g0
      rw [List.map_map, List.map_snd_zip (by rw [e3]; exact Nat.le_refl _)] at this
      rw [show arr.toList.map (·.val) = vs by simpa [Function.comp_def] using this]
      exact e4
    have hzero : (zeroValue et).run P w = .ok zv w := by simp [zeroValue, typeInfo, hpi, hz]
    have key : ∃ v, Rep e ((lookE k es).getD z) v ∧ (Instr.lookup mt (.map (some b)) (K.kv k) commaOk).run P w = .ok (if commaOk then .tuple #[v, .bool (lookE k es).isSome] else v) w := by
      rcases find_map K e.G k arr.toList es 0 g2 g3 with ⟨f1, f2⟩ | ⟨jj, en, xx, f1, f2, f3, f4, f5, _⟩
      · have hf := run_findKey (w := w) K.hd f1
        refine ⟨zv, by rw [f2]; exact hzr e, ?_⟩
        simp [Instr.lookup, run_underlying hm, MapKept.run_getObj_map g1, run_checkKey K.hd (K.ik k), hf, hzero, f2]
      · have hf := run_findKey (w := w) K.hd f1
        refine ⟨en.val, by rw [f4]; exact RepI.toRep xx f5, ?_⟩
        simp [Instr.lookup, run_underlying hm, MapKept.run_getObj_map g1, run_checkKey K.hd (K.ik k), hf, f4]
    obtain ⟨v, k1, k2⟩ := key
    refine ⟨if commaOk then .tuple #[v, .bool (lookE k es).isSome] else v, w, e, by simp only [execOp, e1, h2, Sem.run_bind, k2, Result.andThen_ok, Sem.run_pure], r, ?_⟩
    cases commaOk with
    | false => simpa [lookAV] using k1
    | true => simp only [lookAV, cond_true, if_true, Rep, RepT]; exact ⟨_, rfl, _, _, rfl, k1, _, _, rfl, rfl, rfl⟩)
/-! ### Keys that are told otherwise: texts -/
theorem X_lookS (q : Nat) {α : Type} [DecidableEq α] {kt et mt : TypeId} (K : Key P kt α) {p : Pl} {mo : Option Nat} {es : List (α × AV)} {m x : Operand} {d : Option Nat} {k : α} {zv : Value} {z : AV} {commaOk : Bool} {pi : TypeInfo} {ty : TypeId} {pos : String} {aft : Array Edge} {gd : Option (Nat × Bool)} {j : Nat} {Si : List (Nat × AV)} {c cr : List Ch}
    (hm : P.underlying mt = some (.map kt et)) (hpi : P.info? et = some pi) (hz : pi.zero = some zv) (hzr : ∀ e : Env, Rep e z zv) (hzi : z.imm = true)
    {kx : AV} (hkx : ∀ (e : Env) (v : Value), Rep e kx v → v = K.kv k)
    (hg : guardA ops ⟨Si, c⟩ ⟨d, .lookup mt m x commaOk, ty, pos, aft, gd⟩ = some true) (hmo : opd Si m = some (.v (.map mo))) (hx : opd Si x = some kx) (hp : nthA q c = some (mapA K.kv mo es, cr)) (hd : dstOK n d = true) :
    StepX X n ops p Si c c j ⟨d, .lookup mt m x commaOk, ty, pos, aft, gd⟩ (lookAV commaOk (lookE k es) z) :=
  StepX.val hg hd (fun e a w S r r' => by
    have h1 := opd_sound r' hmo
    have h2 := hkx _ _ (opd_sound r' hx)
    simp only [Rep] at h1
    obtain ⟨hok, _⟩ := r.heap.nth hp
    have hzero : (zeroValue et).run P w = .ok zv w := by simp [zeroValue, typeInfo, hpi, hz]
    have key : ∃ v, Rep e ((lookE k es).getD z) v ∧ (Instr.lookup mt (.map mo) (K.kv k) commaOk).run P w = .ok (if commaOk then .tuple #[v, .bool (lookE k es).isSome] else v) w := by
      cases mo with
      | none =>
        have hes : es = [] := hok
        subst hes
        have hf : (Instr.findKey kt (K.kv k) []).run P w = .ok none w := run_findKey K.hd rfl
        refine ⟨zv, hzr e, ?_⟩
        simp [Instr.lookup, run_underlying hm, run_checkKey K.hd (K.ik k), hf, hzero, lookE]
      | some b =>
        obtain ⟨arr, cl, g1, g2, g3, g4⟩ := hok
        rcases find_map K e.G k arr.toList es 0 g2 g3 with ⟨f1, f2⟩ | ⟨jj, en, xx, f1, f2, f3, f4, f5, _⟩
        · have hf := run_findKey (w := w) K.hd f1
          refine ⟨zv, by rw [f2]; exact hzr e, ?_⟩
          simp [Instr.lookup, run_underlying hm, MapKept.run_getObj_map g1, run_checkKey K.hd (K.ik k), hf, hzero, f2]
        · have hf := run_findKey (w := w) K.hd f1
          refine ⟨en.val, by rw [f4]; exact RepI.toRep xx f5, ?_⟩
          simp [Instr.lookup, run_underlying hm, MapKept.run_getObj_map g1, run_checkKey K.hd (K.ik k), hf, f4]
    obtain ⟨v, k1, k2⟩ := key
    refine ⟨if commaOk then .tuple #[v, .bool (lookE k es).isSome] else v, w, e, by simp only [execOp, h1, h2, Sem.run_bind, k2, Result.andThen_ok, Sem.run_pure], r, ?_⟩
    cases commaOk with
    | false => simpa [lookAV] using k1
    | true => simp only [lookAV, cond_true, if_true, Rep, RepT]; exact ⟨_, rfl, _, _, rfl, k1, _, _, rfl, rfl, rfl⟩)


theorem X_updS (q : Nat) {α : Type} [DecidableEq α] {kt et mt : TypeId} (K : Key P kt α) {p : Pl} {b : Nat} {es : List (α × AV)} {m x y : Operand} {k : α} {av : AV} {ty : TypeId} {pos : String} {aft : Array Edge} {gd : Option (Nat × Bool)} {j : Nat} {Si : List (Nat × AV)} {c cr : List Ch}
    (hm : P.underlying mt = some (.map kt et)) (hsb : ∀ k, Instr.sameBits 10000 (K.kv k) (K.kv k) = true)
    {kx : AV} (hkx : ∀ (e : Env) (v : Value), Rep e kx v → v = K.kv k)
    (hg : guardA ops ⟨Si, c⟩ ⟨none, .mapUpdate mt m x y, ty, pos, aft, gd⟩ = some true) (hmo : opd Si m = some (.v (.map (some b)))) (hx : opd Si x = some kx) (hy : opd Si y = some av) (himm : av.imm = true) (hp : nthA q c = some (mapA K.kv (some b) es, cr)) :
    StepX X n ops p Si c (.abs (mapA K.kv (some b) (updE k av es)) :: cr) j ⟨none, .mapUpdate mt m x y, ty, pos, aft, gd⟩ .bad :=
  StepX.skip hg rfl (fun e a w S r r' => by
    have h1 := opd_sound r' hmo
    have h2 := hkx _ _ (opd_sound r' hx)
    have h3 := opd_sound r' hy
    simp only [Rep] at h1
    obtain ⟨⟨arr, cl, g1, g2, g3, g4, g5⟩, _⟩ := r.heap.nth hp
    have hlt : b < w.heap.size := (Array.getElem?_eq_some_iff.1 g1).1
    have fin : ∀ (arr' : Array MapEntry) (cl' : Nat), (Instr.mapUpdate mt (.map (some b)) (K.kv k) (a.eval y)).run P w = .ok () { w with heap := w.heap.setIfInBounds b (.map arr' cl') } →
        arr'.toList.map (·.key) = (updE k av es).map (fun q => K.kv q.1) → RepIT e.G ((updE k av es).map (·.2)) (arr'.toList.map (·.val)) → (arr'.toList.map (·.born)).Nodup → (∀ x ∈ arr'.toList, x.born < cl') →
        ∃ w' e', (execOp a.eval ⟨none, .mapUpdate mt m x y, ty, pos, aft, gd⟩).run P w = .ok .skip w' ∧ Rel X n e' ⟨S, .abs (mapA K.kv (some b) (updE k av es)) :: cr⟩ a w' := by
      intro arr' cl' hrun k1 k2 k3 k4
      refine ⟨{ w with heap := w.heap.setIfInBounds b (.map arr' cl') }, e, by simp only [execOp, h1, h2, Sem.run_bind, hrun, Result.andThen_ok, Sem.run_pure], r.absTurn (st := ⟨S, c⟩) hp rfl ⟨arr', cl', by simp [hlt], k1, k2, k3, k4⟩ (fun b' hb' => ?_) ⟨rfl, rfl, rfl⟩ (by simp)⟩
      have hne : b ≠ b' := fun hh => hb' (by subst hh; simp [mapA])
      simp [hne]
    rcases find_map K e.G k arr.toList es 0 g2 g3 with ⟨f1, f2⟩ | ⟨jj, en, xx, f1, f2, f3, f4, f5, f6⟩
    · have hf := run_findKey (w := w) K.hd f1
      refine fin (arr.push ⟨K.kv k, a.eval y, cl⟩) (cl + 1) ?_ ?_ ?_ ?_ ?_
      · simp [Instr.mapUpdate, run_underlying hm, MapKept.run_getObj_map g1, run_checkKey K.hd (K.ik k), hf, MapKept.run_setObj_map _ g1]
      · rw [updE_new f2]; simp [g2]
      · rw [updE_new f2]
        simp only [Array.toList_push, List.map_append, List.map_cons, List.map_nil]
        exact RepIT.app g3 (by simp only [RepIT]; exact ⟨_, [], rfl, Rep.toI av himm h3, rfl⟩)
      · simp only [Array.toList_push, List.map_append, List.map_cons, List.map_nil]
        refine List.nodup_append.2 ⟨g4, by simp, ?_⟩
        intro u hu v hv
        simp only [List.mem_singleton] at hv
        subst hv
        obtain ⟨xx, hxx, rfl⟩ := List.mem_map.1 hu
        exact Nat.ne_of_lt (g5 xx hxx)
      · intro xx hxx
        simp only [Array.toList_push, List.mem_append, List.mem_singleton] at hxx
        rcases hxx with hxx | rfl
        · exact Nat.lt_succ_of_lt (g5 xx hxx)
        · exact Nat.lt_succ_self _
    · rw [Nat.zero_add] at f1
      have hf := run_findKey (w := w) K.hd f1
      have f2' : arr[jj]? = some en := by simpa using f2
      obtain ⟨u1, u2⟩ := f6 av
      refine fin (arr.modify jj fun e => { e with key := K.kv k, val := a.eval y }) cl ?_ ?_ ?_ ?_ ?_
      · have hks : (Instr.keyThatStays (K.kv k) (K.kv k)).run P w = .ok (K.kv k) w := by simp [Instr.keyThatStays, hsb k]
        simp [Instr.mapUpdate, run_underlying hm, MapKept.run_getObj_map g1, run_checkKey K.hd (K.ik k), hf, f2', f3, hks, MapKept.run_setObj_map _ g1]
      · rw [u1, ← g2]; exact map_modify_key f2' f3.symm
      · rw [u2, map_modify_val f2']
        exact repIT_set jj g3 (Rep.toI av himm h3)
      · rw [map_modify_born (f := fun e => { e with key := K.kv k, val := a.eval y }) (fun e => rfl)]; exact g4
      · intro xx hxx
        have : xx.born ∈ (arr.modify jj fun e => { e with key := K.kv k, val := a.eval y }).toList.map (·.born) := List.mem_map.2 ⟨xx, hxx, rfl⟩
        rw [map_modify_born (f := fun e => { e with key := K.kv k, val := a.eval y }) (fun e => rfl)] at this
        obtain ⟨y', hy', e'⟩ := List.mem_map.1 this
        rw [← e']; exact g5 y' hy')


theorem X_lookIS {α : Type} [DecidableEq α] {kt et mt : TypeId} (K : Key P kt α) {p : Pl} {es : List (α × AV)} {m x : Operand} {d : Option Nat} {k : α} {zv : Value} {z : AV} {commaOk : Bool} {pi : TypeInfo} {ty : TypeId} {pos : String} {aft : Array Edge} {gd : Option (Nat × Bool)} {j : Nat} {Si : List (Nat × AV)} {c : List Ch}
    (hm : P.underlying mt = some (.map kt et)) (hpi : P.info? et = some pi) (hz : pi.zero = some zv) (hzr : ∀ e : Env, Rep e z zv) (hzi : z.imm = true)
    {kx : AV} (hkx : ∀ (e : Env) (v : Value), Rep e kx v → v = K.kv k)
    (hg : guardA ops ⟨Si, c⟩ ⟨d, .lookup mt m x commaOk, ty, pos, aft, gd⟩ = some true) (hmo : opd Si m = some (mapE K.kv es)) (hx : opd Si x = some kx) (hd : dstOK n d = true) :
    StepX X n ops p Si c c j ⟨d, .lookup mt m x commaOk, ty, pos, aft, gd⟩ (lookAV commaOk (lookE k es) z) :=
  StepX.val hg hd (fun e a w S r r' => by
    have h1 := opd_sound r' hmo
    have h2 := hkx _ _ (opd_sound r' hx)
    simp only [Rep, RepI] at h1
    obtain ⟨b, vs, e1, e2, e3, e4⟩ := h1
    obtain ⟨arr, cl, g1, g0⟩ := r.mz _ _ e2
    have g2 : arr.toList.map (·.key) = es.map (fun q => K.kv q.1) := by
      have := congrArg (List.map Prod.fst) g0
      rw [List.map_map, List.map_fst_zip (by rw [e3]; exact Nat.le_refl _)] at this
      simpa [Function.comp_def] using this
    have g3 : RepIT e.G (es.map (·.2)) (arr.toList.map (·.val)) := by
      have := congrArg (List.map Prod.snd) g0
      rw [List.map_map, List.map_snd_zip (by rw [e3]; exact Nat.le_refl _)] at this
      rw [show arr.toList.map (·.val) = vs by simpa [Function.comp_def] using this]
      exact e4
    have hzero : (zeroValue et).run P w = .ok zv w := by simp [zeroValue, typeInfo, hpi, hz]
    have key : ∃ v, Rep e ((lookE k es).getD z) v ∧ (Instr.lookup mt (.map (some b)) (K.kv k) commaOk).run P w = .ok (if commaOk then .tuple #[v, .bool (lookE k es).isSome] else v) w := by
      rcases find_map K e.G k arr.toList es 0 g2 g3 with ⟨f1, f2⟩ | ⟨jj, en, xx, f1, f2, f3, f4, f5, _⟩
      · have hf := run_findKey (w := w) K.hd f1
        refine ⟨zv, by rw [f2]; exact hzr e, ?_⟩
        simp [Instr.lookup, run_underlying hm, MapKept.run_getObj_map g1, run_checkKey K.hd (K.ik k), hf, hzero, f2]
      · have hf := run_findKey (w := w) K.hd f1
        refine ⟨en.val, by rw [f4]; exact RepI.toRep xx f5, ?_⟩
        simp [Instr.lookup, run_underlying hm, MapKept.run_getObj_map g1, run_checkKey K.hd (K.ik k), hf, f4]
    obtain ⟨v, k1, k2⟩ := key
    refine ⟨if commaOk then .tuple #[v, .bool (lookE k es).isSome] else v, w, e, by simp only [execOp, e1, h2, Sem.run_bind, k2, Result.andThen_ok, Sem.run_pure], r, ?_⟩
    cases commaOk with
    | false => simpa [lookAV] using k1
    | true => simp only [lookAV, cond_true, if_true, Rep, RepT]; exact ⟨_, rfl, _, _, rfl, k1, _, _, rfl, rfl, rfl⟩)

theorem kS {l : List UInt8} {v : Value} : ∀ (e : Env), Rep e (.s l) v → v = S l := fun e h => by simpa only [Rep] using h
/-- Is a pointer to cells that stay as they are nil? -/
theorem X_cpnil {p : Pl} {t el : TypeId} {x : Operand} {cells : List AV} {d : Option Nat} {uy ty : TypeId} {pos : String} {aft : Array Edge} {gd : Option (Nat × Bool)} {j : Nat} {Si : List (Nat × AV)} {c : List Ch} (hm : P.underlying t = some (.pointer el))
    (hg : guardA ops ⟨Si, c⟩ ⟨d, .binOp .eql t x (.const (.pointer none)) uy, ty, pos, aft, gd⟩ = some true) (hx : opd Si x = some (.cp cells)) (hd : dstOK n d = true) :
    StepX X n ops p Si c c j ⟨d, .binOp .eql t x (.const (.pointer none)) uy, ty, pos, aft, gd⟩ (B false) :=
  StepX.val hg hd (fun e a w S r r' => by
    have h1 := opd_sound r' hx
    simp only [Rep, RepI] at h1
    obtain ⟨b, o, e1, _⟩ := h1
    refine ⟨.bool false, w, e, ?_, r, by simp [Rep]⟩
    have hgd : (eqGuard .eql t x (.const (.pointer none)) (.pointer (some ⟨b, o, none⟩)) (.pointer none)).run P w = .ok () w := rfl
    have h2 : a.eval (.const (.pointer none)) = .pointer none := rfl
    simp only [execOp, e1, h2, Sem.run_bind, hgd, Result.andThen_ok, binOp_eq_ptr, run_equal_ptr0 hm, Sem.run_pure, eqB, Option.isNone_some])
end
end Go.Sy

/- The symbolic walk, part 44: slices made; calls of closures, in drawn regions, over memory that they only read. -/
set_option linter.unusedSimpArgs false
set_option linter.unusedVariables false
namespace Go.Sy
open Go.RowKit

section
variable {P : Program} {T : Tab} {X : Ctx P T} {n : Nat} {e : Env} {st : St} {a : Act} {w : World} {ops : Array Oper} {K : St → Prop}

/-- make([]T, m), elements of one cell. -/
theorem O_makeN {t el : TypeId} {by_ sz0 b0 : Nat} {ag0 ag1 : Bool} {z0 : List Value} {zc : Value} {d1 : TD} {lo co : Operand} {d m : Nat} {ty : TypeId} {pos : String} {aft : Array Edge} {rest : List Oper} {s : List (Nat × AV)} {c : List Ch}
    (hTs : T t = some ⟨sz0, b0, ag0, z0, .slice el⟩) (hTe : T el = some ⟨1, by_, ag1, [zc], d1⟩) (hlo : opd s lo = some (I64 (m : Nat))) (hco : opd s co = some (I64 (m : Nat))) (hd : Nat.blt d n = true)
    (hb : by_ * m ≤ 281474976710656) (hm : m ≤ maxLen)
    (k : ∀ b, SymO X n ops rest ⟨(d, .v (HO b 0 m m)) :: s, .abs (slO (HO b 0 m m) el 1 (List.replicate m (.v zc))) :: c⟩ K) : SymO X n ops (⟨some d, .makeSlice t lo co, ty, pos, aft, none⟩ :: rest) ⟨s, c⟩ K := by
  intro e a w Q r hq
  unfold wpList
  rw [if_pos (guardA_sound r (o := ⟨some d, .makeSlice t lo co, ty, pos, aft, none⟩) (b := true) rfl)]
  refine .inl ?_
  have h1 := opd_sound r hlo
  have h2 := opd_sound r hco
  simp only [Rep] at h1 h2
  obtain ⟨pi, z, i1, i2, i3, i4, i5, i6, i7⟩ := (X.ok _ _ hTe).info
  obtain ⟨dd, e1, _, e3⟩ := (X.ok _ _ hTs).desc
  simp only [TDOK] at e3
  subst e3
  have hm63 : (m : Int) ≤ 9223372036854775807 := by simp [maxLen] at hm; omega
  have hbb : (pi.bytes : Int) * (m : Int) ≤ 281474976710656 := by
    have h : ((by_ * m : Nat) : Int) ≤ 281474976710656 := by omega
    rw [i3]; rwa [Int.natCast_mul] at h
  have hrun := run_make (P := P) w t el pi z e1 i1 i4 .i64 .i64 m m (by omega) (Int.le_refl _) hbb hm63
  simp only [Int.toNat_natCast] at hrun
  unfold Oper.wp
  have hrun2 : (execOp a.eval ⟨some d, .makeSlice t lo co, ty, pos, aft, none⟩).run P w = .ok (.value (HO w.heap.size 0 m m)) (w.alloc (.cells (madeCells z.cells (m * pi.size)) el)) := by
    simp only [execOp, h1, h2, Sem.run_bind, hrun, Result.andThen_ok, Sem.run_pure]
  rw [hrun2]
  have hz : z.cells = #[zc] := by apply Array.ext'; simpa using i5
  have hzc : zc.oneCell' = true := by simpa using i6
  have hmc : madeCells z.cells (m * pi.size) = Array.replicate m zc := by
    rw [hz, i2, Nat.mul_one]
    apply Array.ext
    · simp [madeCells]
    · intro i hi1 hi2
      simp [madeCells, Nat.mod_one]
  rw [hmc]
  have r2 := r.allocAbs (A := slO (HO w.heap.size 0 m m) el 1 (List.replicate m (.v zc))) (o := .cells (Array.replicate m zc) el) rfl (by
    refine ⟨m, by simp, .inr ⟨w.heap.size, 0, m, Array.replicate m zc, rfl, Nat.le_refl _, hm, Go.heap_alloc_new w _, by simp, ?_⟩⟩
    refine RepIL.mk (by simp) (fun j cc hcc => ?_)
    rw [List.getElem?_replicate] at hcc
    split at hcc
    · rename_i hj
      simp only [Option.some.injEq] at hcc
      subst hcc
      exact ⟨zc, by simp [List.getElem?_replicate, hj], by simp only [RepI], hzc⟩
    · cases hcc)
  exact k w.heap.size _ _ _ Q (r2.put (x := .v (HO w.heap.size 0 m m)) hd (by simp only [Rep])) hq

/-- A call of a function value, in a region whose order is drawn, that reads memory at known addresses. -/
theorem D_callAV (is : List Nat) {base : List (Nat × AV)} {c : List Ch} {done : Done} {f : FuncId} {xo : Operand} {fv : AV} {caps : List AV} {dst : Nat} {args : Array Operand} {tys : Array TypeId} {ty : TypeId} {pos : String} {aft : Array Edge} {gd : Option (Nat × Bool)} {rest : List Oper} {avs : List AV} {x : AV} {cs : List Abs} {cr : List Ch}
    (hclo : IsClo fv f caps) (hfi : fv.imm = true) (hf : FnA P f (avs ++ caps) cs (fun r cs' => r = x ∧ cs' = cs)) (hxo : opd (availL done aft.toList base) xo = some fv)
    (hg : guardA ops ⟨availL done aft.toList base, c⟩ ⟨some dst, .call ⟨.value xo, args, tys⟩, ty, pos, aft, gd⟩ = some true) (ha : opds (availL done aft.toList base) args.toList = some avs) (himm : AV.imm.immL avs = true) (hp : pickA is c = some (cs, cr)) (hd : Nat.blt dst n = true)
    (k : SymD X n ops base c K rest (done ++ [(some dst, x)])) :
    SymD X n ops base c K (⟨some dst, .call ⟨.value xo, args, tys⟩, ty, pos, aft, gd⟩ :: rest) done := by
  refine ⟨x, fun e a w S K' Q r hS hk => ?_, k⟩
  have r' : Rel X n e ⟨availL done aft.toList base, c⟩ a w := r.less hS (fun h => h)
  rw [if_pos (guardA_sound r' hg)]
  refine .inl ?_
  unfold Oper.wp
  obtain ⟨vs, hfv, hvs⟩ := hclo e.G _ (Rep.toI fv hfi (opd_sound r' hxo))
  rw [run_callV hf.1 a.eval hfv w, Oper.upon_enter]
  have h1 := RepIT.app (RepT.toI avs himm (opds_sound r' ha)) hvs
  have harr : args.map a.eval ++ vs = (args.toList.map a.eval ++ vs.toList).toArray := by
    apply Array.ext'; simp
  rw [harr]
  have hpp := pickA_perm hp
  have hd2 := (r.heap.perm hpp).absOK
  refine (hf.2 e.G w _ ⟨r.im, r.mz⟩ h1 hd2.1).mono ?_
  rintro en w' ⟨rv, cv, cs', G', ⟨rfl, rfl⟩, rfl, g1, g2, g3, g4, g5, g6, o1, o2, o3, o4, o5⟩
  have r2 := r.swapAbs (st := ⟨S, c⟩) hpp g2 g4 g3 g5 g6 ⟨o1, o2, o3⟩ o4 o5
  have r3 : Rel X n ⟨G', e.μ, e.hd⟩ ⟨S, c⟩ a w' := { r2 with heap := r2.heap.perm hpp.symm }
  exact hk _ _ _ (r3.put hd (RepI.toRep (e := ⟨G', e.μ, e.hd⟩) rv g1))
end
end Go.Sy

/- The symbolic walk, part 45: slices of known headers grown by elements of any size. -/
set_option linter.unusedSimpArgs false
set_option linter.unusedVariables false
namespace Go.Sy
open Go.RowKit

section
variable {P : Program} {T : Tab} {X : Ctx P T} {n : Nat} {e : Env} {st : St} {a : Act} {w : World} {ops : Array Oper} {K : St → Prop}

/-- append(s, x...): the header of s is known, x is read only. -/
theorem O_appendV (q : Nat) {dst : Nat} {so_ xo : Operand} {t ty : TypeId} {pos : String} {aft : Array Edge} {rest : List Oper} {s : List (Nat × AV)} {c cr : List Ch} {h : Value} {el esz m m2 m3 : Nat} {row row2 row3 : Nat → List AV} {by_ : Nat} {sz0 b0 : Nat} {ag0 ag1 : Bool} {z0 z1 : List Value} {d1 : TD}
    (hTs : T t = some ⟨sz0, b0, ag0, z0, .slice el⟩) (hTe : T el = some ⟨esz, by_, ag1, z1, d1⟩) (hpos : Nat.blt 0 esz = true)
    (hso : opd s so_ = some (.v h)) (hp : nthA q c = some (vecA h el esz m row, cr)) (hxo : opd s xo = some (.sl m2 esz row2)) (hr2 : ∀ i, i < m2 → (row2 i).length = esz)
    (hd : Nat.blt dst n = true) (hlen : (m + m2) * by_ ≤ 140737488355328) (hlen2 : m + m2 ≤ maxLen)
    (hm3 : m3 = m + m2) (hrow3 : ∀ i, i < m3 → appRow m row row2 i = row3 i)
    (k : ∀ v', (m3 = 0 ∧ v' = .slice none 0 0) ∨ (∃ g cc, v' = HD g m3 cc) → SymO X n ops rest ⟨(dst, .v v') :: s, .abs (vecA v' el esz m3 row3) :: cr⟩ K) :
    SymO X n ops (⟨some dst, .call ⟨.builtin .append, #[so_, xo], #[t, t]⟩, ty, pos, aft, none⟩ :: rest) ⟨s, c⟩ K := by
  subst hm3
  intro e a w Q r hq
  obtain ⟨pi, z, i1, i2, i3, i4, i5, i6, i7⟩ := (X.ok _ _ hTe).info
  obtain ⟨dd, e1, _, e3⟩ := (X.ok _ _ hTs).desc
  simp only [TDOK] at e3
  subst e3
  have hso' := opd_sound r hso
  simp only [Rep] at hso'
  have hzs : z.cells.size = esz := by
    have : z.cells.toList.length = esz := by rw [i5]; exact i7
    simpa using this
  have hpos' : 0 < esz := by have := hpos; simp [Nat.blt] at this; omega
  obtain ⟨⟨xs, g1, g2⟩, hgood, hnd⟩ := r.heap.nth hp
  have hperm : c.Perm ([vecA h el esz m row].map Ch.abs ++ cr) := by simpa using nthA_perm hp
  have hbl : ∀ B : Abs, blocks [B] = B.bs := fun B => by simp [blocks]
  have fin : ∀ (v' : Value) (w' : World) (xs' : List Value), (execOp a.eval ⟨some dst, .call ⟨.builtin .append, #[so_, xo], #[t, t]⟩, ty, pos, aft, none⟩).run P w = .ok (.value v') w' →
      w'.ownsRow 0 el esz v' (m + m2) xs' → RowsL e.G esz (m + m2) row3 xs' →
      (∀ b, b < w.heap.size → b ∉ (vecA h el esz m row).bs → w'.heap[b]? = w.heap[b]?) → (∀ b, v'.ownBlock = some b → b < w'.heap.size ∧ (some b = h.ownBlock ∨ w.heap.size ≤ b)) →
      w'.os = w.os ∧ w'.tape = w.tape ∧ w'.output = w.output → w.heap.size ≤ w'.heap.size → wpList P ops Q (⟨some dst, .call ⟨.builtin .append, #[so_, xo], #[t, t]⟩, ty, pos, aft, none⟩ :: rest) a w := by
    intro v' w' xs' hrun hown hrows hoth hbs' ho hsz
    unfold wpList
    rw [if_pos (by simp [Region.wanted])]
    refine .inl ?_
    unfold Oper.wp
    rw [hrun]
    have hmem : ∀ b ∈ (vecA v' el esz (m + m2) row3).bs, v'.ownBlock = some b := fun b hb => by simpa [vecA] using hb
    have hin : ∀ b, some b = h.ownBlock → b ∈ (vecA h el esz m row).bs := fun b hb => by simp [vecA, ← hb]
    have r2 := r.swapAbs (st := ⟨s, c⟩) (As := [vecA h el esz m row]) (As' := [vecA v' el esz (m + m2) row3]) (G' := e.G) (w' := w') hperm (IM.le_refl _) ⟨?_, ?_⟩ ⟨fun b o v h => .inl h, fun b x h => .inl h⟩ ⟨?_, ?_, ?_⟩ ?_ ho hsz ?_
    · have hsh : (m + m2 = 0 ∧ v' = .slice none 0 0) ∨ (∃ g cc, v' = HD g (m + m2) cc) := by
        rcases hown.2 with ⟨h1, h2⟩ | ⟨g, cap, cur, h1, _⟩
        · exact .inl ⟨h2, h1⟩
        · exact .inr ⟨g, cap, h1⟩
      exact k v' hsh _ _ _ Q (r2.put (x := .v v') (v := v') hd (by simp only [Rep])) hq
    · intro b o v hv
      have h1 := r.im b o v hv
      simp only [World.cell?] at h1 ⊢
      rw [hoth b (r.glt0 _ _ _ hv) (fun hin => by rw [(hgood b hin).2.2.1 o] at hv; cases hv)]
      exact h1
    · exact r.mzKeep (fun b hb hf => hoth b hb (fun hin => hf (hgood b hin).2.2))
    · intro B hB
      simp only [List.mem_singleton] at hB
      subst hB; exact ⟨xs', hown, hrows⟩
    · rw [hbl]
      show (v'.ownBlock.toList).Nodup
      cases v'.ownBlock <;> simp
    · intro b hb
      rw [hbl] at hb
      obtain ⟨h1, h2⟩ := hbs' b (hmem b hb)
      refine ⟨h1, ?_⟩
      rcases h2 with h2 | h2
      · exact (hgood b (hin b h2)).2.2
      · exact r.free h2
    · intro b hb
      rw [hbl] at hb ⊢
      rcases (hbs' b (hmem b hb)).2 with h2 | h2
      · exact .inr (hin b h2)
      · exact .inl h2
    · intro b hb hnin _
      rw [hbl] at hnin
      exact hoth b hb hnin
  have hrowsOut : ∀ {news : List Value}, RowsL e.G esz m2 row2 news → RowsL e.G esz (m + m2) row3 (xs ++ news) := fun hn i hi => by
    rw [← hrow3 i hi]; exact rows_app g1.1 g2 hn i hi
  have hno : ∀ b, b ∉ (vecA h el esz m row).bs → some b ≠ h.ownBlock := fun b hb he => hb (by simp [vecA, ← he])
  rcases src_sl hxo hr2 e a w r with ⟨ad, cc, news, hx, hl, hnews, h1, hrn⟩ | ⟨hm2, cc, hx⟩
  · obtain ⟨v', w', hr, q2, q3, q4⟩ := run_append_own (P := P) w 0 t ty el pi z esz by_ e1 i1 i4 i2 i3 hzs hpos' h m xs g1 ad m2 cc news hl hnews h1 hlen2 hlen (Nat.zero_le _)
    have hrun : (execOp a.eval ⟨some dst, .call ⟨.builtin .append, #[so_, xo], #[t, t]⟩, ty, pos, aft, none⟩).run P w = .ok (.value v') w' := by
      simp only [execOp, resolve, invoke, builtin, Sem.run_bind, Sem.run_pure, Result.andThen_ok, List.map_toArray, List.map_cons, List.map_nil, hso', hx, hr]
    refine fin v' w' (xs ++ news) hrun q2 (hrowsOut hrn) (fun b hb hn => q3.block b hb (fun he => hno b hn he)) (fun b hb => ?_) ⟨q3.os, q3.tape, q3.output⟩ q3.size
    refine ⟨(q2.lt b hb).2, ?_⟩
    simp only at i2 i3
    subst i2 i3
    exact append_block t ty el pi z e1 i1 i4 h m xs g1 ad m2 cc news hl hnews h1 hlen2 hlen hr b hb
  · subst hm2
    have hrun0 := append_none t ty el pi e1 i1 h m xs g1 cc
    have hrun : (execOp a.eval ⟨some dst, .call ⟨.builtin .append, #[so_, xo], #[t, t]⟩, ty, pos, aft, none⟩).run P w = .ok (.value h) w := by
      simp only [execOp, resolve, invoke, builtin, Sem.run_bind, Sem.run_pure, Result.andThen_ok, List.map_toArray, List.map_cons, List.map_nil, hso', hx, hrun0]
    have hrn : RowsL e.G esz 0 row2 ([] : List Value) := fun i hi => by omega
    refine fin h w (xs ++ []) hrun (by simpa using g1) (hrowsOut hrn) (fun _ _ _ => rfl) (fun b hb => ⟨(hgood b (by simp [vecA, hb])).1, .inl hb.symm⟩) ⟨rfl, rfl, rfl⟩ (Nat.le_refl _)

/-- The elements of a slice of a known header are given up. -/
theorem Le.frVec (q : Nat) {h : Value} {t : TypeId} {esz m : Nat} {row : Nat → List AV} {s : List (Nat × AV)} {c cr : List Ch} (row' : Nat → List AV) (hp : nthA q c = some (vecA h t esz m row, cr)) (hrow : ∀ i, i < m → row' i = row i) :
    Le X n ⟨s, c⟩ ⟨s, .abs (repA (.sl m esz row') h) :: cr⟩ := by
  refine Le.fr q hp rfl ?_
  rintro G w ⟨xs, g1, g2⟩ hb
  rcases g1.2 with ⟨rfl, rfl⟩ | ⟨g, cap, cur, rfl, _, hg, hcap, hmax, hcs, htake⟩
  · refine ⟨G, IM.le_refl _, fun _ _ _ h => .inl h, fun _ _ h => .inl h, ?_⟩
    simp only [repA, RepI]
    exact ⟨none, 0, rfl, Nat.le_refl _, .inl trivial⟩
  · have hf := hb g (by simp [vecA, Value.ownBlock])
    let G' : IM := ⟨fun b' o' => if b' = g then cur[o']? else G b' o', G.m⟩
    have hle : IM.le G G' := by
      refine ⟨?_, fun _ _ h => h⟩
      intro b' o' v hv
      show (if b' = g then cur[o']? else G b' o') = some v
      rw [if_neg]
      · exact hv
      · rintro rfl; rw [hf.2.1 o'] at hv; cases hv
    refine ⟨G', hle, ?_, fun _ _ h => .inl h, ?_⟩
    · intro b' o' v hv
      have hv' : (if b' = g then cur[o']? else G b' o') = some v := hv
      split at hv'
      · rename_i hbb; subst hbb
        refine .inr ⟨by simp [vecA, Value.ownBlock], ?_⟩
        rw [cell_of_row w b' o' cur t (0, 0) hg]; exact hv'
      · exact .inl hv'
    · simp only [repA, RepI]
      refine ⟨some ⟨g, 0, none⟩, cap, rfl, hcap, .inr ⟨g, 0, rfl, fun i hi => CellsAt.mk (fun j c hc => ?_)⟩⟩
      rw [hrow i hi] at hc
      obtain ⟨z, z1, z2, z3⟩ := (g2 i hi).get j c hc
      have hj : j < esz := by
        rcases Nat.lt_or_ge j esz with h | h
        · exact h
        · rw [List.getElem?_eq_none (by simp; omega)] at z1; cases z1
      have hlt : i * esz + j < m * esz := by
        have : (i + 1) * esz ≤ m * esz := Nat.mul_le_mul_right _ hi
        rw [Nat.add_mul] at this; omega
      rw [List.getElem?_take, if_pos hj, List.getElem?_drop, ← htake, List.getElem?_take, if_pos hlt] at z1
      refine ⟨z, ?_, RepI.mono hle _ z2, z3⟩
      show (if g = g then cur[0 + i * esz + j]? else G g (0 + i * esz + j)) = some z
      rw [if_pos rfl, Nat.zero_add]; simpa using z1
/-- No elements. -/
theorem Le.addVec (t : TypeId) (esz : Nat) (row : Nat → List AV) {s : List (Nat × AV)} {c : List Ch} : Le X n ⟨s, c⟩ ⟨s, .abs (vecA (.slice none 0 0) t esz 0 row) :: c⟩ :=
  Le.addAbs _ rfl (fun _ _ => ⟨[], ⟨by simp, .inl ⟨rfl, rfl⟩⟩, fun i hi => absurd hi (Nat.not_lt_zero _)⟩)
end
end Go.Sy

/- The symbolic walk, part 46: elements of several cells stored in slices of known headers. -/
set_option linter.unusedSimpArgs false
set_option linter.unusedVariables false
namespace Go.Sy
open Go.RowKit

section
variable {P : Program} {T : Tab} {X : Ctx P T} {n : Nat} {e : Env} {st : St} {a : Act} {w : World} {ops : Array Oper} {K : St → Prop}

/-- s[i] = x, x of several cells. -/
theorem X_storeV (q i : Nat) {p : Pl} {g o m cc : Nat} {t tt : TypeId} {esz by_ : Nat} {z : List Value} {dd : TD} {row row' : Nat → List AV} {ad xo : Operand} {cells : List AV} {ty : TypeId} {pos : String} {aft : Array Edge} {gd : Option (Nat × Bool)} {jj : Nat} {Si : List (Nat × AV)} {c cr : List Ch}
    (hT : T t = some ⟨esz, by_, true, z, dd⟩) (hg : guardA ops ⟨Si, c⟩ ⟨none, .store t ad xo, ty, pos, aft, gd⟩ = some true) (had : opd Si ad = some (PT g o)) (ho : o = i * esz) (hx : opd Si xo = some (.agg cells)) (hlen : cells.length = esz) (himm : AV.imm.immL cells = true)
    (hi : i < m) (hp : nthA q c = some (vecA (HD g m cc) tt esz m row, cr)) (hrow : ∀ j, j < m → row' j = if j = i then cells else row j) :
    StepX X n ops p Si c (.abs (vecA (HD g m cc) tt esz m row') :: cr) jj ⟨none, .store t ad xo, ty, pos, aft, gd⟩ .bad :=
  StepX.skip hg rfl (fun e a w S r r' => by
    have h1 := opd_sound r' had
    have h2 := opd_sound r' hx
    simp only [Rep] at h1 h2
    obtain ⟨ys, h2, h3⟩ := h2
    obtain ⟨⟨xs, g1, g2⟩, hgood, _⟩ := r.heap.nth hp
    rcases g1.2 with ⟨hnil, _⟩ | ⟨g', cap, cur, hsl, _, hgc, hcap, hmax, hcs, htake⟩
    · cases hnil
    simp only [HD, Value.slice.injEq, Option.some.injEq, Addr.mk.injEq, and_true, true_and] at hsl
    obtain ⟨rfl, rfl⟩ := hsl
    have hyl : ys.toList.length = esz := by rw [← hlen]; exact RepIL.len (RepL.toI cells himm h3)
    have hle : (i + 1) * esz ≤ m * esz := Nat.mul_le_mul_right _ hi
    have hle2 : m * esz ≤ cc * esz := Nat.mul_le_mul_right _ hcap
    rw [Nat.add_mul] at hle
    have hfit : o + ys.toList.length ≤ cur.size := by rw [hyl, hcs, ho]; omega
    have hone : ∀ v ∈ ys.toList, v.oneCell' = true := RepL.one h3
    have hrun0 := run_storeCells_cells (P := P) g o ys.toList 0 w (fun j hj => by
        rw [Nat.add_zero, cell_of_row w g _ cur tt (0, 0) hgc]
        rw [Array.getElem?_eq_getElem (by omega)]; rfl) (fun j hj => by simp [World.frozen?, hgc]) hone
    rw [Nat.add_zero] at hrun0
    have hsz : ys.size = esz := by simpa using hyl
    have hrun : (execOp a.eval ⟨none, .store t ad xo, ty, pos, aft, gd⟩).run P w = .ok .skip (w.setCells g o ys.toList) := by
      simp only [execOp, Instr.storeAt, h1, h2, Instr.sureAddr, Sem.run_bind, Sem.run_pure, Result.andThen_ok, storeVar, X.ok.size hT]
      have hc : (Value.agg ys).cells = ys := rfl
      simp [hc, hsz, hrun0]
    refine ⟨_, e, hrun, r.absTurn (st := ⟨S, c⟩) hp rfl ?_ (fun b hb => ?_) ?_ ?_⟩
    · have hh := setCells_heap ys.toList g o w cur tt (0, 0) hgc
      refine ⟨(writeAt cur o ys.toList).toList.take (m * esz), ⟨?_, .inr ⟨g, cc, _, rfl, Nat.zero_le _, hh, hcap, hmax, by rw [writeAt_size]; exact hcs, rfl⟩⟩, ?_⟩
      · simp only [List.length_take, Array.length_toList, writeAt_size]; omega
      · intro j hj
        rw [hrow j hj]
        have hjle : (j + 1) * esz ≤ m * esz := Nat.mul_le_mul_right _ hj
        rw [Nat.add_mul] at hjle
        refine RepIL.mk ?_ (fun k y hy => ?_)
        · simp only [List.length_take, List.length_drop, Array.length_toList, writeAt_size]
          have hrl := (g2 j hj).len
          simp only [List.length_take, List.length_drop] at hrl
          have hxl := g1.1
          split
          · rw [hlen]; omega
          · rw [← hrl, hxl]; omega
        · have hk : k < esz := by
            have hrl := (g2 j hj).len
            simp only [List.length_take, List.length_drop] at hrl
            rcases Nat.lt_or_ge k esz with h | h
            · exact h
            · rw [List.getElem?_eq_none] at hy
              · cases hy
              · split
                · omega
                · rw [← hrl]; omega
          rw [List.getElem?_take, if_pos hk, List.getElem?_drop, List.getElem?_take, if_pos (by omega), Array.getElem?_toList, writeAt_get _ _ _ _ hfit]
          by_cases hji : j = i
          · subst hji
            rw [if_pos rfl] at hy
            rw [if_pos (by rw [hyl]; omega)]
            obtain ⟨zz, z1, z2, z3⟩ := (RepL.toI cells himm h3).get k y hy
            exact ⟨zz, by rw [show j * esz + k - o = k by omega]; exact z1, z2, z3⟩
          · rw [if_neg hji] at hy
            rw [if_neg (by
              rw [hyl, ho]
              rcases Nat.lt_or_gt_of_ne hji with h | h
              · have : (j + 1) * esz ≤ i * esz := Nat.mul_le_mul_right _ h
                rw [Nat.add_mul] at this; omega
              · have : (i + 1) * esz ≤ j * esz := Nat.mul_le_mul_right _ h
                rw [Nat.add_mul] at this; omega)]
            obtain ⟨zz, z1, z2, z3⟩ := (g2 j hj).get k y hy
            rw [List.getElem?_take, if_pos hk, List.getElem?_drop, ← htake, List.getElem?_take, if_pos (by omega)] at z1
            exact ⟨zz, by simpa using z1, z2, z3⟩
    · exact setCells_other ys.toList g o b w (fun he => hb (by subst he; simp [vecA, HD, Value.ownBlock]))
    · exact (setCells_misc ys.toList g o w).2
    · exact (setCells_misc ys.toList g o w).1)
end
end Go.Sy

/- The symbolic walk, part 47: functions of sync/atomic and internal/race over cells at known addresses; deferred calls. -/
set_option linter.unusedSimpArgs false
set_option linter.unusedVariables false
namespace Go.Sy
open Go.RowKit

section
variable {P : Program} {T : Tab} {X : Ctx P T} {n : Nat} {e : Env} {st : St} {a : Act} {w : World} {ops : Array Oper} {K : St → Prop}

theorem run_ext {f : FuncId} {dst : Option Tmp} {args : Array Operand} {tys : Array TypeId} {ty : TypeId} {pos : String} {aft : Array Edge} {gd : Option (Nat × Bool)} (ρ : Operand → Value) (hρ : ρ (.func f) = .func (.func f) #[] #[]) (w w' : World) {v : Value}
    (h : (callFunc f (args.map ρ)).run P w = .ok (.value v) w') : (execOp ρ ⟨dst, .call ⟨.value (.func f), args, tys⟩, ty, pos, aft, gd⟩).run P w = .ok (.value v) w' := by
  simp only [execOp, resolve, hρ, Deferred.ofValue, Sem.run_bind, Sem.run_pure, Result.andThen_ok, invoke]
  simp [h]

theorem box_cell {G : IM} {b o : Nat} {t : TypeId} {cells : List AV} {v : Value} (hok : (boxA b t cells).ok G w) (hj : cells[o]? = some (.v v)) : w.cell? ⟨b, o, none⟩ = some v ∧ w.frozen? ⟨b, o, none⟩ = false := by
  obtain ⟨arr, h1, h2⟩ := hok
  obtain ⟨z, z1, z2, z3⟩ := h2.get o _ hj
  simp only [RepI] at z2
  subst z2
  exact ⟨by rw [cell_of_row w b o arr t (0, 0) h1]; simpa using z1, by simp [World.frozen?, h1]⟩

/-- A mark. -/
theorem X_mark0 {p : Pl} {f : FuncId} {fn : Func} (hf : P.funcs[f]? = some fn) (hname : (fn.name == "runtime.NumGoroutine") = false) (hb : fn.body.isNone = true) (hn : Extern.findNext fn = none) (m : Mark)
    (he : Extern.find fn = some (fun _ => do mark m; pure Extern.Race.none_)) {d : Option Nat} {tys : Array TypeId} {ty : TypeId} {pos : String} {aft : Array Edge} {gd : Option (Nat × Bool)} {j : Nat} {Si : List (Nat × AV)} {c : List Ch}
    (hg : guardA ops ⟨Si, c⟩ ⟨d, .call ⟨.value (.func f), #[], tys⟩, ty, pos, aft, gd⟩ = some true) (hd : dstOK n d = true) :
    StepX X n ops p Si c c j ⟨d, .call ⟨.value (.func f), #[], tys⟩, ty, pos, aft, gd⟩ (.tup []) :=
  StepX.val hg hd (fun e a w S r r' => ⟨.tuple #[], w, e, run_ext a.eval rfl w w (by simpa using run_call_mark0 hf hname hb hn m he w), r, by simp only [Rep, RepT]; exact ⟨_, rfl, rfl⟩⟩)
theorem X_marked {p : Pl} {f : FuncId} {fn : Func} (hf : P.funcs[f]? = some fn) (hname : (fn.name == "runtime.NumGoroutine") = false) (hb : fn.body.isNone = true) (hn : Extern.findNext fn = none) (m : Addr → Mark)
    (he : Extern.find fn = some (Extern.Race.marked m)) {x : Operand} {b o : Nat} {d : Option Nat} {tys : Array TypeId} {ty : TypeId} {pos : String} {aft : Array Edge} {gd : Option (Nat × Bool)} {j : Nat} {Si : List (Nat × AV)} {c : List Ch}
    (hg : guardA ops ⟨Si, c⟩ ⟨d, .call ⟨.value (.func f), #[x], tys⟩, ty, pos, aft, gd⟩ = some true) (hx : opd Si x = some (PT b o)) (hd : dstOK n d = true) :
    StepX X n ops p Si c c j ⟨d, .call ⟨.value (.func f), #[x], tys⟩, ty, pos, aft, gd⟩ (.tup []) :=
  StepX.val hg hd (fun e a w S r r' => by
    have h1 := opd_sound r' hx
    simp only [Rep] at h1
    refine ⟨.tuple #[], w, e, run_ext a.eval rfl w w ?_, r, by simp only [Rep, RepT]; exact ⟨_, rfl, rfl⟩⟩
    have := run_call_marked (P := P) hf hname hb hn m he ⟨b, o, none⟩ w
    simpa [h1] using this)
/-- A pointer as an unsafe one. -/
theorem X_unsafe (q : Nat) {p : Pl} {src dst' t : TypeId} (hs : P.underlying src = some (.pointer t)) (hdd : P.underlying dst' = some .unsafePointer) (hsz : (P.info? t).map (fun i => decide (i.size = 0)) = some false)
    {x : Operand} {b o : Nat} {T' : TypeId} {cells : List AV} {v : Value} {d : Option Nat} {ty : TypeId} {pos : String} {aft : Array Edge} {gd : Option (Nat × Bool)} {j : Nat} {Si : List (Nat × AV)} {c cr : List Ch}
    (hg : guardA ops ⟨Si, c⟩ ⟨d, .convert src dst' x, ty, pos, aft, gd⟩ = some true) (hx : opd Si x = some (PT b o)) (hp : nthA q c = some (boxA b T' cells, cr)) (hj : cells[o]? = some (.v v)) (hd : dstOK n d = true) :
    StepX X n ops p Si c c j ⟨d, .convert src dst' x, ty, pos, aft, gd⟩ (PT b o) :=
  StepX.val hg hd (fun e a w S r r' => by
    have h1 := opd_sound r' hx
    simp only [Rep] at h1
    have hc := box_cell (r.heap.nth hp).1 hj
    refine ⟨.pointer (some ⟨b, o, none⟩), w, e, ?_, r, by simp only [Rep]⟩
    have := run_convert_to_unsafe (P := P) hs hdd hsz hc.1
    simp only [execOp, h1, Sem.run_bind, this, Result.andThen_ok, Sem.run_pure])
/-- What a cell holds. -/
theorem X_aload (q : Nat) {p : Pl} {f : FuncId} {fn : Func} (hf : P.funcs[f]? = some fn) (hname : (fn.name == "runtime.NumGoroutine") = false) (hb : fn.body.isNone = true) (hn : Extern.findNext fn = none) (k : IntKind)
    (he : Extern.find fn = some (Extern.Atomic.loadT (.int k))) {x : Operand} {b o : Nat} {T' : TypeId} {cells : List AV} {y : Int} {d : Option Nat} {tys : Array TypeId} {ty : TypeId} {pos : String} {aft : Array Edge} {gd : Option (Nat × Bool)} {j : Nat} {Si : List (Nat × AV)} {c cr : List Ch}
    (hg : guardA ops ⟨Si, c⟩ ⟨d, .call ⟨.value (.func f), #[x], tys⟩, ty, pos, aft, gd⟩ = some true) (hx : opd Si x = some (PT b o)) (hp : nthA q c = some (boxA b T' cells, cr)) (hj : cells[o]? = some (.v (.int k y))) (hd : dstOK n d = true) :
    StepX X n ops p Si c c j ⟨d, .call ⟨.value (.func f), #[x], tys⟩, ty, pos, aft, gd⟩ (.v (.int k y)) :=
  StepX.val hg hd (fun e a w S r r' => by
    have h1 := opd_sound r' hx
    simp only [Rep] at h1
    have hc := box_cell (r.heap.nth hp).1 hj
    refine ⟨.int k y, w, e, run_ext a.eval rfl w w ?_, r, by simp only [Rep]⟩
    have := run_call_load (P := P) hf hname hb hn k he hc.1
    simpa [h1] using this)
theorem box_write (r : Rel X n e ⟨st.s, st.c⟩ a w) {q b o : Nat} {T' : TypeId} {cells : List AV} {u v : Value} {cr : List Ch} (hp : nthA q st.c = some (boxA b T' cells, cr)) (hj : cells[o]? = some (.v u)) (hv : v.oneCell' = true) :
    Rel X n e ⟨st.s, .abs (boxA b T' (cells.set o (.v v))) :: cr⟩ a (w.setCell ⟨b, o, none⟩ v) := by
  have hlt : o < cells.length := by
    rcases Nat.lt_or_ge o cells.length with h | h
    · exact h
    · rw [List.getElem?_eq_none h] at hj; cases hj
  have hW := writes_box (b := b) (t := T') (cells := cells) (o := o) (x := .v v) hlt
  exact r.absWrite (st := st) hp hW.1 hW.2.1 (hW.2.2 _ _ _ (r.heap.nth hp).1 (by simp only [RepI]) hv).2.2
theorem X_acas (q : Nat) {p : Pl} {f : FuncId} {fn : Func} (hf : P.funcs[f]? = some fn) (hname : (fn.name == "runtime.NumGoroutine") = false) (hb : fn.body.isNone = true) (hn : Extern.findNext fn = none) (k : IntKind)
    (he : Extern.find fn = some (Extern.Atomic.casT (.int k))) {x xo xn : Operand} {b o : Nat} {T' : TypeId} {cells : List AV} {y z : Int} {d : Option Nat} {tys : Array TypeId} {ty : TypeId} {pos : String} {aft : Array Edge} {gd : Option (Nat × Bool)} {j : Nat} {Si : List (Nat × AV)} {c cr : List Ch}
    (hg : guardA ops ⟨Si, c⟩ ⟨d, .call ⟨.value (.func f), #[x, xo, xn], tys⟩, ty, pos, aft, gd⟩ = some true) (hx : opd Si x = some (PT b o)) (hxo : opd Si xo = some (.v (.int k y))) (hxn : opd Si xn = some (.v (.int k z))) (hp : nthA q c = some (boxA b T' cells, cr)) (hj : cells[o]? = some (.v (.int k y))) (hd : dstOK n d = true) :
    StepX X n ops p Si c (.abs (boxA b T' (cells.set o (.v (.int k z)))) :: cr) j ⟨d, .call ⟨.value (.func f), #[x, xo, xn], tys⟩, ty, pos, aft, gd⟩ (B true) :=
  StepX.val hg hd (fun e a w S r r' => by
    have h1 := opd_sound r' hx
    have h2 := opd_sound r' hxo
    have h3 := opd_sound r' hxn
    simp only [Rep] at h1 h2 h3
    have hc := box_cell (r.heap.nth hp).1 hj
    refine ⟨.bool true, _, e, run_ext a.eval rfl w _ ?_, box_write (st := ⟨S, c⟩) r hp hj rfl, by simp only [Rep]⟩
    have := run_call_cas_hit (P := P) hf hname hb hn k he (y := z) hc.1 hc.2
    simpa [h1, h2, h3] using this)
theorem X_astore (q : Nat) {p : Pl} {f : FuncId} {fn : Func} (hf : P.funcs[f]? = some fn) (hname : (fn.name == "runtime.NumGoroutine") = false) (hb : fn.body.isNone = true) (hn : Extern.findNext fn = none)
    (he : Extern.find fn = some Extern.Atomic.storeT) {x xn : Operand} {b o : Nat} {T' : TypeId} {cells : List AV} {k : IntKind} {z : Int} {u : Value} {d : Option Nat} {tys : Array TypeId} {ty : TypeId} {pos : String} {aft : Array Edge} {gd : Option (Nat × Bool)} {j : Nat} {Si : List (Nat × AV)} {c cr : List Ch}
    (hg : guardA ops ⟨Si, c⟩ ⟨d, .call ⟨.value (.func f), #[x, xn], tys⟩, ty, pos, aft, gd⟩ = some true) (hx : opd Si x = some (PT b o)) (hxn : opd Si xn = some (.v (.int k z))) (hp : nthA q c = some (boxA b T' cells, cr)) (hj : cells[o]? = some (.v u)) (hd : dstOK n d = true) :
    StepX X n ops p Si c (.abs (boxA b T' (cells.set o (.v (.int k z)))) :: cr) j ⟨d, .call ⟨.value (.func f), #[x, xn], tys⟩, ty, pos, aft, gd⟩ (.tup []) :=
  StepX.val hg hd (fun e a w S r r' => by
    have h1 := opd_sound r' hx
    have h3 := opd_sound r' hxn
    simp only [Rep] at h1 h3
    have hc := box_cell (r.heap.nth hp).1 hj
    refine ⟨.tuple #[], _, e, run_ext a.eval rfl w _ ?_, box_write (st := ⟨S, c⟩) r hp hj rfl, by simp only [Rep, RepT]; exact ⟨_, rfl, rfl⟩⟩
    have := run_call_store (P := P) hf hname hb hn he (k := k) (y := z) hc.1 hc.2
    simpa [h1, h3] using this)
theorem X_aadd (q : Nat) {p : Pl} {f : FuncId} {fn : Func} (hf : P.funcs[f]? = some fn) (hname : (fn.name == "runtime.NumGoroutine") = false) (hb : fn.body.isNone = true) (hn : Extern.findNext fn = none) (k : IntKind)
    (he : Extern.find fn = some (Extern.Atomic.update (Op.intArith .add) k true)) {x xn : Operand} {b o : Nat} {T' : TypeId} {cells : List AV} {y z s : Int} (hs : ∀ w, (Op.intArith .add k y z).run P w = .ok (.int k s) w) {d : Option Nat} {tys : Array TypeId} {ty : TypeId} {pos : String} {aft : Array Edge} {gd : Option (Nat × Bool)} {j : Nat} {Si : List (Nat × AV)} {c cr : List Ch}
    (hg : guardA ops ⟨Si, c⟩ ⟨d, .call ⟨.value (.func f), #[x, xn], tys⟩, ty, pos, aft, gd⟩ = some true) (hx : opd Si x = some (PT b o)) (hxn : opd Si xn = some (.v (.int k z))) (hp : nthA q c = some (boxA b T' cells, cr)) (hj : cells[o]? = some (.v (.int k y))) (hd : dstOK n d = true) :
    StepX X n ops p Si c (.abs (boxA b T' (cells.set o (.v (.int k s)))) :: cr) j ⟨d, .call ⟨.value (.func f), #[x, xn], tys⟩, ty, pos, aft, gd⟩ (.v (.int k s)) :=
  StepX.val hg hd (fun e a w S r r' => by
    have h1 := opd_sound r' hx
    have h3 := opd_sound r' hxn
    simp only [Rep] at h1 h3
    have hc := box_cell (r.heap.nth hp).1 hj
    refine ⟨.int k s, _, e, run_ext a.eval rfl w _ ?_, box_write (st := ⟨S, c⟩) r hp hj rfl, by simp only [Rep]⟩
    have := run_call_add (P := P) hf hname hb hn k he (y := z) hc.1 hc.2 (hs w)
    simpa [h1, h3] using this)

/-- A contract of a function that is entered as a deferred call. -/
def FnD (P : Program) (f : FuncId) (args : List AV) (cs : List Abs) (post : AV → List Abs → Prop) : Prop :=
  Callable P f ∧ ∀ (u : FrameMode) (G : IM) (w : World) (cargs : List Value), ImOK G w → RepIT G args cargs → AbsOK G w cs →
    CallsD P f cargs.toArray u w fun en u' w' => u' = u ∧ ∃ r cr cs' G', post r cs' ∧ en = .returned cr ∧ RepI G' r cr ∧ IM.le G G' ∧
      NewAt G G' w.heap.size (blocks cs) ∧ ImOK G' w' ∧ AbsOK G' w' cs' ∧
      (∀ b ∈ blocks cs', w.heap.size ≤ b ∨ b ∈ blocks cs) ∧
      w'.os = w.os ∧ w'.tape = w.tape ∧ w'.output = w.output ∧ w.heap.size ≤ w'.heap.size ∧ ∀ k, k < w.heap.size → k ∉ blocks cs → G.still k → w'.heap[k]? = w.heap[k]?

theorem FnD.intro (ok : TabOK P T) (wide : P.follows .mixedOrders = true) {f : FuncId} {fn : Func} {c : Code} {args : List AV} {cs : List Abs} {post : AV → List Abs → Prop} (hf : P.funcs[f]? = some fn) (hb : fn.body = some c)
    (hn : (fn.name == "runtime.NumGoroutine") = false) (hargs : Nat.ble args.length fn.ntmps = true)
    (h : ∀ X : Ctx P T, SymC X fn.ntmps c ⟨enumA 0 args, cs.map Ch.abs⟩ (EndsX T fn.results post)) : FnD P f args cs post := by
  refine ⟨⟨fn, hf, by simp [hb], hn⟩, ?_⟩
  intro u G w cargs him hrep hcs
  have hargs := Nat.le_of_ble_eq_true hargs
  refine callsD_of_wp hf hb ?_
  let X : Ctx P T := ⟨ok, wide, w, G, blocks cs, fun _ => 0⟩
  let e : Env := ⟨G, fun _ => 0, fun _ => undef⟩
  have hheap : HeapOK X e w (cs.map Ch.abs) := by
    refine ⟨cs.map (fun A => (Ch.abs A, A.bs)), by simp [Function.comp_def], ?_, by rw [flat_abs]; exact hcs.2.1, ?_⟩
    · intro p hp
      obtain ⟨A, hA, rfl⟩ := List.mem_map.1 hp
      exact ⟨rfl, hcs.1 A hA⟩
    · rw [flat_abs]
      intro b hb
      exact ⟨(hcs.2.2 b hb).1, .inr hb, (hcs.2.2 b hb).2⟩
  have r : Rel X fn.ntmps e ⟨enumA 0 args, cs.map Ch.abs⟩ { tmps := cargs.toArray ++ Array.replicate (fn.ntmps - cargs.toArray.size) undef, defers := [] } w :=
    Rel.enter rfl rfl him (RepIT.toRep (e := e) args hrep) hargs hheap rfl
  refine Code.wp_mono (fun ex a' w' hc => ?_) (h X e _ w r)
  have fin : ∀ (e' : Env) (st' : St), Rel X fn.ntmps e' st' a' w' → (∃ r cs rest, resA T st' fn.results.toList = some r ∧ st'.c.Perm (cs.map Ch.abs ++ rest) ∧ r.imm = true ∧ post r cs) →
      a'.defers = [] ∧ ∃ v, (results fn a'.tmps).run P w' = .ok v w' ∧ (∃ r cr cs' G', post r cs' ∧ Ending.returned v = .returned cr ∧ RepI G' r cr ∧ IM.le G G' ∧
      NewAt G G' w.heap.size (blocks cs) ∧ ImOK G' w' ∧ AbsOK G' w' cs' ∧
      (∀ b ∈ blocks cs', w.heap.size ≤ b ∨ b ∈ blocks cs) ∧
      w'.os = w.os ∧ w'.tape = w.tape ∧ w'.output = w.output ∧ w.heap.size ≤ w'.heap.size ∧ ∀ k, k < w.heap.size → k ∉ blocks cs → G.still k → w'.heap[k]? = w.heap[k]?) := by
    intro e' st' hr ⟨x, cs', rest, h1, hk, h2, h3⟩
    obtain ⟨v, h5, h6⟩ := resA_sound hr h1
    obtain ⟨q1, q2⟩ := (hr.heap.perm hk).absOK
    refine ⟨hr.defers, v, h5, x, v, cs', e'.G, h3, rfl, Rep.toI x h2 h6, hr.le, ⟨hr.new, hr.newm⟩, ⟨hr.im, hr.mz⟩, q1, q2, hr.os, hr.tape, hr.output, hr.sz, fun k hk hnin hs => hr.keep k hk hnin hs⟩
  cases ex with
  | normal => obtain ⟨e', st', h1, h2⟩ := hc; exact fin e' st' h1 h2
  | ret => obtain ⟨e', st', h1, h2⟩ := hc; exact fin e' st' h1 h2
  | exit id => obtain ⟨e', st', h1, h2⟩ := hc; exact h2.elim
  | goto l => obtain ⟨e', st', h1, h2⟩ := hc; exact h2.elim
  | panic ch => exact hc.elim
  | outgrown => exact hc.elim

end
end Go.Sy

/- The symbolic walk, part 48: changes of memory, one behind the other. -/
set_option linter.unusedSimpArgs false
set_option linter.unusedVariables false
namespace Go.Sy
open Go.RowKit

/-- Memory at known addresses has changed so, and nothing else has. -/
def TrA (G : IM) (w : World) (cs : List Abs) (G' : IM) (w' : World) (cs' : List Abs) : Prop :=
  IM.le G G' ∧ NewAt G G' w.heap.size (blocks cs) ∧ ImOK G' w' ∧ AbsOK G' w' cs' ∧ (∀ b ∈ blocks cs', w.heap.size ≤ b ∨ b ∈ blocks cs) ∧
    w'.os = w.os ∧ w'.tape = w.tape ∧ w'.output = w.output ∧ w.heap.size ≤ w'.heap.size ∧ ∀ k, k < w.heap.size → k ∉ blocks cs → G.still k → w'.heap[k]? = w.heap[k]?

theorem TrA.trans {G G1 G2 : IM} {w w1 w2 : World} {cs cs1 cs2 : List Abs} (h1 : TrA G w cs G1 w1 cs1) (h2 : TrA G1 w1 cs1 G2 w2 cs2) : TrA G w cs G2 w2 cs2 := by
  obtain ⟨a1, a2, a3, a4, a5, a6, a7, a8, a9, a10⟩ := h1
  obtain ⟨b1, b2, b3, b4, b5, b6, b7, b8, b9, b10⟩ := h2
  refine ⟨IM.le_trans a1 b1, ⟨fun b o v hv => ?_, fun b x hx => ?_⟩, b3, b4, fun b hb => ?_, by rw [b6, a6], by rw [b7, a7], by rw [b8, a8], by omega, fun k hk hn hs => ?_⟩
  · rcases b2.1 b o v hv with h | h | h
    · exact a2.1 b o v h
    · exact .inr (.inl (by omega))
    · exact .inr (a5 b h)
  · rcases b2.2 b x hx with h | h | h
    · exact a2.2 b x h
    · exact .inr (.inl (by omega))
    · exact .inr (a5 b h)
  · rcases b5 b hb with h | h
    · exact .inl (by omega)
    · exact a5 b h
  · rw [b10 k (by omega) (fun hin => ?_) (fun L hL => ?_), a10 k hk hn hs]
    · rcases a5 k hin with h | h
      · omega
      · exact hn h
    · rcases a2.2 k _ hL with h | h | h
      · exact hs L h
      · omega
      · exact hn h
end Go.Sy

/- The symbolic walk, part 49: cuts of lists that are only read. -/
set_option linter.unusedSimpArgs false
set_option linter.unusedVariables false
namespace Go.Sy
open Go.RowKit

section
variable {P : Program} {T : Tab} {X : Ctx P T} {n : Nat} {e : Env} {st : St} {a : Act} {w : World} {ops : Array Oper} {K : St → Prop}

/-- s[k:], s only read. -/
theorem X_sliceR {p : Pl} {t el sz0 b0 : Nat} {ag0 : Bool} {z0 : List Value} {ti : TI} {x lo : Operand} {m esz k : Nat} {row : Nat → List AV} {kk : IntKind} {d : Option Nat} {ty : TypeId} {pos : String} {aft : Array Edge} {gd : Option (Nat × Bool)} {q : Nat} {Si : List (Nat × AV)} {cs : List Ch}
    (hTs : T t = some ⟨sz0, b0, ag0, z0, .slice el⟩) (hTe : T el = some ti) (hes : ti.size = esz) (hg : guardA ops ⟨Si, cs⟩ ⟨d, .slice t x (some lo) none none, ty, pos, aft, gd⟩ = some true) (hx : opd Si x = some (.sl m esz row)) (hlo : opd Si lo = some (.v (.int kk (k : Nat)))) (hd : dstOK n d = true) (hk : k ≤ m) :
    StepX X n ops p Si cs cs q ⟨d, .slice t x (some lo) none none, ty, pos, aft, gd⟩ (.sl (m - k) esz (fun i => row (k + i))) :=
  StepX.val hg hd (fun e a w S r r' => by
    have h1 := opd_sound r' hx
    simp only [Rep, RepI] at h1
    obtain ⟨ad, c, h1, hmc, h2⟩ := h1
    obtain ⟨dd, e4, _, e5⟩ := (X.ok _ _ hTs).desc
    simp only [TDOK] at e5
    subst e5
    have hb := fun w : World => run_bounds (P := P) (w := w) true m c _ _ (k : Int) (m : Int) (by omega) (by omega) (by omega) hmc (bndA_sound (o := some lo) (d := 0) r' (by simp only [bndA, hlo])) (bndA_sound (o := none) (d := (m : Int)) r' rfl)
    simp only [Option.map_none] at hb
    refine ⟨.slice (if c = k then ad else ad.map (·.add (k * esz))) (m - k) (c - k), w, e, ?_, r, ?_⟩
    · simp only [execOp, h1, Instr.sliceAt, Instr.slice, Sem.run_bind, run_underlying e4, Result.andThen_ok]
      simp only [run_underlying e4, Option.map_none, hb, X.ok.size hTe, Sem.run_bind, Result.andThen_ok, Sem.run_pure, Int.toNat_natCast, hes]
    · simp only [Rep, RepI]
      refine ⟨_, _, rfl, by omega, ?_⟩
      rcases Nat.eq_or_lt_of_le hk with h | h
      · exact .inl (by omega)
      · rcases h2 with h2 | ⟨b, o, rfl, h2⟩
        · omega
        · right
          refine ⟨b, o + k * esz, ?_, fun i hi => ?_⟩
          · rw [if_neg (by omega), Option.map_some, add_addr]
          · have := h2 (k + i) (by omega)
            rw [Nat.add_mul] at this
            rw [Nat.add_assoc]; exact this)
end
end Go.Sy

/- The symbolic walk, part 50: data of a type that holds itself. -/
set_option linter.unusedSimpArgs false
set_option linter.unusedVariables false
namespace Go.Sy
open Go.RowKit

/-- As OpensT, up to a depth of reading. -/
def OpensB (N : Nat) (P : Program) (t : Nat) {α : Type} (cells : α → List AV) (ok : α → Prop) : Prop :=
  ∀ (H : Type) (enc : TypeId × Value → H) (W : World) (fuel : Nat) (cs : List Value) (d : DataW H) (ps : List MemPlace), fuel ≤ N →
    DataW.trod enc P W 0 (fun _ => true) true fuel t cs = some (d, ps) → ∃ x : α, ok x ∧ RepIL (memG W) (cells x) cs
theorem OpensT.toB {P : Program} {t : Nat} {α : Type} {cells : α → List AV} {ok : α → Prop} (h : OpensT P t cells ok) (N : Nat) : OpensB N P t cells ok := fun H enc W fuel cs d ps _ hr => h H enc W fuel cs d ps hr
theorem OpensT.ofB {P : Program} {t : Nat} {α : Type} {cells : α → List AV} {ok : α → Prop} (h : ∀ N, OpensB N P t cells ok) : OpensT P t cells ok := fun H enc W fuel cs d ps hr => h fuel H enc W fuel cs d ps (Nat.le_refl _) hr
theorem OpensB.mono {N M : Nat} {P : Program} {t : Nat} {α : Type} {cells : α → List AV} {ok : α → Prop} (h : OpensB N P t cells ok) (hM : M ≤ N) : OpensB M P t cells ok := fun H enc W fuel cs d ps h0 hr => h H enc W fuel cs d ps (by omega) hr
theorem OpensB.zero {P : Program} {t : Nat} {α : Type} {cells : α → List AV} {ok : α → Prop} : OpensB 0 P t cells ok := fun H enc W fuel cs d ps h0 hr => by
  have : fuel = 0 := by omega
  subst this
  simp [DataW.trod] at hr

theorem opensB_slice {N : Nat} {P : Program} {t e : Nat} {α : Type} [Inhabited α] {cells : α → List AV} {ok : α → Prop} {esz : Nat} (h : P.underlying t = some (.slice e)) (hsz : P.cellsOf e = esz) (hpos : 0 < esz)
    (hlen : ∀ x, (cells x).length = esz) (he : OpensB N P e cells ok) :
    OpensB (N + 1) P t (fun l : List α => [SL esz cells l]) (fun l => l.length ≤ maxLen ∧ ∀ i, i < l.length → ok (l.getD i default)) := by
  intro H enc W fuel cs d ps hN hr
  cases fuel with
  | zero => simp [DataW.trod] at hr
  | succ fuel =>
    unfold DataW.trod at hr
    rw [h] at hr
    simp only at hr
    split at hr <;> try (simp_all; done)
    · refine ⟨[], ⟨by simp, by simp⟩, ?_⟩
      simp only [RepIL, RepI]
      exact ⟨_, [], rfl, ⟨none, 0, rfl, Nat.le_refl _, .inl rfl⟩, rfl, rfl⟩
    · rename_i e' a len cap heq
      cases heq
      split at hr
      · rename_i hc
        obtain ⟨_, hlc, hcm⟩ := hc
        cases hm : (List.range len).mapM (fun i => (W.cells? 0 (a.add (i * P.cellsOf e)) (P.cellsOf e)).bind (DataW.trod enc P W 0 (fun _ => true) true fuel e)) with
        | none => rw [hm] at hr; simp at hr
        | some xs =>
          have key : ∀ i, i < len → ∃ x : α, ok x ∧ ∃ row : List Value, W.cells? 0 (a.add (i * esz)) esz = some row ∧ RepIL (memG W) (cells x) row := by
            intro i hi
            obtain ⟨x, hx, _⟩ := mapM_get hm i i (List.getElem?_range hi)
            rw [hsz] at hx
            cases hrow : W.cells? 0 (a.add (i * esz)) esz with
            | none => rw [hrow] at hx; simp at hx
            | some row =>
              rw [hrow] at hx
              simp only [Option.bind_some] at hx
              obtain ⟨y, hy, hyr⟩ := he H enc W fuel row x.1 x.2 (by omega) hx
              exact ⟨y, hy, row, rfl, hyr⟩
          obtain ⟨l, hl, hq⟩ := choose_list (Q := fun i x => ok x ∧ ∃ row : List Value, W.cells? 0 (a.add (i * esz)) esz = some row ∧ RepIL (memG W) (cells x) row) len key
          have cellsq : ∀ (ad : Addr) (row : List Value), W.cells? 0 ad esz = some row → ∀ (j : Nat) (z : Value), row[j]? = some z → W.cell? (ad.add j) = some z := by
            intro ad row hrow j z hz
            unfold World.cells? at hrow
            rw [if_pos (Nat.zero_le _)] at hrow
            have hjl : j < esz := by
              have := mapM_len hrow
              rcases Nat.lt_or_ge j esz with h | h
              · exact h
              · rw [List.getElem?_eq_none (by rw [this]; simpa using h)] at hz; cases hz
            obtain ⟨x, hx, hx2⟩ := mapM_get hrow j j (List.getElem?_range hjl)
            rw [hx2] at hz; cases hz
            exact hx
          refine ⟨l, ⟨by omega, fun i hi => (hq i (by omega)).1⟩, ?_⟩
          simp only [RepIL]
          refine ⟨_, [], rfl, ?_, rfl, rfl⟩
          simp only [RepI]
          refine ⟨some a, cap, by rw [hl], by omega, ?_⟩
          rcases Nat.eq_zero_or_pos len with h0 | h0
          · exact .inl (by omega)
          · refine .inr ?_
            have hspot : a.spot = none := by
              obtain ⟨_, row, hrow, hrep⟩ := hq 0 h0
              have hrl := RepIL.len hrep
              rw [hlen] at hrl
              have h1 := cellsq _ row hrow 0 (row[0]'(by omega)) (by simp)
              simp only [Nat.zero_mul] at h1
              have : ((a.add 0).add 0) = a := by simp [Addr.add]
              rw [this] at h1
              exact World.cell?_spot h1
            obtain ⟨b, o, sp⟩ := a
            simp only at hspot
            subst hspot
            refine ⟨b, o, rfl, fun i hi => CellsAt.mk (fun j c hc => ?_)⟩
            obtain ⟨_, row, hrow, hrep⟩ := hq i (by omega)
            obtain ⟨z, z1, z2, z3⟩ := hrep.get j c hc
            refine ⟨z, ?_, z2, z3⟩
            have := cellsq _ row hrow j z z1
            rw [add_addr, add_addr] at this
            show W.cell? ⟨b, o + i * esz + j, none⟩ = some z
            exact this
      · cases hr

/-- Fields, from a place on. -/
def OpensFB (N : Nat) (P : Program) (l : List Field) (start total : Nat) {α : Type} (cells : α → List AV) (ok : α → Prop) : Prop :=
  ∀ (H : Type) (enc : TypeId × Value → H) (W : World) (fuel : Nat) (cs : List Value) (xs : List (DataW H × List MemPlace)), fuel ≤ N → cs.length = total →
    l.mapM (fun f => DataW.trod enc P W 0 (fun _ => true) true fuel f.type ((cs.drop f.offset).take (P.cellsOf f.type))) = some xs → ∃ x : α, ok x ∧ RepIL (memG W) (cells x) (cs.drop start)

theorem opensFB_nil {N : Nat} {P : Program} {total : Nat} : OpensFB N P [] total total (fun _ : Unit => []) (fun _ => True) := by
  intro H enc W fuel cs xs _ hl _
  exact ⟨(), trivial, by simp only [RepIL]; exact List.drop_eq_nil_of_le (by omega)⟩

theorem opensFB_cons {N : Nat} {P : Program} {f : Field} {l : List Field} {start total sz : Nat} {α β : Type} {cells : α → List AV} {ok : α → Prop} {cells2 : β → List AV} {ok2 : β → Prop}
    (hoff : f.offset = start) (hsz : P.cellsOf f.type = sz) (h1 : OpensB N P f.type cells ok) (h2 : OpensFB N P l (start + sz) total cells2 ok2) :
    OpensFB N P (f :: l) start total (fun p : α × β => cells p.1 ++ cells2 p.2) (fun p => ok p.1 ∧ ok2 p.2) := by
  intro H enc W fuel cs xs hN hl hm
  rw [List.mapM_cons] at hm
  cases hb : DataW.trod enc P W 0 (fun _ => true) true fuel f.type ((cs.drop f.offset).take (P.cellsOf f.type)) with
  | none => simp [hb] at hm
  | some y =>
    cases hr : l.mapM (fun f => DataW.trod enc P W 0 (fun _ => true) true fuel f.type ((cs.drop f.offset).take (P.cellsOf f.type))) with
    | none => simp [hb, hr] at hm
    | some ys =>
      obtain ⟨x, hx, hxr⟩ := h1 H enc W fuel _ y.1 y.2 hN hb
      obtain ⟨x2, hx2, hxr2⟩ := h2 H enc W fuel cs ys hN hl hr
      refine ⟨(x, x2), ⟨hx, hx2⟩, ?_⟩
      rw [hoff, hsz] at hxr
      have := hxr.app hxr2
      rwa [← List.drop_drop, List.take_append_drop] at this

theorem opensB_struct {N : Nat} {P : Program} {t total : Nat} {fs : Array Field} {α β : Type} {cells : α → List AV} {ok : α → Prop} {cells2 : β → List AV} (g : α → β) (h : P.underlying t = some (.struct fs)) (hsz : P.cellsOf t = total)
    (hf : OpensFB N P fs.toList 0 total cells ok) (hg : ∀ x G ys, RepIL G (cells x) ys → RepIL G (cells2 (g x)) ys) {ok2 : β → Prop} (hok : ∀ x, ok x → ok2 (g x)) : OpensB (N + 1) P t cells2 ok2 := by
  intro H enc W fuel cs d ps hN hr
  cases fuel with
  | zero => simp [DataW.trod] at hr
  | succ fuel =>
    unfold DataW.trod at hr
    rw [h] at hr
    simp only at hr
    split at hr <;> try (simp_all; done)
    rename_i hc
    cases hm : fs.toList.mapM (fun f => DataW.trod enc P W 0 (fun _ => true) true fuel f.type ((cs.drop f.offset).take (P.cellsOf f.type))) with
    | none => rw [hm] at hr; simp at hr
    | some xs =>
      obtain ⟨x, hx, hxr⟩ := hf H enc W fuel cs xs (by omega) (by rw [hc, hsz]) hm
      exact ⟨g x, hok x hx, hg _ _ _ (by simpa using hxr)⟩


theorem repI_rows {G : IM} {n esz : Nat} {row row' : Nat → List AV} {y : Value} (hr : ∀ i, i < n → row i = row' i) (h : RepI G (.sl n esz row) y) : RepI G (.sl n esz row') y := by
  simp only [RepI] at h ⊢
  obtain ⟨a, c, e, hc, r⟩ := h
  refine ⟨a, c, e, hc, ?_⟩
  rcases r with r | ⟨b, o, ea, r⟩
  · exact .inl r
  · exact .inr ⟨b, o, ea, fun i hi => by rw [← hr i hi]; exact r i hi⟩
end Go.Sy

/- The symbolic walk, part 60: a law's row by a contract that knows a library's variable. -/
set_option linter.unusedSimpArgs false
set_option linter.unusedVariables false
namespace Go.Sy
open Go.RowKit Go.WideShapes Go.ChangeShapes

/-- What is known of one cell, for good. -/
def knowA (b o : Nat) (v : Value) : Abs where
  bs := []
  ok := fun G w => G b o = some v
  keep := fun hG _ h => hG.1 _ _ _ h

/-- A contract over pieces of no blocks, at the whole memory known. -/
theorem FnA.law0 {P : Program} {f : FuncId} {avs : List AV} {cs : List Abs} {post : AV → List Abs → Prop} (h : FnA P f avs cs post) (hp : ∀ r c, post r c → r = B true) (hb : blocks cs = []) {W : World} {args : Array Value}
    (hok : ∀ A ∈ cs, A.ok (memG W) W) (hr : RepIT (memG W) avs args.toList) :
    Calls P f args W fun e w' => e = .returned (.bool true) ∧ Below W.heap.size W w' := by
  have h1 := h.2 (memG W) W args.toList (memG_ok W) hr ⟨hok, by rw [hb]; exact List.nodup_nil, by rw [hb]; intro b hb'; cases hb'⟩
  rw [Array.toArray_toList] at h1
  refine h1.mono ?_
  rintro e w' ⟨r, cr, cs', G', hpo, rfl, g1, g2, g3, g4, g5, g6, o1, o2, o3, o4, o5⟩
  rw [hp r cs' hpo] at g1
  simp only [RepI] at g1
  refine ⟨by rw [g1], o1, o2, o3, o4, fun k hk => o5 k hk (by rw [hb]; intro h; cases h) (fun L hL => by simp [memG] at hL)⟩

/-- What a law's row asks of the call. -/
theorem law_callK {P : Program} {fn : Func} {f : FuncId} {s : ChangeSpec} {tb : Nat} {ts : List Nat} {α : Type} {avs : α → List AV} {ok : α → Prop} {cs : List Abs} (W : World)
    (hts : fn.params.toList = ts) (hrt : fn.resultTypes = #[tb]) (htb : P.underlying tb = some .bool) (hvars : s.vars = [])
    (hfn : ∀ (H : Type) (ds : List (DataW H)), ds.length = ts.length → s.fn H ds = { results := [.lit (.bool true)], args := ds })
    (ho : OpensA P ts avs ok) (hl : laidOutB P = true) (hk : ∀ t ∈ ts, P.readableRec t = true ∧ t < P.types.size)
    (hb : blocks cs = []) (hok : ∀ A ∈ cs, A.ok (memG W) W)
    (hc : ∀ x, ok x → FnA P f (avs x) cs (fun r cs' => r = B true ∧ cs' = cs)) {H : Type} (enc : TypeId × Value → H) :
    ∀ (base : Nat) (args : Array Value) (ds gs : List (DataW H)) (before : List MemPlace),
      (∀ (j : Nat) t v, fn.params[j]? = some t → args[j]? = some v → Value.okWide P W .any base t v) →
      DataW.Whole enc P fn.params.toList s.vars false W args.toList ds gs before →
      Calls P f args W fun e W' => ∃ v, e = .returned v ∧ s.post enc P fn false true false false W args v W' := by
  intro base args ds gs before hval hW
  have hW' := hW
  obtain ⟨p, q, hA, hV, rfl, hfz, hnd⟩ := hW
  rw [hvars] at hV
  obtain ⟨rfl, rfl⟩ := trodVars_none hV
  rw [hts] at hA
  obtain ⟨x, hx, hxr⟩ := ho H enc W base args.toList ds p (fun j t v h1 h2 => hval j t v (by rw [← hts] at h1; simpa using h1) (by simpa using h2)) hA
  refine ((hc x hx).law0 (fun r c h => h.1) hb hok hxr).mono fun e W' ⟨he, bel⟩ => ?_
  subst he
  have hlen := trodAll_count hA
  refine ⟨_, rfl, ds, [], p ++ [], [], p, [], hW', ?_, ?_, ?_, bel.frame _, fun h => by cases h⟩
  · rw [List.append_nil, hfn H ds hlen, hrt]
    exact trodAll_mk1 (shut_bool htb _)
  · rw [List.append_nil, hfn H ds hlen, hts]
    exact trodAll_below hl bel hk hA
  · rw [List.append_nil, hfn H ds hlen, hvars]
    rfl
end Go.Sy

/- The symbolic walk, part 51: pure calls in drawn regions of effects. -/
set_option linter.unusedSimpArgs false
set_option linter.unusedVariables false
namespace Go.Sy
open Go.RowKit

section
variable {P : Program} {T : Tab} {X : Ctx P T} {n : Nat} {e : Env} {st : St} {a : Act} {w : World} {ops : Array Oper} {K : St → Prop}

/-- A call that leaves memory alone, in a drawn region of effects. -/
theorem SXp {p : Pl} {base : List (Nat × AV)} {C : Nat → List Ch} {rest : List Oper} {done : Done} {f : FuncId} {dst : Nat} {args : Array Operand} {tys : Array TypeId} {ty : TypeId} {pos : String} {aft : Array Edge} {gd : Option (Nat × Bool)} {avs : List AV} {x : AV}
    (hf : FnP P f avs (· = x)) (hg : guardA ops ⟨availX p done.length done aft.toList base, []⟩ ⟨some dst, .call ⟨.value (.func f), args, tys⟩, ty, pos, aft, gd⟩ = some true) (ha : opds (availX p done.length done aft.toList base) args.toList = some avs) (himm : AV.imm.immL avs = true) (hd : Nat.blt dst n = true)
    (hc : p.creB done.length x = true) (hE : (!(p.E.contains done.length)) = true) (k : normG (done ++ [(some dst, x)]) fun done => SymX X n ops p base C K rest done) :
    SymX X n ops p base C K (⟨some dst, .call ⟨.value (.func f), args, tys⟩, ty, pos, aft, gd⟩ :: rest) done :=
  SX x hc (fun ph _ _ => by
    rw [if_neg (not_mem_of_contains hE)]
    exact X_callA [] (FnP.toA hf []) (by rw [guardA_any (c' := [])]; exact hg) ha himm rfl hd) k
end
end Go.Sy
