/- The symbolic walk, part 37: maps at known addresses; pointers compared; new memory told at its address; chunks packed. -/
import Derived.Test.YtgmdpfoccnalnaaGreatE5
import Derived.MapKept
import Derived.Laws.CopyRow
set_option linter.unusedSimpArgs false
set_option linter.unusedVariables false
namespace Go.Sy
open Go.RowKit Go.MapKept

section
variable {P : Program} {T : Tab} {X : Ctx P T} {n : Nat} {e : Env} {st : St} {a : Act} {w : World} {ops : Array Oper} {K : St → Prop}

/-! ### New memory -/
/-- A block that is laid, told at its address. -/
theorem Rel.allocAbs {s : List (Nat × AV)} {c : List Ch} (r : Rel X n e ⟨s, c⟩ a w) {A : Abs} {o : Obj} (hbs : A.bs = [w.heap.size]) (hok : A.ok e.G (w.alloc o)) : Rel X n e ⟨s, .abs A :: c⟩ a (w.alloc o) := by
  have hb : ∀ b, b < w.heap.size → (w.alloc o).heap[b]? = w.heap[b]? := fun b h => Below.heap_alloc w o b h
  have hsz : (w.alloc o).heap.size = w.heap.size + 1 := Array.size_push o
  have := r.swapAbs (st := ⟨s, c⟩) (As := []) (As' := [A]) (c := c) (G' := e.G) (w' := w.alloc o) (List.Perm.refl _) (IM.le_refl _) ⟨?_, ?_⟩ ⟨fun b o v h => .inl h, fun b x h => .inl h⟩ ⟨?_, ?_, ?_⟩ ?_ ⟨rfl, rfl, rfl⟩ (by omega) (fun k hk _ _ => hb k hk)
  · simpa using this
  · intro b o' v hv
    have h1 := r.im b o' v hv
    simp only [World.cell?] at h1 ⊢
    rw [hb b (r.glt0 _ _ _ hv)]; exact h1
  · exact r.mzKeep (fun b h _ => hb b h)
  · intro B hB; simp only [List.mem_singleton] at hB; subst hB; exact hok
  · simp [blocks, hbs]
  · intro b hbb
    have : b = w.heap.size := by simpa [blocks, hbs] using hbb
    subst this
    exact ⟨by omega, r.free (Nat.le_refl _)⟩
  · intro b hbb
    have : b = w.heap.size := by simpa [blocks, hbs] using hbb
    subst this; exact .inl (Nat.le_refl _)

/-! ### Maps -/
/-- Keys of a type. -/
structure Key (P : Program) (kt : TypeId) (α : Type) where
  kv : α → Value
  d : TypeDesc
  hd : P.underlying kt = some d
  ik : ∀ a, IsKey d (kv a)
  inj : ∀ a b, kv a = kv b → a = b

def intKey {P : Program} {kt : TypeId} (h : P.underlying kt = some (.int .i64)) : Key P kt Int := ⟨fun i => .int .i64 i, _, h, fun _ => rfl, fun a b h => by cases h; rfl⟩
def strKey {P : Program} {kt : TypeId} (h : P.underlying kt = some .string) : Key P kt (List UInt8) := ⟨fun l => S l, _, h, fun _ => trivial, fun a b h => by
  simp only [S, Value.string.injEq, ByteArray.mk.injEq] at h
  exact (List.toArray_inj h)⟩

/-- A map whose block is known (or that is nil). -/
def mapA {α : Type} (kv : α → Value) (mo : Option Nat) (es : List (α × AV)) : Abs where
  bs := mo.toList
  ok := fun G w => match mo with
    | none => es = []
    | some b => ∃ arr cl, w.heap[b]? = some (.map arr cl) ∧ arr.toList.map (·.key) = es.map (fun q => kv q.1) ∧ RepIT G (es.map (·.2)) (arr.toList.map (·.val)) ∧ (arr.toList.map (·.born)).Nodup ∧ ∀ x ∈ arr.toList, x.born < cl
  keep := by
    rintro G H w w' hG hb hok
    cases mo with
    | none => exact hok
    | some b =>
      obtain ⟨arr, cl, h1, h2, h3, h4⟩ := hok
      exact ⟨arr, cl, by rw [hb b (by simp)]; exact h1, h2, RepIT.mono hG _ h3, h4⟩

def lookE {α : Type} [DecidableEq α] (k : α) : List (α × AV) → Option AV
  | [] => none
  | (j, x) :: r => if j = k then some x else lookE k r
def updE {α : Type} [DecidableEq α] (k : α) (x : AV) : List (α × AV) → List (α × AV)
  | [] => [(k, x)]
  | (j, y) :: r => if j = k then (j, x) :: r else (j, y) :: updE k x r

theorem updE_new {α : Type} [DecidableEq α] {k : α} {x : AV} : ∀ {es : List (α × AV)}, lookE k es = none → updE k x es = es ++ [(k, x)]
  | [], _ => rfl
  | (j, y) :: r, h => by
    simp only [lookE] at h
    split at h
    · cases h
    · rename_i hj
      simp only [updE, if_neg hj, updE_new h, List.cons_append]

theorem find_map {α : Type} [DecidableEq α] {kt : TypeId} (K : Key P kt α) (G : IM) (k : α) : ∀ (arr : List MapEntry) (es : List (α × AV)) (i : Nat), arr.map (·.key) = es.map (fun q => K.kv q.1) → RepIT G (es.map (·.2)) (arr.map (·.val)) →
    (Instr.findNow K.d (K.kv k) arr i = some none ∧ lookE k es = none) ∨
    (∃ j e x, Instr.findNow K.d (K.kv k) arr i = some (some (i + j, e.val)) ∧ arr[j]? = some e ∧ e.key = K.kv k ∧ lookE k es = some x ∧ RepI G x e.val ∧
      ∀ y, (updE k y es).map (fun q => K.kv q.1) = es.map (fun q => K.kv q.1) ∧ (updE k y es).map (·.2) = (es.map (·.2)).set j y)
  | [], [], i, _, _ => .inl ⟨rfl, rfl⟩
  | [], _ :: _, i, h, _ => by simp at h
  | _ :: _, [], i, h, _ => by simp at h
  | e :: arr, (j, x) :: es, i, h, hr => by
    simp only [List.map_cons, List.cons.injEq] at h hr
    simp only [RepIT] at hr
    obtain ⟨z, zs, ⟨rfl, rfl⟩, hr1, hr2⟩ := hr
    obtain ⟨b, hb, hiff⟩ := sameNow_of_keys (K.ik k) (h.1 ▸ K.ik j)
    cases b with
    | true =>
      have hkj : K.kv k = e.key := hiff.1 rfl
      have : j = k := K.inj _ _ (by rw [← h.1, hkj])
      subst this
      refine .inr ⟨0, e, x, by simp [Instr.findNow, hb], rfl, hkj.symm, by simp [lookE], hr1, fun y => ?_⟩
      simp [updE]
    | false =>
      have hkj : K.kv k ≠ e.key := fun hh => by have := hiff.2 hh; cases this
      have hne : j ≠ k := fun hh => hkj (by rw [h.1, hh])
      rcases find_map K G k arr es (i + 1) h.2 hr2 with ⟨h1, h2⟩ | ⟨q, e', x', h1, h2, h3, h4, h5, h6⟩
      · exact .inl ⟨by simp [Instr.findNow, hb, h1], by simp [lookE, hne, h2]⟩
      · refine .inr ⟨q + 1, e', x', by simp [Instr.findNow, hb, h1]; omega, by simpa using h2, h3, by simp [lookE, hne, h4], h5, fun y => ?_⟩
        obtain ⟨g1, g2⟩ := h6 y
        simp [updE, hne, g1, g2]

def lookAV (commaOk : Bool) (o : Option AV) (z : AV) : AV := bif commaOk then .tup [o.getD z, B o.isSome] else o.getD z

/-- m[k]. -/
theorem X_look (q : Nat) {α : Type} [DecidableEq α] {kt et mt : TypeId} (K : Key P kt α) {p : Pl} {mo : Option Nat} {es : List (α × AV)} {m x : Operand} {d : Option Nat} {k : α} {zv : Value} {z : AV} {commaOk : Bool} {pi : TypeInfo} {ty : TypeId} {pos : String} {aft : Array Edge} {gd : Option (Nat × Bool)} {j : Nat} {Si : List (Nat × AV)} {c cr : List Ch}
    (hm : P.underlying mt = some (.map kt et)) (hpi : P.info? et = some pi) (hz : pi.zero = some zv) (hzr : ∀ e : Env, Rep e z zv) (hzi : z.imm = true)
    (hg : guardA ops ⟨Si, c⟩ ⟨d, .lookup mt m x commaOk, ty, pos, aft, gd⟩ = some true) (hmo : opd Si m = some (.v (.map mo))) (hx : opd Si x = some (.v (K.kv k))) (hp : nthA q c = some (mapA K.kv mo es, cr)) (hd : dstOK n d = true) :
    StepX X n ops p Si c c j ⟨d, .lookup mt m x commaOk, ty, pos, aft, gd⟩ (lookAV commaOk (lookE k es) z) :=
  StepX.val hg hd (fun e a w S r r' => by
    have h1 := opd_sound r' hmo
    have h2 := opd_sound r' hx
    simp only [Rep] at h1 h2
    obtain ⟨hok, _⟩ := r.heap.nth hp
    have hzero : (zeroValue et).run P w = .ok zv w := by simp [zeroValue, typeInfo, hpi, hz]
    have key : ∃ v, Rep e ((lookE k es).getD z) v ∧ (Instr.lookup mt (.map mo) (K.kv k) commaOk).run P w = .ok (if commaOk then .tuple #[v, .bool (lookE k es).isSome] else v) w := by
      cases mo with
      | none =>
        have hes : es = [] := hok
        subst hes
        have hf : (Instr.findKey kt (K.kv k) []).run P w = .ok none w := run_findKey K.hd rfl
        refine ⟨zv, hzr e, ?_⟩
        simp [Instr.lookup, run_underlying hm, run_checkKey K.hd (K.ik k), hf, hzero, lookE]
      | some b =>
        obtain ⟨arr, cl, g1, g2, g3, g4⟩ := hok
        rcases find_map K e.G k arr.toList es 0 g2 g3 with ⟨f1, f2⟩ | ⟨jj, en, xx, f1, f2, f3, f4, f5, _⟩
        · have hf := run_findKey (w := w) K.hd f1
          refine ⟨zv, by rw [f2]; exact hzr e, ?_⟩
          simp [Instr.lookup, run_underlying hm, MapKept.run_getObj_map g1, run_checkKey K.hd (K.ik k), hf, hzero, f2]
        · have hf := run_findKey (w := w) K.hd f1
          refine ⟨en.val, by rw [f4]; exact RepI.toRep xx f5, ?_⟩
          simp [Instr.lookup, run_underlying hm, MapKept.run_getObj_map g1, run_checkKey K.hd (K.ik k), hf, f4]
    obtain ⟨v, k1, k2⟩ := key
    refine ⟨if commaOk then .tuple #[v, .bool (lookE k es).isSome] else v, w, e, by simp only [execOp, h1, h2, Sem.run_bind, k2, Result.andThen_ok, Sem.run_pure], r, ?_⟩
    cases commaOk with
    | false => simpa [lookAV] using k1
    | true => simp only [lookAV, cond_true, if_true, Rep, RepT]; exact ⟨_, rfl, _, _, rfl, k1, _, _, rfl, rfl, rfl⟩)

theorem map_modify_key {arr : Array MapEntry} {i : Nat} {f : MapEntry → MapEntry} {en : MapEntry} (hi : arr[i]? = some en) (hk : (f en).key = en.key) : (arr.modify i f).toList.map (·.key) = arr.toList.map (·.key) :=
  modify_keys i f (fun e he => by rw [hi] at he; cases he; exact hk)

theorem map_modify_val {arr : Array MapEntry} {i : Nat} {f : MapEntry → MapEntry} {en : MapEntry} (hi : arr[i]? = some en) : (arr.modify i f).toList.map (·.val) = (arr.toList.map (·.val)).set i (f en).val := by
  apply List.ext_getElem?
  intro j
  rw [List.getElem?_set]
  simp only [List.getElem?_map, Array.getElem?_toList, Array.getElem?_modify, List.length_map, Array.length_toList]
  obtain ⟨hlt, rfl⟩ := Array.getElem?_eq_some_iff.1 hi
  by_cases hij : i = j
  · subst hij; simp [hlt]
  · simp [hij]

theorem map_modify_born {arr : Array MapEntry} {i : Nat} {f : MapEntry → MapEntry} (hf : ∀ e, (f e).born = e.born) : (arr.modify i f).toList.map (·.born) = arr.toList.map (·.born) := by
  apply List.ext_getElem?
  intro j
  simp only [List.getElem?_map, Array.getElem?_toList, Array.getElem?_modify]
  by_cases hij : i = j
  · subst hij
    cases arr[i]? with
    | none => simp
    | some e => simp [hf]
  · simp [hij]

theorem repIT_set {G : IM} : ∀ {xs : List AV} {vs : List Value} (j : Nat) {x : AV} {v : Value}, RepIT G xs vs → RepI G x v → RepIT G (xs.set j x) (vs.set j v)
  | [], vs, j, x, v, h, hx => by
    simp only [RepIT] at h; subst h; simp [RepIT]
  | y :: xs, vs, j, x, v, h, hx => by
    simp only [RepIT] at h
    obtain ⟨z, zs, rfl, h1, h2⟩ := h
    cases j with
    | zero => simp only [List.set_cons_zero, RepIT]; exact ⟨v, zs, rfl, hx, h2⟩
    | succ j => simp only [List.set_cons_succ, RepIT]; exact ⟨z, _, rfl, h1, repIT_set j h2 hx⟩

/-- m[k] = x. -/
theorem X_upd (q : Nat) {α : Type} [DecidableEq α] {kt et mt : TypeId} (K : Key P kt α) {p : Pl} {b : Nat} {es : List (α × AV)} {m x y : Operand} {k : α} {av : AV} {ty : TypeId} {pos : String} {aft : Array Edge} {gd : Option (Nat × Bool)} {j : Nat} {Si : List (Nat × AV)} {c cr : List Ch}
    (hm : P.underlying mt = some (.map kt et)) (hsb : ∀ k, Instr.sameBits 10000 (K.kv k) (K.kv k) = true)
    (hg : guardA ops ⟨Si, c⟩ ⟨none, .mapUpdate mt m x y, ty, pos, aft, gd⟩ = some true) (hmo : opd Si m = some (.v (.map (some b)))) (hx : opd Si x = some (.v (K.kv k))) (hy : opd Si y = some av) (himm : av.imm = true) (hp : nthA q c = some (mapA K.kv (some b) es, cr)) :
    StepX X n ops p Si c (.abs (mapA K.kv (some b) (updE k av es)) :: cr) j ⟨none, .mapUpdate mt m x y, ty, pos, aft, gd⟩ .bad :=
  StepX.skip hg rfl (fun e a w S r r' => by
    have h1 := opd_sound r' hmo
    have h2 := opd_sound r' hx
    have h3 := opd_sound r' hy
    simp only [Rep] at h1 h2
    obtain ⟨⟨arr, cl, g1, g2, g3, g4, g5⟩, _⟩ := r.heap.nth hp
    have hlt : b < w.heap.size := (Array.getElem?_eq_some_iff.1 g1).1
    have fin : ∀ (arr' : Array MapEntry) (cl' : Nat), (Instr.mapUpdate mt (.map (some b)) (K.kv k) (a.eval y)).run P w = .ok () { w with heap := w.heap.setIfInBounds b (.map arr' cl') } →
        arr'.toList.map (·.key) = (updE k av es).map (fun q => K.kv q.1) → RepIT e.G ((updE k av es).map (·.2)) (arr'.toList.map (·.val)) → (arr'.toList.map (·.born)).Nodup → (∀ x ∈ arr'.toList, x.born < cl') →
        ∃ w' e', (execOp a.eval ⟨none, .mapUpdate mt m x y, ty, pos, aft, gd⟩).run P w = .ok .skip w' ∧ Rel X n e' ⟨S, .abs (mapA K.kv (some b) (updE k av es)) :: cr⟩ a w' := by
      intro arr' cl' hrun k1 k2 k3 k4
      refine ⟨{ w with heap := w.heap.setIfInBounds b (.map arr' cl') }, e, by simp only [execOp, h1, h2, Sem.run_bind, hrun, Result.andThen_ok, Sem.run_pure], r.absTurn (st := ⟨S, c⟩) hp rfl ⟨arr', cl', by simp [hlt], k1, k2, k3, k4⟩ (fun b' hb' => ?_) ⟨rfl, rfl, rfl⟩ (by simp)⟩
      have hne : b ≠ b' := fun hh => hb' (by subst hh; simp [mapA])
      simp [hne]
    rcases find_map K e.G k arr.toList es 0 g2 g3 with ⟨f1, f2⟩ | ⟨jj, en, xx, f1, f2, f3, f4, f5, f6⟩
    · have hf := run_findKey (w := w) K.hd f1
      refine fin (arr.push ⟨K.kv k, a.eval y, cl⟩) (cl + 1) ?_ ?_ ?_ ?_ ?_
      · simp [Instr.mapUpdate, run_underlying hm, MapKept.run_getObj_map g1, run_checkKey K.hd (K.ik k), hf, MapKept.run_setObj_map _ g1]
      · rw [updE_new f2]; simp [g2]
      · rw [updE_new f2]
        simp only [Array.toList_push, List.map_append, List.map_cons, List.map_nil]
        exact RepIT.app g3 (by simp only [RepIT]; exact ⟨_, [], rfl, Rep.toI av himm h3, rfl⟩)
      · simp only [Array.toList_push, List.map_append, List.map_cons, List.map_nil]
        refine List.nodup_append.2 ⟨g4, by simp, ?_⟩
        intro u hu v hv
        simp only [List.mem_singleton] at hv
        subst hv
        obtain ⟨xx, hxx, rfl⟩ := List.mem_map.1 hu
        exact Nat.ne_of_lt (g5 xx hxx)
      · intro xx hxx
        simp only [Array.toList_push, List.mem_append, List.mem_singleton] at hxx
        rcases hxx with hxx | rfl
        · exact Nat.lt_succ_of_lt (g5 xx hxx)
        · exact Nat.lt_succ_self _
    · rw [Nat.zero_add] at f1
      have hf := run_findKey (w := w) K.hd f1
      have f2' : arr[jj]? = some en := by simpa using f2
      obtain ⟨u1, u2⟩ := f6 av
      refine fin (arr.modify jj fun e => { e with key := K.kv k, val := a.eval y }) cl ?_ ?_ ?_ ?_ ?_
      · have hks : (Instr.keyThatStays (K.kv k) (K.kv k)).run P w = .ok (K.kv k) w := by simp [Instr.keyThatStays, hsb k]
        simp [Instr.mapUpdate, run_underlying hm, MapKept.run_getObj_map g1, run_checkKey K.hd (K.ik k), hf, f2', f3, hks, MapKept.run_setObj_map _ g1]
      · rw [u1, ← g2]; exact map_modify_key f2' f3.symm
      · rw [u2, map_modify_val f2']
        exact repIT_set jj g3 (Rep.toI av himm h3)
      · rw [map_modify_born (f := fun e => { e with key := K.kv k, val := a.eval y }) (fun e => rfl)]; exact g4
      · intro xx hxx
        have : xx.born ∈ (arr.modify jj fun e => { e with key := K.kv k, val := a.eval y }).toList.map (·.born) := List.mem_map.2 ⟨xx, hxx, rfl⟩
        rw [map_modify_born (f := fun e => { e with key := K.kv k, val := a.eval y }) (fun e => rfl)] at this
        obtain ⟨y', hy', e'⟩ := List.mem_map.1 this
        rw [← e']; exact g5 y' hy')

/-- make(map). -/
theorem O_makeMap {α : Type} (kv : α → Value) {mt : TypeId} {dst : Nat} {ty : TypeId} {pos : String} {aft : Array Edge} {rest : List Oper} {s : List (Nat × AV)} {c : List Ch} (hd : Nat.blt dst n = true)
    (k : ∀ b, SymO X n ops rest ⟨(dst, .v (.map (some b))) :: s, .abs (mapA kv (some b) []) :: c⟩ K) : SymO X n ops (⟨some dst, .makeMap mt none, ty, pos, aft, none⟩ :: rest) ⟨s, c⟩ K := by
  intro e a w Q r hq
  unfold wpList
  rw [if_pos (by simp [Region.wanted])]
  refine .inl ?_
  unfold Oper.wp
  have hrun : (execOp a.eval ⟨some dst, .makeMap mt none, ty, pos, aft, none⟩).run P w = .ok (.value (.map (some w.heap.size))) (w.alloc (.map #[] 0)) := rfl
  rw [hrun]
  have r2 := r.allocAbs (A := mapA kv (some w.heap.size) []) (o := .map #[] 0) rfl ⟨#[], 0, (MapKept.heap_alloc w _).1, rfl, by simp [RepIT], by simp, by simp⟩
  exact k w.heap.size _ _ _ Q (r2.put (x := .v (.map (some w.heap.size))) hd (by simp only [Rep])) hq

/-! ### Comparisons -/
def eqB (op : BinOp) (b : Bool) : Bool := match op with | .eql => b | _ => !b
theorem X_eq {p : Pl} {t : TypeId} {x y : Operand} {u v : Value} {b : Bool} {op : BinOp} {d : Option Nat} {uy ty : TypeId} {pos : String} {aft : Array Edge} {gd : Option (Nat × Bool)} {j : Nat} {Si : List (Nat × AV)} {c : List Ch}
    (hop : op = .eql ∨ op = .neq) (hu : ∀ cs, u ≠ .agg cs) (hun : u ≠ .nilIface)
    (hb : ∀ e a w S, Rel X n e ⟨S, c⟩ a w → (Op.equal t u v).run P w = .ok b w)
    (hbin : ∀ w, (binOp op t u v).run P w = ((Op.equal t u v).run P w).andThen fun b w => .ok (.bool (eqB op b)) w)
    (hg : guardA ops ⟨Si, c⟩ ⟨d, .binOp op t x y uy, ty, pos, aft, gd⟩ = some true) (hx : opd Si x = some (.v u)) (hy : opd Si y = some (.v v)) (hd : dstOK n d = true) :
    StepX X n ops p Si c c j ⟨d, .binOp op t x y uy, ty, pos, aft, gd⟩ (B (eqB op b)) :=
  StepX.val hg hd (fun e a w S r r' => by
    have h1 := opd_sound r' hx
    have h2 := opd_sound r' hy
    simp only [Rep] at h1 h2
    have hgd : (eqGuard op t x y u v).run P w = .ok () w := by
      unfold eqGuard
      rcases hop with rfl | rfl
      · cases u <;> cases v <;> first | rfl | (exact absurd rfl (hu _)) | (exact absurd rfl hun)
      · cases u <;> cases v <;> first | rfl | (exact absurd rfl (hu _)) | (exact absurd rfl hun)
    have hbb := hb e a w S r
    refine ⟨.bool (eqB op b), w, e, ?_, r, by simp [Rep]⟩
    simp only [execOp, h1, h2, Sem.run_bind, hgd, Result.andThen_ok, hbin, hbb, Sem.run_pure])

theorem run_equalIn_map {mt kt et : TypeId} (h : P.underlying mt = some (.map kt et)) (mo : Option Nat) (w : World) (d : Nat) : (Op.equalIn (d + 1) mt (.map mo) (.map none)).run P w = .ok mo.isNone w := by
  cases mo <;> simp [Op.equalIn, run_underlying h]
theorem run_equal_map {mt kt et : TypeId} (h : P.underlying mt = some (.map kt et)) (mo : Option Nat) (w : World) : (Op.equal mt (.map mo) (.map none)).run P w = .ok mo.isNone w := run_equalIn_map h mo w 9999
theorem run_equalIn_ptr0 {t el : TypeId} (h : P.underlying t = some (.pointer el)) (po : Option Addr) (w : World) (d : Nat) : (Op.equalIn (d + 1) t (.pointer po) (.pointer none)).run P w = .ok po.isNone w := by
  cases po <;> simp [Op.equalIn, run_underlying h]
theorem run_equal_ptr0 {t el : TypeId} (h : P.underlying t = some (.pointer el)) (po : Option Addr) (w : World) : (Op.equal t (.pointer po) (.pointer none)).run P w = .ok po.isNone w := run_equalIn_ptr0 h po w 9999
theorem run_equalIn_ptrs {t el : TypeId} {pi : TypeInfo} (h : P.underlying t = some (.pointer el)) (hpi : P.info? el = some pi) (hsz : pi.size ≠ 0) {a b : Addr} {c : Bool} (w : World) (hs : (sameAddr a b).run P w = .ok c w) (d : Nat) : (Op.equalIn (d + 1) t (.pointer (some a)) (.pointer (some b))).run P w = .ok c w := by
  simp [Op.equalIn, run_underlying h, sizeOf, typeInfo, hpi, hsz, hs]

theorem binOp_eq_map {t : TypeId} {m : Option Nat} {v : Value} (w : World) : (binOp .eql t (.map m) v).run P w = ((Op.equal t (.map m) v).run P w).andThen fun b w => .ok (.bool (eqB .eql b)) w := by
  simp [binOp, Sem.run_bind, eqB]
theorem binOp_neq_map {t : TypeId} {m : Option Nat} {v : Value} (w : World) : (binOp .neq t (.map m) v).run P w = ((Op.equal t (.map m) v).run P w).andThen fun b w => .ok (.bool (eqB .neq b)) w := by
  simp [binOp, Sem.run_bind, eqB]
theorem binOp_eq_ptr {t : TypeId} {m : Option Addr} {v : Value} (w : World) : (binOp .eql t (.pointer m) v).run P w = ((Op.equal t (.pointer m) v).run P w).andThen fun b w => .ok (.bool (eqB .eql b)) w := by
  simp [binOp, Sem.run_bind, eqB]
theorem binOp_neq_ptr {t : TypeId} {m : Option Addr} {v : Value} (w : World) : (binOp .neq t (.pointer m) v).run P w = ((Op.equal t (.pointer m) v).run P w).andThen fun b w => .ok (.bool (eqB .neq b)) w := by
  simp [binOp, Sem.run_bind, eqB]

/-- Is a map nil? -/
theorem X_mapnil {p : Pl} {t kt et : TypeId} {x : Operand} {mo : Option Nat} {d : Option Nat} {uy ty : TypeId} {pos : String} {aft : Array Edge} {gd : Option (Nat × Bool)} {j : Nat} {Si : List (Nat × AV)} {c : List Ch} (hm : P.underlying t = some (.map kt et))
    (hg : guardA ops ⟨Si, c⟩ ⟨d, .binOp .eql t x (.const (.map none)) uy, ty, pos, aft, gd⟩ = some true) (hx : opd Si x = some (.v (.map mo))) (hd : dstOK n d = true) :
    StepX X n ops p Si c c j ⟨d, .binOp .eql t x (.const (.map none)) uy, ty, pos, aft, gd⟩ (B mo.isNone) :=
  X_eq (op := .eql) (u := .map mo) (v := .map none) (.inl rfl) (by intro cs h; cases h) (by intro h; cases h) (fun e a w S r => run_equal_map hm mo w) (fun w => binOp_eq_map w) hg hx rfl hd
/-- Is a pointer nil? -/
theorem X_ptrnil {p : Pl} {t el : TypeId} {x : Operand} {po : Option Addr} {d : Option Nat} {uy ty : TypeId} {pos : String} {aft : Array Edge} {gd : Option (Nat × Bool)} {j : Nat} {Si : List (Nat × AV)} {c : List Ch} (hm : P.underlying t = some (.pointer el))
    (hg : guardA ops ⟨Si, c⟩ ⟨d, .binOp .eql t x (.const (.pointer none)) uy, ty, pos, aft, gd⟩ = some true) (hx : opd Si x = some (.v (.pointer po))) (hd : dstOK n d = true) :
    StepX X n ops p Si c c j ⟨d, .binOp .eql t x (.const (.pointer none)) uy, ty, pos, aft, gd⟩ (B po.isNone) :=
  X_eq (op := .eql) (u := .pointer po) (v := .pointer none) (.inl rfl) (by intro cs h; cases h) (by intro h; cases h) (fun e a w S r => run_equal_ptr0 hm po w) (fun w => binOp_eq_ptr w) hg hx rfl hd
theorem X_ptrnnil {p : Pl} {t el : TypeId} {x : Operand} {po : Option Addr} {d : Option Nat} {uy ty : TypeId} {pos : String} {aft : Array Edge} {gd : Option (Nat × Bool)} {j : Nat} {Si : List (Nat × AV)} {c : List Ch} (hm : P.underlying t = some (.pointer el))
    (hg : guardA ops ⟨Si, c⟩ ⟨d, .binOp .neq t x (.const (.pointer none)) uy, ty, pos, aft, gd⟩ = some true) (hx : opd Si x = some (.v (.pointer po))) (hd : dstOK n d = true) :
    StepX X n ops p Si c c j ⟨d, .binOp .neq t x (.const (.pointer none)) uy, ty, pos, aft, gd⟩ (B (!po.isNone)) :=
  X_eq (op := .neq) (u := .pointer po) (v := .pointer none) (.inr rfl) (by intro cs h; cases h) (by intro h; cases h) (fun e a w S r => run_equal_ptr0 hm po w) (fun w => binOp_neq_ptr w) hg hx rfl hd

/-- A block of cells that is not frozen. -/
def Plain (A : Abs) (b : Nat) : Prop := ∀ G w, A.ok G w → ∃ cur t, w.heap[b]? = some (.cells cur t (0, 0))
theorem run_sameAddr_cells {w : World} {b o b' o' : Nat} (h : ∃ cur t, w.heap[b]? = some (.cells cur t (0, 0))) (h' : ∃ cur t, w.heap[b']? = some (.cells cur t (0, 0))) :
    (sameAddr ⟨b, o, none⟩ ⟨b', o', none⟩).run P w = .ok (decide (b = b' ∧ o = o')) w := by
  obtain ⟨cur, t, h⟩ := h
  obtain ⟨cur', t', h'⟩ := h'
  have f1 : ∀ off, w.frozen? ⟨b, off, none⟩ = false := fun off => by simp [World.frozen?, h]
  have f2 : ∀ off, w.frozen? ⟨b', off, none⟩ = false := fun off => by simp [World.frozen?, h']
  have s1 : w.shape? b = some (t, cur.size) := by simp [World.shape?, h]
  have s2 : w.shape? b' = some (t', cur'.size) := by simp [World.shape?, h']
  unfold sameAddr
  by_cases hb : b = b'
  · subst hb
    simp only [beq_self_eq_true, if_true]
    by_cases ho : o = o'
    · subst ho; simp
    · have : ((⟨b, o, none⟩ : Addr) == ⟨b, o', none⟩) = false := by simp [ho]
      simp [ho]
  · have : (b == b') = false := by simp [hb]
    have hfr : ∀ ad : Addr, (frozen ad).run P w = .ok (w.frozen? ad) w := fun ad => rfl
    have hsh : ∀ r : Nat, (shape r).run P w = .ok (w.shape? r) w := fun r => rfl
    simp [this, hb, hfr, f1, f2, noView, viewAt, hsh, s1, s2, mayBeOne, stringish]

/-- Are two pointers the same? -/
theorem X_ptreq (q1 q2 : Nat) {p : Pl} {A1 A2 : Abs} {t el : TypeId} {pi : TypeInfo} {x y : Operand} {b o b' o' : Nat} {d : Option Nat} {uy ty : TypeId} {pos : String} {aft : Array Edge} {gd : Option (Nat × Bool)} {j : Nat} {Si : List (Nat × AV)} {c cr1 cr2 : List Ch} (hm : P.underlying t = some (.pointer el))
    (hpi : P.info? el = some pi) (hsz : pi.size ≠ 0) (hp1 : nthA q1 c = some (A1, cr1)) (hp2 : nthA q2 c = some (A2, cr2)) (hb1 : Plain A1 b) (hb2 : Plain A2 b')
    (hg : guardA ops ⟨Si, c⟩ ⟨d, .binOp .eql t x y uy, ty, pos, aft, gd⟩ = some true) (hx : opd Si x = some (PT b o)) (hy : opd Si y = some (PT b' o')) (hd : dstOK n d = true) :
    StepX X n ops p Si c c j ⟨d, .binOp .eql t x y uy, ty, pos, aft, gd⟩ (B (decide (b = b' ∧ o = o'))) :=
  X_eq (op := .eql) (u := .pointer (some ⟨b, o, none⟩)) (v := .pointer (some ⟨b', o', none⟩)) (.inl rfl) (by intro cs h; cases h) (by intro h; cases h) (fun e a w S r => by
    have h1 := hb1 _ _ (r.heap.nth hp1).1
    have h2 := hb2 _ _ (r.heap.nth hp2).1
    exact run_equalIn_ptrs hm hpi hsz w (run_sameAddr_cells (P := P) (o := o) (o' := o') h1 h2) 9999) (fun w => binOp_eq_ptr w) hg hx hy hd

/-! ### Chunks packed -/
theorem Le.absPerm {As As' : List Abs} {s : List (Nat × AV)} {c cr : List Ch} (hp : c.Perm (As.map Ch.abs ++ cr)) (hbs : (blocks As').Perm (blocks As)) (hok : ∀ G w, (∀ A ∈ As, A.ok G w) → ∀ A ∈ As', A.ok G w) : Le X n ⟨s, c⟩ ⟨s, As'.map Ch.abs ++ cr⟩ := fun e a w r => by
  have hh := (r.heap.perm hp).absOK
  refine ⟨e, r.swapAbs (st := ⟨s, c⟩) (As' := As') (G' := e.G) (w' := w) hp (IM.le_refl _) ⟨r.im, r.mz⟩ ⟨fun b o v h => .inl h, fun b x h => .inl h⟩ ⟨hok _ _ hh.1.1, hbs.nodup_iff.2 hh.1.2.1, fun b hb => hh.1.2.2 b (hbs.mem_iff.1 hb)⟩ (fun b hb => .inr (hbs.mem_iff.1 hb)) ⟨rfl, rfl, rfl⟩ (Nat.le_refl _) (fun _ _ _ _ => rfl)⟩

/-- One of those that are packed is taken out. -/
theorem Le.unpack (q : Nat) {L1 L2 : List Abs} {A : Abs} {s : List (Nat × AV)} {c cr : List Ch} (hp : nthA q c = some (packA (L1 ++ A :: L2), cr)) : Le X n ⟨s, c⟩ ⟨s, .abs A :: .abs (packA (L1 ++ L2)) :: cr⟩ := by
  refine Le.absPerm (As := [packA (L1 ++ A :: L2)]) (As' := [A, packA (L1 ++ L2)]) (by simpa using nthA_perm hp) ?_ ?_
  · simp only [blocks, List.flatMap_cons, List.flatMap_nil, List.append_nil, packA, List.flatMap_append]
    rw [← List.append_assoc, ← List.append_assoc]
    exact (List.perm_append_comm).append_right _
  · intro G w h B hB
    have h0 := h _ (by simp : packA (L1 ++ A :: L2) ∈ [packA (L1 ++ A :: L2)])
    simp only [packA] at h0
    simp only [List.mem_cons, List.mem_nil_iff, or_false] at hB
    rcases hB with rfl | rfl
    · exact h0 B (by simp)
    · simp only [packA]
      intro C hC
      exact h0 C (by rcases List.mem_append.1 hC with h | h <;> simp [h])
/-- .. and put back. -/
theorem Le.pack (q q2 : Nat) {L1 L2 : List Abs} {A : Abs} {s : List (Nat × AV)} {c cr : List Ch} (hp : pickA [q, q2] c = some ([A, packA (L1 ++ L2)], cr)) : Le X n ⟨s, c⟩ ⟨s, .abs (packA (L1 ++ A :: L2)) :: cr⟩ := by
  refine Le.absPerm (As := [A, packA (L1 ++ L2)]) (As' := [packA (L1 ++ A :: L2)]) (by simpa using pickA_perm hp) ?_ ?_
  · simp only [blocks, List.flatMap_cons, List.flatMap_nil, List.append_nil, packA, List.flatMap_append]
    rw [← List.append_assoc, ← List.append_assoc]
    exact (List.perm_append_comm).append_right _
  · intro G w h B hB
    have h1 := h A (by simp)
    have h2 := h (packA (L1 ++ L2)) (by simp)
    simp only [packA] at h2
    simp only [List.mem_cons, List.mem_nil_iff, or_false] at hB
    subst hB
    simp only [packA]
    intro C hC
    rcases List.mem_append.1 hC with h | h
    · exact h2 C (by simp [h])
    · rcases List.mem_cons.1 h with rfl | h
      · exact h1
      · exact h2 C (by simp [h])
/-- What memory tells. -/
theorem C_know {Q : Exit → St → Prop} {cd : Code} {s : List (Nat × AV)} {c cr : List Ch} (q : Nat) {A : Abs} (φ : Prop) (hp : nthA q c = some (A, cr)) (hφ : ∀ G w, A.ok G w → A.bs.Nodup → φ) (k : φ → SymC X n cd ⟨s, c⟩ Q) : SymC X n cd ⟨s, c⟩ Q := fun e a w r => by
  obtain ⟨h1, _, h2⟩ := r.heap.nth hp
  exact k (hφ _ _ h1 h2) e a w r
theorem O_know {l : List Oper} {s : List (Nat × AV)} {c cr : List Ch} (q : Nat) {A : Abs} (φ : Prop) (hp : nthA q c = some (A, cr)) (hφ : ∀ G w, A.ok G w → A.bs.Nodup → φ) (k : φ → SymO X n ops l ⟨s, c⟩ K) : SymO X n ops l ⟨s, c⟩ K := fun e a w Q r => by
  obtain ⟨h1, _, h2⟩ := r.heap.nth hp
  exact k (hφ _ _ h1 h2) e a w Q r
end
end Go.Sy

/- The symbolic walk, part 38: slices of known headers cut; elements cleared. -/
set_option linter.unusedSimpArgs false
set_option linter.unusedVariables false
namespace Go.Sy
open Go.RowKit

section
variable {P : Program} {T : Tab} {X : Ctx P T} {n : Nat} {e : Env} {st : St} {a : Act} {w : World} {ops : Array Oper} {K : St → Prop}

/-- A bound of a cut: not told, or a number. -/
def bndA (s : List (Nat × AV)) (o : Option Operand) (d : Int) : Option Int := match o with
  | none => some d
  | some x => match opd s x with
    | some (.v (.int _ i)) => some i
    | _ => none

theorem bndA_sound {s : List (Nat × AV)} {c : List Ch} (r : Rel X n e ⟨s, c⟩ a w) {o : Option Operand} {d i : Int} (h : bndA s o d = some i) : (o.map a.eval = none ∧ i = d) ∨ ∃ k, o.map a.eval = some (.int k i) := by
  cases o with
  | none => simp only [bndA, Option.some.injEq] at h; exact .inl ⟨rfl, h.symm⟩
  | some x =>
    simp only [bndA] at h
    split at h
    · rename_i k i' hx
      simp only [Option.some.injEq] at h
      subst h
      have := opd_sound r hx
      simp only [Rep] at this
      exact .inr ⟨k, by simp [this]⟩
    · cases h

/-- s[i:j] of a slice whose header is known. -/
theorem X_slice {p : Pl} {t el sz0 b0 : Nat} {ag0 : Bool} {z0 : List Value} {ti : TI} {x : Operand} {lo hi : Option Operand} {g o m c : Nat} {i j : Int} {d : Option Nat} {ty : TypeId} {pos : String} {aft : Array Edge} {gd : Option (Nat × Bool)} {q : Nat} {Si : List (Nat × AV)} {cs : List Ch}
    (hTs : T t = some ⟨sz0, b0, ag0, z0, .slice el⟩) (hTe : T el = some ti) (hg : guardA ops ⟨Si, cs⟩ ⟨d, .slice t x lo hi none, ty, pos, aft, gd⟩ = some true) (hx : opd Si x = some (.v (HO g o m c))) (hlo : bndA Si lo 0 = some i) (hhi : bndA Si hi m = some j) (hd : dstOK n d = true)
    (h0 : 0 ≤ i) (hij : i ≤ j) (hj : j ≤ m) (hc : m ≤ c) :
    StepX X n ops p Si cs cs q ⟨d, .slice t x lo hi none, ty, pos, aft, gd⟩ (.v (HO g (if c - i.toNat = 0 then o else o + i.toNat * ti.size) (j.toNat - i.toNat) (c - i.toNat))) :=
  StepX.val hg hd (fun e a w S r r' => by
    have h1 := opd_sound r' hx
    simp only [Rep] at h1
    obtain ⟨dd, e4, _, e5⟩ := (X.ok _ _ hTs).desc
    simp only [TDOK] at e5
    subst e5
    have hb := fun w : World => run_bounds (P := P) (w := w) true m c _ _ i j h0 hij hj hc (bndA_sound r' hlo) (bndA_sound r' hhi)
    refine ⟨HO g (if c - i.toNat = 0 then o else o + i.toNat * ti.size) (j.toNat - i.toNat) (c - i.toNat), w, e, ?_, r, by simp only [Rep]⟩
    simp only [execOp, h1, Instr.sliceAt, Instr.slice, Sem.run_bind, run_underlying e4, Result.andThen_ok]
    simp only [run_underlying e4, Option.map_none, hb, X.ok.size hTe, Sem.run_bind, Result.andThen_ok, Sem.run_pure, HO]
    by_cases hz : c = i.toNat
    · rw [if_pos hz, if_pos (by omega)]
    · rw [if_neg hz, if_neg (by omega), Option.map_some, add_addr])

theorem zeroCells_one (v : Value) (k : Nat) : (Builtin.zeroCells #[v] k).toList = List.replicate k v := by
  apply List.ext_getElem?
  intro i
  by_cases h : i < k
  · simp [Builtin.zeroCells, h, Nat.mod_one]
  · simp [Builtin.zeroCells, h]

/-- clear(s[i:]). -/
theorem X_clear (qp : Nat) {p : Pl} {t el sz0 b0 : Nat} {ag0 : Bool} {z0 : List Value} {by_ : Nat} {ag1 : Bool} {z1 : List Value} {d1 : TD} {x : Operand} {g o o' m c c' i k : Nat} {cells : List AV} {pi : TypeInfo} {zv : Value} {ty : TypeId} {pos : String} {aft : Array Edge} {gd : Option (Nat × Bool)} {q : Nat} {Si : List (Nat × AV)} {cs cr : List Ch}
    (hTs : T t = some ⟨sz0, b0, ag0, z0, .slice el⟩) (hTe : T el = some ⟨1, by_, ag1, z1, d1⟩) (hpi : P.info? el = some pi) (hz : pi.zero = some zv) (hz1 : zv.oneCell' = true) (hg : guardA ops ⟨Si, cs⟩ ⟨none, .call ⟨.builtin .clear, #[x], #[t]⟩, ty, pos, aft, gd⟩ = some true)
    (hx : opd Si x = some (.v (HO g o' k c'))) (hp : nthA qp cs = some (slO (HO g o m c) el 1 cells, cr)) (hik : i + k = m) (ho : k = 0 ∨ o' = o + i) :
    StepX X n ops p Si cs (.abs (slO (HO g o m c) el 1 (cells.take i ++ List.replicate k (.v zv))) :: cr) q ⟨none, .call ⟨.builtin .clear, #[x], #[t]⟩, ty, pos, aft, gd⟩ (.tup []) :=
  StepX.val hg rfl (fun e a w S r r' => by
    have h1 := opd_sound r' hx
    simp only [Rep] at h1
    obtain ⟨dd, e4, _, e5⟩ := (X.ok _ _ hTs).desc
    simp only [TDOK] at e5
    subst e5
    obtain ⟨hok, _⟩ := r.heap.nth hp
    obtain ⟨g1, g2, g3, cur, g5, g6, g7⟩ := slO_ho hok
    rw [Nat.mul_one] at g1 g6 g7
    have hzero : ∀ w : World, (zeroValue el).run P w = .ok zv w := fun w => by simp [zeroValue, typeInfo, hpi, hz]
    have hzc : zv.cells = #[zv] := cells_oneV hz1
    have hop : ∀ w', (Builtin.clear_ #[t] ty #[HO g o' k c']).run P w = .ok (.tuple #[]) w' → (execOp a.eval ⟨none, .call ⟨.builtin .clear, #[x], #[t]⟩, ty, pos, aft, gd⟩).run P w = .ok (.value (.tuple #[])) w' := by
      intro w' hr
      simp only [execOp, resolve, invoke, builtin, Sem.run_bind, Sem.run_pure, Result.andThen_ok, List.map_toArray, List.map_cons, List.map_nil, h1, hr]
    have hcl : (cells.take i).length = i := by rw [List.length_take]; omega
    rcases Nat.eq_zero_or_pos k with hk | hk
    · subst hk
      refine ⟨.tuple #[], w, e, hop w ?_, ?_, by simp [Rep, RepT]⟩
      · simp [Builtin.clear_, run_underlying e4]
      · have hcells : cells.take i ++ List.replicate 0 (.v zv) = cells := by
          rw [List.replicate_zero, List.append_nil, List.take_of_length_le (by omega)]
        rw [hcells]
        exact { r with heap := r.heap.perm (nthA_perm hp) }
    · have ho' : o' = o + i := by omega
      subst ho'
      have hst := run_storeCells_at (P := P) g (o + i) el (List.replicate k zv) 0 cur w g5 (by simp; omega) (fun v hv => by rw [List.eq_of_mem_replicate hv]; exact hz1)
      have hrun : (Builtin.clear_ #[t] ty #[HO g (o + i) k c']).run P w = .ok (.tuple #[]) (w.setRow g (cur.toList.take (o + i + 0) ++ List.replicate k zv ++ cur.toList.drop (o + i + 0 + (List.replicate k zv).length)).toArray) := by
        obtain ⟨k', rfl⟩ : ∃ k', k = k' + 1 := ⟨k - 1, by omega⟩
        simp [Builtin.clear_, run_underlying e4, hzero, hzc, zeroCells_one, hst]
      refine ⟨.tuple #[], _, e, hop _ hrun, r.absTurn (st := ⟨S, cs⟩) hp rfl ?_ ?_ ⟨rfl, rfl, rfl⟩ ?_, by simp [Rep, RepT]⟩
      · refine ⟨m, by rw [List.length_append, hcl, List.length_replicate]; omega, .inr ⟨g, o, c, _, rfl, g2, g3, setRow_heap w g cur _ el _ g5, ?_, ?_⟩⟩
        · simp; omega
        · have h7 := g7
          refine RepIL.mk ?_ (fun jj y hy => ?_)
          · simp; omega
          · have hjm : jj < m := by
              rcases Nat.lt_or_ge jj m with h | h
              · exact h
              · rw [List.getElem?_eq_none (by rw [List.length_append, hcl, List.length_replicate]; omega)] at hy; cases hy
            rw [Nat.mul_one, List.getElem?_take, if_pos hjm, List.getElem?_drop]
            simp only [Nat.add_zero, List.length_replicate]
            by_cases hji : jj < i
            · rw [List.getElem?_append_left (by omega), List.getElem?_take, if_pos hji] at hy
              obtain ⟨z, z1, z2, z3⟩ := g7.get jj y hy
              rw [List.getElem?_take, if_pos hjm, List.getElem?_drop] at z1
              refine ⟨z, ?_, z2, z3⟩
              rw [List.append_assoc, List.getElem?_append_left (by simp; omega), List.getElem?_take, if_pos (by omega)]
              exact z1
            · rw [List.getElem?_append_right (by omega), hcl] at hy
              rw [List.getElem?_replicate] at hy
              split at hy
              · cases hy
                refine ⟨zv, ?_, by simp [RepI], hz1⟩
                rw [List.append_assoc, List.getElem?_append_right (by simp; omega), List.getElem?_append_left (by simp; omega), List.getElem?_replicate]
                rw [if_pos (by simp; omega)]
              · cases hy
      · intro b hb
        have hne : g ≠ b := fun hh => hb (by subst hh; simp [slO, Value.ownBlock])
        exact setRow_other w g b _ (Ne.symm hne)
      · exact setRow_size w g _)
end
end Go.Sy

/- The symbolic walk, part 39: steps of drawn regions of effects, told; one of many chunks. -/
set_option linter.unusedSimpArgs false
set_option linter.unusedVariables false
namespace Go.Sy
open Go.RowKit

section
variable {P : Program} {T : Tab} {X : Ctx P T} {n : Nat} {e : Env} {st : St} {a : Act} {w : World} {ops : Array Oper} {K : St → Prop}

/-- A step that leaves memory alone, at a phase that is known. -/
theorem SXr (x : AV) (ph0 : Nat) {p : Pl} {base : List (Nat × AV)} {C : Nat → List Ch} {o : Oper} {rest : List Oper} {done : Done} (hc : p.creB done.length x = true) (hE : p.E.contains done.length = false) (hlo : Nat.beq (p.lo done.length) ph0 = true) (hhi : Nat.beq (p.hi done.length) ph0 = true)
    (h : StepX X n ops p (availX p done.length done o.after.toList base) (C ph0) (C ph0) done.length o x) (k : normG (done ++ [(o.dst, x)]) fun done => SymX X n ops p base C K rest done) : SymX X n ops p base C K (o :: rest) done :=
  SX x hc (fun ph h1 h2 => by
    have e1 := Nat.eq_of_beq_eq_true hlo
    have e2 := Nat.eq_of_beq_eq_true hhi
    obtain rfl : ph = ph0 := by omega
    rw [if_neg (not_mem_of_contains (by rw [hE]; rfl))]
    exact h) k
/-- .. at one of two. -/
theorem SXr2 (x : AV) {p : Pl} {base : List (Nat × AV)} {C : Nat → List Ch} {o : Oper} {rest : List Oper} {done : Done} (hc : p.creB done.length x = true) (hE : p.E.contains done.length = false) (hlo : Nat.beq (p.lo done.length) 0 = true) (hhi : Nat.beq (p.hi done.length) 1 = true)
    (h0 : StepX X n ops p (availX p done.length done o.after.toList base) (C 0) (C 0) done.length o x) (h1 : StepX X n ops p (availX p done.length done o.after.toList base) (C 1) (C 1) done.length o x)
    (k : normG (done ++ [(o.dst, x)]) fun done => SymX X n ops p base C K rest done) : SymX X n ops p base C K (o :: rest) done :=
  SX x hc (fun ph g1 g2 => by
    have e1 := Nat.eq_of_beq_eq_true hlo
    have e2 := Nat.eq_of_beq_eq_true hhi
    rw [if_neg (not_mem_of_contains (by rw [hE]; rfl))]
    rcases Nat.eq_zero_or_pos ph with h | h
    · subst h; exact h0
    · obtain rfl : ph = 1 := by omega
      exact h1) k
/-- A step that turns memory. -/
theorem SXw (x : AV) (ph0 : Nat) {p : Pl} {base : List (Nat × AV)} {C : Nat → List Ch} {o : Oper} {rest : List Oper} {done : Done} (hc : p.creB done.length x = true) (hE : p.E.contains done.length = true) (hlo : Nat.beq (p.lo done.length) ph0 = true) (hhi : Nat.beq (p.hi done.length) ph0 = true)
    (h : StepX X n ops p (availX p done.length done o.after.toList base) (C ph0) (C (ph0 + 1)) done.length o x) (k : normG (done ++ [(o.dst, x)]) fun done => SymX X n ops p base C K rest done) : SymX X n ops p base C K (o :: rest) done :=
  SX x hc (fun ph h1 h2 => by
    have e1 := Nat.eq_of_beq_eq_true hlo
    have e2 := Nat.eq_of_beq_eq_true hhi
    obtain rfl : ph = ph0 := by omega
    rw [if_pos (by simpa using hE)]
    exact h) k

/-- A cell of such a slice is read. -/
theorem X_loadO (q : Nat) {p : Pl} {g o m cc : Nat} {tt : TypeId} {esz j : Nat} {cells : List AV} {t : TypeId} {by_ : Nat} {z : List Value} {dd : TD} {x : Operand} {d : Option Nat} {av : AV} {ty : TypeId} {pos : String} {aft : Array Edge} {gd : Option (Nat × Bool)} {i : Nat} {Si : List (Nat × AV)} {c cr : List Ch}
    (hj : cells[j]? = some av) (hg : guardA ops ⟨Si, c⟩ ⟨d, .load t x, ty, pos, aft, gd⟩ = some true) (hx : opd Si x = some (PT g (o + j))) (hp : nthA q c = some (slO (HO g o m cc) tt esz cells, cr)) (hT : T t = some ⟨1, by_, false, z, dd⟩) (hd : dstOK n d = true) :
    StepX X n ops p Si c c i ⟨d, .load t x, ty, pos, aft, gd⟩ av :=
  X_loadP q (reads_slO j) hg hx hp hT (by show (cells.drop j).head? = some av; rw [List.head?_drop]; exact hj) hd

theorem split_get {α : Type} {l : List α} {i : Nat} {x : α} (h : l[i]? = some x) : l = l.take i ++ x :: l.drop (i + 1) := by
  obtain ⟨hi, rfl⟩ := List.getElem?_eq_some_iff.1 h
  rw [List.getElem_cons_drop, List.take_append_drop]
theorem set_get' {α : Type} {l : List α} {i : Nat} {x y : α} (h : l[i]? = some x) : l.set i y = l.take i ++ y :: l.drop (i + 1) := by
  obtain ⟨hi, rfl⟩ := List.getElem?_eq_some_iff.1 h
  rw [List.set_eq_take_append_cons_drop, if_pos hi]

theorem Le.unpackAt (q : Nat) {C : List Abs} {i : Nat} {A : Abs} {s : List (Nat × AV)} {c cr : List Ch} (hi : C[i]? = some A) (hp : nthA q c = some (packA C, cr)) : Le X n ⟨s, c⟩ ⟨s, .abs A :: .abs (packA (C.take i ++ C.drop (i + 1))) :: cr⟩ :=
  Le.unpack q (by rw [← split_get hi]; exact hp)
theorem Le.packAt (q q2 : Nat) {C : List Abs} {i : Nat} {A A' : Abs} {s : List (Nat × AV)} {c cr : List Ch} (hi : C[i]? = some A) (hp : pickA [q, q2] c = some ([A', packA (C.take i ++ C.drop (i + 1))], cr)) : Le X n ⟨s, c⟩ ⟨s, .abs (packA (C.set i A')) :: cr⟩ := by
  rw [set_get' hi]
  exact Le.pack q q2 hp
end
end Go.Sy

/- The symbolic walk, part 40: calls in drawn regions over memory that they only read; an element struck from an owned slice; chunks of no blocks. -/
set_option linter.unusedSimpArgs false
set_option linter.unusedVariables false
namespace Go.Sy
open Go.RowKit

section
variable {P : Program} {T : Tab} {X : Ctx P T} {n : Nat} {e : Env} {st : St} {a : Act} {w : World} {ops : Array Oper} {K : St → Prop}

/-- A chunk without blocks. -/
theorem Le.addAbs (A : Abs) {s : List (Nat × AV)} {c : List Ch} (hbs : A.bs = []) (hok : ∀ G w, A.ok G w) : Le X n ⟨s, c⟩ ⟨s, .abs A :: c⟩ :=
  Le.absPerm (As := []) (As' := [A]) (.refl _) (by simp [blocks, hbs]) (fun G w _ B hB => by simp only [List.mem_singleton] at hB; subst hB; exact hok G w)

/-- A call, in a region whose order is drawn, that reads memory at known addresses. -/
theorem D_callA (is : List Nat) {base : List (Nat × AV)} {c : List Ch} {done : Done} {f : FuncId} {dst : Nat} {args : Array Operand} {tys : Array TypeId} {ty : TypeId} {pos : String} {aft : Array Edge} {gd : Option (Nat × Bool)} {rest : List Oper} {avs : List AV} {x : AV} {cs : List Abs} {cr : List Ch}
    (hf : FnA P f avs cs (fun r cs' => r = x ∧ cs' = cs)) (hg : guardA ops ⟨availL done aft.toList base, c⟩ ⟨some dst, .call ⟨.value (.func f), args, tys⟩, ty, pos, aft, gd⟩ = some true) (ha : opds (availL done aft.toList base) args.toList = some avs) (himm : AV.imm.immL avs = true) (hp : pickA is c = some (cs, cr)) (hd : Nat.blt dst n = true)
    (k : SymD X n ops base c K rest (done ++ [(some dst, x)])) :
    SymD X n ops base c K (⟨some dst, .call ⟨.value (.func f), args, tys⟩, ty, pos, aft, gd⟩ :: rest) done := by
  refine ⟨x, fun e a w S K' Q r hS hk => ?_, k⟩
  have r' : Rel X n e ⟨availL done aft.toList base, c⟩ a w := r.less hS (fun h => h)
  rw [if_pos (guardA_sound r' hg)]
  refine .inl ?_
  unfold Oper.wp
  rw [run_call hf.1 a.eval rfl w, Oper.upon_enter]
  have h1 := RepT.toI avs himm (opds_sound r' ha)
  rw [map_eval]
  have hpp := pickA_perm hp
  have hd2 := (r.heap.perm hpp).absOK
  refine (hf.2 e.G w _ ⟨r.im, r.mz⟩ h1 hd2.1).mono ?_
  rintro en w' ⟨rv, cv, cs', G', ⟨rfl, rfl⟩, rfl, g1, g2, g3, g4, g5, g6, o1, o2, o3, o4, o5⟩
  have r2 := r.swapAbs (st := ⟨S, c⟩) hpp g2 g4 g3 g5 g6 ⟨o1, o2, o3⟩ o4 o5
  have r3 : Rel X n ⟨G', e.μ, e.hd⟩ ⟨S, c⟩ a w' := { r2 with heap := r2.heap.perm hpp.symm }
  exact hk _ _ _ (r3.put hd (RepI.toRep (e := ⟨G', e.μ, e.hd⟩) rv g1))

/-! ### Cells written in a row -/
def writeAt (cur : Array Value) : Nat → List Value → Array Value
  | _, [] => cur
  | o, v :: vs => writeAt (cur.setIfInBounds o v) (o + 1) vs
theorem writeAt_size : ∀ (vs : List Value) (cur : Array Value) (o : Nat), (writeAt cur o vs).size = cur.size
  | [], cur, o => rfl
  | v :: vs, cur, o => by simp only [writeAt]; rw [writeAt_size vs]; simp
theorem writeAt_get : ∀ (vs : List Value) (cur : Array Value) (o j : Nat), o + vs.length ≤ cur.size → (writeAt cur o vs)[j]? = if o ≤ j ∧ j < o + vs.length then vs[j - o]? else cur[j]?
  | [], cur, o, j, _ => by simp only [writeAt, List.length_nil]; rw [if_neg (by omega)]
  | v :: vs, cur, o, j, h => by
    simp only [List.length_cons] at h
    simp only [writeAt]
    rw [writeAt_get vs _ (o + 1) j (by simp; omega)]
    simp only [List.length_cons]
    by_cases h1 : j = o
    · subst h1
      rw [if_neg (by omega), if_pos (by omega), Nat.sub_self, List.getElem?_cons_zero, Array.getElem?_setIfInBounds_self_of_lt (by omega)]
    · by_cases h2 : o + 1 ≤ j ∧ j < o + 1 + vs.length
      · rw [if_pos h2, if_pos (by omega)]
        obtain ⟨q, rfl⟩ : ∃ q, j = o + 1 + q := ⟨j - (o + 1), by omega⟩
        rw [show o + 1 + q - (o + 1) = q by omega, show o + 1 + q - o = q + 1 by omega]
        simp
      · rw [if_neg h2, if_neg (by omega)]
        rw [Array.getElem?_setIfInBounds_ne (Ne.symm h1)]

theorem setCells_heap : ∀ (vs : List Value) (b o : Nat) (w : World) (cur : Array Value) (t : TypeId) (fz : Nat × Nat), w.heap[b]? = some (.cells cur t fz) → (w.setCells b o vs).heap[b]? = some (.cells (writeAt cur o vs) t fz)
  | [], b, o, w, cur, t, fz, h => h
  | v :: vs, b, o, w, cur, t, fz, h => by
    simp only [World.setCells, writeAt]
    exact setCells_heap vs b (o + 1) _ _ t fz (setCell_heap h)
theorem setCells_other : ∀ (vs : List Value) (b o k : Nat) (w : World), k ≠ b → (w.setCells b o vs).heap[k]? = w.heap[k]?
  | [], b, o, k, w, h => rfl
  | v :: vs, b, o, k, w, h => by
    simp only [World.setCells]
    rw [setCells_other vs b (o + 1) k _ h, setCell_other h]
theorem setCells_misc : ∀ (vs : List Value) (b o : Nat) (w : World), (w.setCells b o vs).heap.size = w.heap.size ∧ (w.setCells b o vs).os = w.os ∧ (w.setCells b o vs).tape = w.tape ∧ (w.setCells b o vs).output = w.output
  | [], b, o, w => ⟨rfl, rfl, rfl, rfl⟩
  | v :: vs, b, o, w => by
    simp only [World.setCells]
    obtain ⟨h1, h2, h3, h4⟩ := setCells_misc vs b (o + 1) (w.setCell ⟨b, o, none⟩ v)
    exact ⟨by rw [h1, setCell_size], h2, h3, h4⟩

/-- append(s[:at], s[at+1:]...): an element is struck. -/
theorem X_strike (q : Nat) {p : Pl} {t el ty sz0 b0 by_ esz : Nat} {ag0 ag1 : Bool} {z0 z1 : List Value} {d1 : TD} {so_ xo : Operand} {g o' m cc c' k at_ : Nat} {row row' : Nat → List AV} {d : Option Nat} {pos : String} {aft : Array Edge} {gd : Option (Nat × Bool)} {i : Nat} {Si : List (Nat × AV)} {c cr : List Ch}
    (hTs : T t = some ⟨sz0, b0, ag0, z0, .slice el⟩) (hTe : T el = some ⟨esz, by_, ag1, z1, d1⟩) (hg : guardA ops ⟨Si, c⟩ ⟨d, .call ⟨.builtin .append, #[so_, xo], #[t, t]⟩, ty, pos, aft, gd⟩ = some true)
    (hso : opd Si so_ = some (.v (HO g 0 at_ cc))) (hxo : opd Si xo = some (.v (HO g o' k c'))) (hp : nthA q c = some (vecA (HD g m cc) el esz m row, cr)) (hd : dstOK n d = true) (hk : at_ + k + 1 = m) (ho : k = 0 ∨ o' = (at_ + 1) * esz)
    (hrow : ∀ j, j < m - 1 → row' j = if j < at_ then row j else row (j + 1)) :
    StepX X n ops p Si c (.abs (vecA (HD g (at_ + k) cc) el esz (at_ + k) row') :: cr) i ⟨d, .call ⟨.builtin .append, #[so_, xo], #[t, t]⟩, ty, pos, aft, gd⟩ (.v (HO g 0 (at_ + k) cc)) :=
  StepX.val hg hd (fun e a w S r r' => by
    have h1 := opd_sound r' hso
    have h2 := opd_sound r' hxo
    simp only [Rep] at h1 h2
    obtain ⟨pi, z, i1, i2, i3, i4, i5, i6, i7⟩ := (X.ok _ _ hTe).info
    obtain ⟨dd, e1, _, e3⟩ := (X.ok _ _ hTs).desc
    simp only [TDOK] at e3
    subst e3
    simp only at i2
    obtain ⟨⟨xs, hown, hrows⟩, hgood, _⟩ := r.heap.nth hp
    have hxl := hown.1
    rcases hown.2 with ⟨hnil, _⟩ | ⟨g', cap, cur, hsl, _, hgb, hcap, hmax, hcs, htake⟩
    · cases hnil
    simp only [HD, Value.slice.injEq, Option.some.injEq, Addr.mk.injEq, and_true, true_and] at hsl
    obtain ⟨rfl, rfl⟩ := hsl
    have hmc : m * esz ≤ cc * esz := Nat.mul_le_mul_right _ hcap
    have em : m * esz = at_ * esz + k * esz + esz := by rw [← hk, Nat.add_mul, Nat.add_mul, Nat.one_mul]
    have ea : (at_ + 1) * esz = at_ * esz + esz := by rw [Nat.add_mul, Nat.one_mul]
    have eak : (at_ + k) * esz = at_ * esz + k * esz := Nat.add_mul ..
    have hxs1 : ∀ u ∈ xs, u.oneCell' = true := by
      intro u hu
      obtain ⟨jj, hjj, rfl⟩ := List.getElem_of_mem hu
      have hesz : 0 < esz := by
        rcases Nat.eq_zero_or_pos esz with h | h
        · subst h; simp at hxl; subst hxl; simp at hjj
        · exact h
      have hq : jj / esz < m := Nat.div_lt_of_lt_mul (by rw [Nat.mul_comm, ← hxl]; exact hjj)
      have hr := hrows (jj / esz) hq
      have hlen := hr.len
      have hmod := Nat.mod_lt jj hesz
      have hdm := Nat.div_add_mod jj esz
      have hrl : (row (jj / esz)).length = esz := by
        rw [← hlen, List.length_take, List.length_drop, hxl]
        have : (jj / esz + 1) * esz ≤ m * esz := Nat.mul_le_mul_right _ hq
        rw [Nat.add_mul, Nat.one_mul] at this
        omega
      obtain ⟨z, z1, _, z3⟩ := hr.get (jj % esz) (row (jj / esz))[jj % esz] (List.getElem?_eq_getElem (by omega))
      rw [List.getElem?_take, if_pos hmod, List.getElem?_drop, Nat.mul_comm (jj / esz) esz, hdm, List.getElem?_eq_getElem hjj] at z1
      cases z1; exact z3
    let news := (xs.drop ((at_ + 1) * esz)).take (k * esz)
    have hnl : news.length = k * esz := by simp only [news, List.length_take, List.length_drop, hxl]; omega
    have hcell : ∀ jj, jj < m * esz → w.cell? ⟨g, jj, none⟩ = xs[jj]? := by
      intro jj hjj
      rw [cell_of_row w g _ cur el (0, 0) hgb, ← htake, List.getElem?_take, if_pos hjj]; simp
    have hnews : ∀ (jj : Nat) (u : Value), news[jj]? = some u → w.cell? ((⟨g, o', none⟩ : Addr).add jj) = some u := by
      intro jj u hu
      have hjk : jj < k * esz := by
        rcases Nat.lt_or_ge jj (k * esz) with h | h
        · exact h
        · rw [List.getElem?_eq_none (by omega)] at hu; cases hu
      rcases ho with h0 | h0
      · subst h0; omega
      · subst h0
        rw [add_addr, hcell _ (by omega)]
        simp only [news] at hu
        rw [List.getElem?_take, if_pos hjk, List.getElem?_drop] at hu
        exact hu
    have hone : ∀ u ∈ news, u.oneCell' = true := fun u hu => hxs1 u (List.mem_of_mem_drop (List.mem_of_mem_take hu))
    have hrun := run_append_room_cells (P := P) w t ty el pi e1 i1 g 0 at_ cc ⟨g, o', none⟩ k c' news (by rw [i2]; exact hnl) hnews hone (by omega)
      (fun jj hjj => by rw [i2, hcell _ (by omega), List.getElem?_eq_getElem (by omega)]; rfl)
      (fun jj hjj => by simp [World.frozen?, hgb])
    rw [i2] at hrun
    obtain ⟨s1, s2, s3, s4⟩ := setCells_misc news g (0 + at_ * esz) w
    have hfit : 0 + at_ * esz + news.length ≤ cur.size := by omega
    refine ⟨HO g 0 (at_ + k) cc, w.setCells g (0 + at_ * esz) news, e, ?_, r.absTurn (st := ⟨S, c⟩) (w' := w.setCells g (0 + at_ * esz) news) hp rfl ?_ (fun b hb => ?_) ⟨s2, s3, s4⟩ s1, by simp only [Rep]⟩
    · simp only [execOp, resolve, invoke, builtin, Sem.run_bind, Sem.run_pure, Result.andThen_ok, List.map_toArray, List.map_cons, List.map_nil, h1, h2, hrun]
    · have hcur := setCells_heap news g (0 + at_ * esz) w cur el (0, 0) hgb
      let ys := (xs.take (at_ * esz)) ++ news
      have hyl : ys.length = (at_ + k) * esz := by simp only [ys, List.length_append, hnl, List.length_take, hxl]; omega
      refine ⟨ys, ⟨hyl, .inr ⟨g, cc, _, rfl, Nat.zero_le _, hcur, by omega, hmax, by rw [writeAt_size]; exact hcs, ?_⟩⟩, ?_⟩
      · apply List.ext_getElem?
        intro jj
        rw [List.getElem?_take]
        by_cases hj : jj < (at_ + k) * esz
        · rw [if_pos hj, Array.getElem?_toList, writeAt_get _ _ _ _ hfit]
          simp only [ys]
          by_cases hja : jj < at_ * esz
          · rw [if_neg (by omega), List.getElem?_append_left (by rw [List.length_take, hxl]; omega), List.getElem?_take, if_pos hja, ← htake, List.getElem?_take, if_pos (by omega)]
            simp
          · have hl0 : (xs.take (at_ * esz)).length = at_ * esz := by rw [List.length_take, hxl]; omega
            rw [if_pos (by omega), List.getElem?_append_right (by omega), hl0, Nat.zero_add]
        · rw [if_neg hj, List.getElem?_eq_none (by omega)]
      · intro jj hjj
        rw [hrow jj (by omega)]
        by_cases hja : jj < at_
        · rw [if_pos hja]
          have := hrows jj (by omega)
          have e5 : (jj + 1) * esz ≤ at_ * esz := Nat.mul_le_mul_right _ hja
          rw [Nat.add_mul, Nat.one_mul] at e5
          have : (ys.drop (jj * esz)).take esz = (xs.drop (jj * esz)).take esz := by
            apply List.ext_getElem?
            intro q
            rw [List.getElem?_take, List.getElem?_take]
            split
            · rename_i hq
              simp only [ys]
              rw [List.getElem?_drop, List.getElem?_drop, List.getElem?_append_left (by rw [List.length_take, hxl]; omega), List.getElem?_take, if_pos (by omega)]
            · rfl
          rw [this]; assumption
        · rw [if_neg hja]
          have h6 := hrows (jj + 1) (by omega)
          have e5 : at_ * esz ≤ jj * esz := Nat.mul_le_mul_right _ (by omega)
          have e6 : (jj + 1) * esz ≤ (at_ + k) * esz := Nat.mul_le_mul_right _ hjj
          have e7 : (jj + 1) * esz = jj * esz + esz := by rw [Nat.add_mul, Nat.one_mul]
          have hl0 : (xs.take (at_ * esz)).length = at_ * esz := by rw [List.length_take, hxl]; omega
          have : (ys.drop (jj * esz)).take esz = (xs.drop ((jj + 1) * esz)).take esz := by
            apply List.ext_getElem?
            intro q
            rw [List.getElem?_take, List.getElem?_take]
            split
            · rename_i hq
              simp only [ys, news]
              rw [List.getElem?_drop, List.getElem?_drop, List.getElem?_append_right (by omega), hl0, List.getElem?_take, if_pos (by omega), List.getElem?_drop]
              congr 1; omega
            · rfl
          rw [this]; exact h6
    · exact setCells_other news g _ b w (fun hh => hb (by subst hh; simp [vecA, Value.ownBlock])))
end
end Go.Sy

/- The symbolic walk, part 41: what comes behind begins from one of a family of states; steps of drawn regions at a phase, reckoned; cuts of known slices. -/
set_option linter.unusedSimpArgs false
set_option linter.unusedVariables false
namespace Go.Sy
open Go.RowKit

section
variable {P : Program} {T : Tab} {X : Ctx P T} {n : Nat} {e : Env} {st : St} {a : Act} {w : World} {ops : Array Oper} {K : St → Prop}

theorem C_joinE {α : Type} {Q : Exit → St → Prop} {c : Code} (S : α → St) (I : α → Prop) (h1 : SymC X n c st (fun ex s => match ex with
      | .normal => ∃ a, I a ∧ Le X n s (S a)
      | ex => Q ex s)) (h2 : ∀ a s, I a → Le X n s (S a) → Q .normal s) : SymC X n c st Q := by
  refine h1.mono (fun ex s h => ?_)
  cases ex with
  | normal => obtain ⟨a, ha, hl⟩ := h; exact h2 a s ha hl
  | exit id => exact h
  | goto l => exact h
  | ret => exact h
  | panic ch => exact h
  | outgrown => exact h

/-- One step of a drawn region of effects, by reckoning, at a phase that is known. -/
def stepXM {P : Program} {T : Tab} (X : Ctx P T) (n : Nat) (ops : Array Oper) (p : Pl) (ph0 : Nat) (base : List (Nat × AV)) (C : Nat → List Ch) (K : St → Prop) : List Oper → Done → Option Prop
  | [], _ => none
  | o :: rest, done => normG (availX p done.length done o.after.toList base) fun Si => match guardA ops ⟨Si, C ph0⟩ o, dstOK n o.dst, Nat.beq (p.lo done.length) ph0, Nat.beq (p.hi done.length) ph0, p.E.contains done.length with
    | some true, true, true, true, false => (match stillX T ⟨Si, C ph0⟩ o.op with
      | some (vc, x) => normA x fun x => (match p.creB done.length x with
        | true => normG (done ++ [(o.dst, x)]) fun done => some (vc ∧ SymX X n ops p base C K rest done)
        | _ => none)
      | none => none)
    | _, _, _, _, _ => none

theorem sxm (ph0 : Nat) {p : Pl} {base : List (Nat × AV)} {C : Nat → List Ch} {l : List Oper} {done : Done} {q : Prop} (h : stepXM X n ops p ph0 base C K l done = some q) (hq : q) : SymX X n ops p base C K l done := by
  cases l with
  | nil => simp [stepXM] at h
  | cons o rest =>
    simp only [stepXM, normG_eq, normA_eq] at h
    split at h
    · rename_i hg hd hlo hhi hE
      split at h
      · rename_i vc x hs
        split at h
        · rename_i hc
          simp only [Option.some.injEq] at h
          subst h
          exact SXr x ph0 hc hE hlo hhi (X_stillX hg hd hs hq.1) (by rw [normG_eq]; exact hq.2)
        · cases h
      · cases h
    · cases h

/-- A step that turns nothing, in a drawn region. -/
theorem D_X {base : List (Nat × AV)} {c : List Ch} {o : Oper} {rest : List Oper} {done : Done} (x : AV) (h : StepX X n ops pl0 (availL done o.after.toList base) c c 0 o x) (k : SymD X n ops base c K rest (done ++ [(o.dst, x)])) : SymD X n ops base c K (o :: rest) done := by
  refine ⟨x, fun e a w S K' Q r hS hk => ?_, k⟩
  exact h e a w S K' Q r hS (fun _ _ _ q hq => by cases hq) (fun e' a' w' S' r' hu => hk e' a' w' (r'.less (fun i y hy => by
    cases hd : o.dst with
    | none =>
      rw [hd] at hy
      exact hu.2.1 i y (by rw [hd]; intro h; cases h) hy (fun q hq => by cases hq)
    | some d =>
      rw [hd] at hy
      simp only [putS] at hy
      rw [get_cons] at hy
      by_cases hdi : d = i
      · rw [if_pos hdi] at hy; cases hy; subst hdi; exact hu.1 d hd
      · rw [if_neg hdi] at hy
        exact hu.2.1 i y (by rw [hd]; intro h; cases h; exact hdi rfl) hy (fun q hq => by cases hq)) (fun h => h)))

/-- s[:j]. -/
theorem X_sliceTo {p : Pl} {t el sz0 b0 : Nat} {ag0 : Bool} {z0 : List Value} {ti : TI} {x hi : Operand} {g o m c j : Nat} {kk : IntKind} {d : Option Nat} {ty : TypeId} {pos : String} {aft : Array Edge} {gd : Option (Nat × Bool)} {q : Nat} {Si : List (Nat × AV)} {cs : List Ch}
    (hTs : T t = some ⟨sz0, b0, ag0, z0, .slice el⟩) (hTe : T el = some ti) (hg : guardA ops ⟨Si, cs⟩ ⟨d, .slice t x none (some hi) none, ty, pos, aft, gd⟩ = some true) (hx : opd Si x = some (.v (HO g o m c))) (hhi : opd Si hi = some (.v (.int kk (j : Nat)))) (hd : dstOK n d = true)
    (hj : j ≤ m) (hc : m ≤ c) : StepX X n ops p Si cs cs q ⟨d, .slice t x none (some hi) none, ty, pos, aft, gd⟩ (.v (HO g o j c)) := by
  have h := X_slice (X := X) (p := p) (q := q) (i := 0) (j := (j : Int)) hTs hTe hg hx rfl (by simp only [bndA, hhi]) hd (by omega) (by omega) (by omega) hc
  have e : (if c - (0 : Int).toNat = 0 then o else o + (0 : Int).toNat * ti.size) = o := by split <;> simp
  rw [e] at h
  simpa using h
/-- s[i:]. -/
theorem X_sliceFrom {p : Pl} {t el sz0 b0 : Nat} {ag0 : Bool} {z0 : List Value} {ti : TI} {x lo : Operand} {g o m c i : Nat} {kk : IntKind} {d : Option Nat} {ty : TypeId} {pos : String} {aft : Array Edge} {gd : Option (Nat × Bool)} {q : Nat} {Si : List (Nat × AV)} {cs : List Ch}
    (hTs : T t = some ⟨sz0, b0, ag0, z0, .slice el⟩) (hTe : T el = some ti) (hg : guardA ops ⟨Si, cs⟩ ⟨d, .slice t x (some lo) none none, ty, pos, aft, gd⟩ = some true) (hx : opd Si x = some (.v (HO g o m c))) (hlo : opd Si lo = some (.v (.int kk (i : Nat)))) (hd : dstOK n d = true)
    {r : Nat} (hi : i ≤ m) (hc : m ≤ c) (hr : m - i = r) : StepX X n ops p Si cs cs q ⟨d, .slice t x (some lo) none none, ty, pos, aft, gd⟩ (.v (HO g (if c - i = 0 then o else o + i * ti.size) r (c - i))) := by
  subst hr
  have h := X_slice (X := X) (p := p) (q := q) (i := (i : Int)) (j := (m : Int)) hTs hTe hg hx (by simp only [bndA, hlo]) rfl hd (by omega) (by omega) (by omega) hc
  simpa using h
def nthN : Nat → List Ch → Option (Ch × List Ch)
  | 0, x :: r => some (x, r)
  | i + 1, c :: r => match nthN i r with
    | some (A, r') => some (A, c :: r')
    | none => none
  | _, [] => none
def pickN : List Nat → List Ch → Option (List Ch × List Ch)
  | [], c => some ([], c)
  | i :: is, c => match nthN i c with
    | some (A, c') => (match pickN is c' with
      | some (As, r) => some (A :: As, r)
      | none => none)
    | none => none
theorem nthN_perm : ∀ {i : Nat} {c r : List Ch} {A : Ch}, nthN i c = some (A, r) → c.Perm (A :: r)
  | 0, [], r, A, h => by simp [nthN] at h
  | 0, x :: c, r, A, h => by
    simp only [nthN, Option.some.injEq, Prod.mk.injEq] at h
    obtain ⟨rfl, rfl⟩ := h
    exact .refl _
  | i + 1, [], r, A, h => by simp [nthN] at h
  | i + 1, x :: c, r, A, h => by
    simp only [nthN] at h
    split at h
    · rename_i A' r' hh
      simp only [Option.some.injEq, Prod.mk.injEq] at h
      obtain ⟨rfl, rfl⟩ := h
      exact ((nthN_perm hh).cons x).trans (.swap _ _ _)
    · cases h
theorem pickN_perm : ∀ {is : List Nat} {c r : List Ch} {As : List Ch}, pickN is c = some (As, r) → c.Perm (As ++ r)
  | [], c, r, As, h => by
    simp only [pickN, Option.some.injEq, Prod.mk.injEq] at h
    obtain ⟨rfl, rfl⟩ := h
    exact .refl _
  | i :: is, c, r, As, h => by
    simp only [pickN] at h
    split at h
    · rename_i A c' hh
      split at h
      · rename_i As' r' hh2
        simp only [Option.some.injEq, Prod.mk.injEq] at h
        obtain ⟨rfl, rfl⟩ := h
        exact (nthN_perm hh).trans ((pickN_perm hh2).cons A)
      · cases h
    · cases h
/-- Slots and chunks picked by their places. -/
theorem Le.pick (is : List Nat) {s s2 : List (Nat × AV)} {c c2 cr : List Ch} (hs : subS s2 s) (h : pickN is c = some (c2, cr)) : Le X n ⟨s, c⟩ ⟨s2, c2⟩ :=
  Le.perm cr hs ((pickN_perm h).trans List.perm_append_comm)
theorem any_of_DU {base : List (Nat × AV)} {c : List Ch} {D : Done} {Q : Exit → Act → World → Prop} {m f : Nat} (ht : tailB ops f m = true) (hD : D.length = m)
    (hstep : ∀ i o, i < m → ops[i]? = some o → ∃ x, D[i]? = some (o.dst, x) ∧ StepD X n ops (availL (D.take i) o.after.toList base) c o x)
    (hedge : ∀ i o, ops[i]? = some o → ∀ e ∈ o.after, Region.binds .any e = true → e.on < i)
    (hdist : ∀ (i j : Nat) o o' d, i < m → j < m → ops[i]? = some o → ops[j]? = some o' → o.dst = some d → o'.dst = some d → i = j)
    (hbase : ∀ (i : Nat) o d, i < m → ops[i]? = some o → o.dst = some d → get base d = none)
    (hfin : ∀ e a w, Rel X n e ⟨finS base D, c⟩ a w → wpList P ops Q (ops.toList.drop m) a w) :
    ∀ (fuel : Nat) (listed : Array Bool) (a : Act) (w : World) (e : Env) (S : List (Nat × AV)), listed.size = ops.size → listed.toList.count false = fuel → Rel X n e ⟨S, c⟩ a w →
      (∀ j, m ≤ j → listed.getD j false = false) → ClosedL ops listed →
      (∀ k y, get base k = some y → get S k = some y) → (∀ (i : Nat) d x, listed.getD i false = true → D[i]? = some (some d, x) → get S d = some x) →
      wpAny P .any ops Q fuel listed a w := by
  have ht' := ht
  unfold tailB at ht'
  simp only [Bool.and_eq_true, List.all_eq_true, List.mem_range, Array.length_toList] at ht'
  obtain ⟨⟨hm, hcov⟩, hch⟩ := ht'
  have hm' : m < ops.size := by have h := hm; simp [Nat.blt] at h; omega
  have cnt : ∀ (l : List Bool) (k : Nat), k ≤ l.length → (∀ j, j < l.length → (l[j]? = some true ↔ j < k)) → l.count false + k = l.length := by
    intro l
    induction l with
    | nil => intro k hk _; simp at hk; simp [hk]
    | cons b l ih =>
      intro k hk h
      cases k with
      | zero =>
        have hb : b = false := by
          have := h 0 (by simp)
          cases b
          · rfl
          · simp at this
        subst hb
        have := ih 0 (Nat.zero_le _) (fun j hj => by have := h (j + 1) (by simpa using hj); simpa using this)
        simp at this ⊢; omega
      | succ k =>
        have hb : b = true := by
          have := h 0 (by simp)
          simpa using this
        subst hb
        have := ih k (by simpa using hk) (fun j hj => by have := h (j + 1) (by simpa using hj); simpa using this)
        simp at this ⊢; omega
  intro fuel
  induction fuel with
  | zero =>
    intro listed a w e S hsz hc r hge hcl hb hs
    exfalso
    have h1 := hge m (Nat.le_refl _)
    have hls : m < listed.size := by omega
    have : false ∈ listed.toList := by
      simp [hls] at h1
      exact List.mem_iff_getElem.2 ⟨m, by simpa using hls, by simpa using h1⟩
    have := List.count_pos_iff.2 this
    omega
  | succ fuel ih =>
    intro listed a w e S hsz hc r hge hcl hb hs
    by_cases hall : ∀ j, j < m → listed.getD j false = true
    · -- all that is drawn is done
      have hlt : ∀ j, j < ops.size → (listed.getD j false = true ↔ j < m) := fun j hj => by
        constructor
        · intro h
          rcases Nat.lt_or_ge j m with h1 | h1
          · exact h1
          · rw [hge j h1] at h; cases h
        · exact hall j
      have hcount : listed.toList.count false + m = ops.size := by
        have := cnt listed.toList m (by simp; omega) (fun j hj => by
          have hjl : j < listed.size := by simpa using hj
          have := hlt j (by omega)
          simp [hjl] at this ⊢
          exact this)
        simpa [hsz] using this
      refine any_tail ht hedge (fuel + 1) m listed a w (by omega) (Nat.le_refl _) hsz hlt ?_
      refine hfin e a w (r.less (fun k y hk => ?_) id)
      rcases finS_get hk with ⟨i, hi⟩ | h
      · have hil : i < D.length := by
          rcases Nat.lt_or_ge i D.length with h | h
          · exact h
          · rw [List.getElem?_eq_none h] at hi; cases hi
        exact hs i k y (hall i (by omega)) hi
      · exact hb k y h
    -- what may come up now is drawn
    have hlow : ∀ i ∈ Region.ready .any ops listed, i < m := by
      intro i hi
      rw [mem_ready] at hi
      obtain ⟨h0, o, ho, hpre⟩ := hi
      rcases Nat.lt_or_ge i m with h | h
      · exact h
      · exfalso
        have hlt : i < ops.size := (Array.getElem?_eq_some_iff.1 ho).1
        rcases Nat.eq_or_lt_of_le h with h | h
        · subst h
          refine hall (fun j hj => ?_)
          have hc := hcov j hj
          rw [List.contains_iff_mem] at hc
          refine ancs_listed hcl f m (fun q hq => ?_) j hc
          obtain ⟨o', ho', ed, he, hbb, rfl⟩ := mem_preds hq
          rw [ho] at ho'; cases ho'
          exact hpre ed he hbb
        · have hc := hch (i - m - 1) (by omega)
          rw [show m + 1 + (i - m - 1) = i by omega, show m + (i - m - 1) = i - 1 by omega, List.contains_iff_mem] at hc
          obtain ⟨o', ho', ed, he, hbb, hon⟩ := mem_preds hc
          rw [ho] at ho'; cases ho'
          have := hpre ed he hbb
          rw [hon, hge (i - 1) (by omega)] at this
          cases this
    refine ⟨fun hr => ?_, fun i hi => ?_⟩
    · exfalso
      refine hall (fun j => ?_)
      induction j using Nat.strongRecOn with
      | ind j ihj =>
        intro hj
        cases hl : listed.getD j true with
        | true =>
          have : j < listed.size := by omega
          simp [this] at hl ⊢
          exact hl
        | false =>
          exfalso
          have hmem : j ∈ Region.ready .any ops listed := by
            rw [mem_ready]
            refine ⟨hl, ops[j], by simp [show j < ops.size by omega], fun e he hbb => ?_⟩
            have h1 := hedge j ops[j] (by simp [show j < ops.size by omega]) e he hbb
            exact ihj e.on h1 (by omega)
          rw [hr] at hmem; cases hmem
    · have him := hlow i hi
      rw [mem_ready] at hi
      obtain ⟨h0, o, ho, hpre⟩ := hi
      have hlt : i < ops.size := (Array.getElem?_eq_some_iff.1 ho).1
      have hlf : listed.toList[i]? = some false := by
        have : i < listed.size := by omega
        simp [this] at h0 ⊢
        exact h0
      obtain ⟨x, hx, hst⟩ := hstep i o him ho
      unfold wpOp
      simp only [ho]
      refine hst e a w S _ Q r (fun k y hk => ?_) (fun e' a' w' r' => ?_)
      · rcases availL_get hk with ⟨ed, h1, h2, h3⟩ | h
        · have h4 : D[ed.on]? = some (some k, y) := by
            rw [List.getElem?_take] at h3
            split at h3
            · exact h3
            · cases h3
          exact hs ed.on k y (hpre ed (by simpa using h1) h2) h4
        · exact hb k y h
      · refine ih (listed.setIfInBounds i true) a' w' e' _ (by simpa using hsz) ?_ r' (fun j hj => ?_) (fun j oj hj hoj ed he hbb => ?_) (fun k y hk => ?_) (fun j d y hj hy => ?_)
        · rw [Array.toList_setIfInBounds]
          have hlt' : i < listed.toList.length := by simpa using (by omega : i < listed.size)
          have hg : listed.toList[i] = false := by
            have := List.getElem?_eq_getElem hlt'
            rw [hlf] at this
            simpa using this.symm
          rw [List.count_set hlt', hg, hc]
          simp
        · rw [getD_set_ne false (by omega : i ≠ j)]
          exact hge j hj
        · by_cases hei : ed.on = i
          · have hls : i < listed.size := by omega
            rw [hei]; simp [hls]
          · rw [getD_set_ne false (Ne.symm hei)]
            by_cases hji : j = i
            · subst hji
              rw [ho] at hoj; cases hoj
              exact hpre ed he hbb
            · rw [getD_set_ne false (Ne.symm hji)] at hj
              exact hcl j oj hj hoj ed he hbb
        · cases hd : o.dst with
          | none => exact hb k y hk
          | some d =>
            simp only [putS]
            rw [get_cons]
            by_cases h : d = k
            · subst h
              rw [hbase i o d him ho hd] at hk
              cases hk
            · rw [if_neg h]; exact hb k y hk
        · by_cases hji : j = i
          · subst hji
            rw [hx] at hy
            simp only [Option.some.injEq, Prod.mk.injEq] at hy
            rw [hy.1, hy.2]
            simp only [putS]
            rw [get_cons, if_pos rfl]
          · rw [getD_set_ne false (Ne.symm hji)] at hj
            have hold := hs j d y hj hy
            cases hd : o.dst with
            | none => exact hold
            | some d' =>
              simp only [putS]
              rw [get_cons]
              by_cases h : d' = d
              · exfalso
                subst h
                have hjl : j < m := by
                  rw [← hD]
                  rcases Nat.lt_or_ge j D.length with h | h
                  · exact h
                  · rw [List.getElem?_eq_none h] at hy; cases hy
                obtain ⟨x', hx', _⟩ := hstep j ops[j] hjl (by simp [show j < ops.size by omega])
                rw [hx'] at hy
                simp only [Option.some.injEq, Prod.mk.injEq] at hy
                exact hji (hdist j i ops[j] o d' hjl him (by simp [show j < ops.size by omega]) ho hy.1 hd)
              · rw [if_neg h]; exact hold

/-- .. the rest may set slots that are read ahead. -/
def edgesB (ops : Array Oper) : Bool := (List.range ops.toList.length).all fun i => (predsB ops i).all fun j => Nat.blt j i
theorem C_drawU (f m : Nat) {id : Nat} {Q : Exit → St → Prop} {s base : List (Nat × AV)} {c : List Ch} (hb : eraseD (ops.toList.take m) s = some base) (hchk : chkD base 0 [] (ops.toList.take m) = true) (hed : edgesB ops = true)
    (ht : tailB ops f m = true) (h : SymD X n ops base c (fun s => SymO X n ops (ops.toList.drop m) s (fun s => Q .normal s)) (ops.toList.take m) []) : SymC X n (.region id ops true) ⟨s, c⟩ Q := by
  intro e a w r
  have hbs : ∀ k y, get base k = some y → get s k = some y := fun k y hk => eraseD_get hb hk
  obtain ⟨D, _, hl, hK, hs⟩ := h.plan
  obtain ⟨c1, c2⟩ := chkD_spec hchk
  have hbel : Below w.heap.size w { w with drawn := w.drawn + 1 } := ⟨rfl, rfl, rfl, Nat.le_refl _, fun _ _ => rfl⟩
  have hm : m < ops.size := by
    unfold tailB at ht
    simp only [Bool.and_eq_true] at ht
    have h1 := ht.1.1
    simp [Nat.blt] at h1; omega
  have htk : ∀ (i : Nat) (o : Oper), i < m → ops[i]? = some o → (ops.toList.take m)[i]? = some o := fun i o him ho => by rw [List.getElem?_take, if_pos him]; simpa using ho
  refine wp_region_any X.wide ?_
  refine any_of_DU (X := X) (n := n) (base := base) (c := c) (D := D) (f := f) (m := m) ht (by simp at hl; omega) (fun i o him ho => ?_) (fun i o ho => ?_) (fun i j o o' d him hjm hi hj => c2 i j o o' d (htk i o him hi) (htk j o' hjm hj)) (fun i o d him ho hd => ((c1 i o (htk i o him ho)).2 d hd).1)
    (fun e a w r => hK e a w _ r fun e' st' _ _ hk hr => ⟨e', st', hr, hk⟩) _ _ a _ e base (by simp) (by simp) ((r.below hbel).less hbs (fun h => h)) (fun j hj => ?_) (fun j o hj => ?_) (fun k y hk => hk) (fun i d x hi => ?_)
  · have := hs i o (htk i o him ho)
    simpa using this
  · intro ed he hb'
    have hi : i < ops.toList.length := by
      have := (Array.getElem?_eq_some_iff.1 ho).1
      simpa using this
    have h1 := List.all_eq_true.1 hed i (List.mem_range.2 hi)
    have h2 := List.all_eq_true.1 h1 ed.on (by
      unfold predsB
      rw [show ops.toList[i]? = some o by simpa using ho]
      exact List.mem_map.2 ⟨ed, List.mem_filter.2 ⟨by simpa using he, hb'⟩, rfl⟩)
    simp [Nat.blt] at h2; omega
  · rcases Nat.lt_or_ge j ops.size with h | h
    · simp [h]
    · simp [Nat.not_lt.2 h]
  · rcases Nat.lt_or_ge j ops.size with h | h
    · simp [h] at hj
    · simp [Nat.not_lt.2 h] at hj
  · rcases Nat.lt_or_ge i ops.size with h | h
    · simp [h] at hi
    · simp [Nat.not_lt.2 h] at hi
end
end Go.Sy

/- The symbolic walk, part 42: drawn regions whose tail may begin ahead of one move that comes late. -/
set_option linter.unusedSimpArgs false
set_option linter.unusedVariables false
namespace Go.Sy
open Go.RowKit

section
variable {P : Program} {T : Tab} {X : Ctx P T} {n : Nat} {e : Env} {st : St} {a : Act} {w : World} {ops : Array Oper} {K : St → Prop}

/-- Each but the first waits for one of those that are left. -/
def seqB (ops : Array Oper) : List Nat → Bool
  | [] => true
  | i :: r => r.all (fun j => (predsB ops j).any (fun q => (i :: r).contains q)) && Nat.blt i ops.toList.length && seqB ops r
def opsAt (ops : Array Oper) (L : List Nat) : List Oper := L.filterMap fun i => ops.toList[i]?

theorem any_seq {Q : Exit → Act → World → Prop} : ∀ (L : List Nat) (listed : Array Bool) (a : Act) (w : World), seqB ops L = true → L.Nodup → listed.size = ops.size →
    (∀ j, j < ops.size → (listed.getD j false = true ↔ j ∉ L)) → (∀ i o, ops[i]? = some o → ∀ e ∈ o.after, Region.binds .any e = true → e.on < i) → (∀ i o r1 r2, L = r1 ++ i :: r2 → ops[i]? = some o → ∀ e ∈ o.after, Region.binds .any e = true → e.on ∉ r2 ∧ e.on ≠ i) →
    wpList P ops Q (opsAt ops L) a w → wpAny P .any ops Q L.length listed a w
  | [], listed, a, w, hs, hn, hsz, hl, hedge, ho, hw => by
    refine ⟨?_, ?_⟩
    · cases hr : Region.ready .any ops listed with
      | nil => rfl
      | cons j js =>
        exfalso
        have hmem : j ∈ Region.ready .any ops listed := by rw [hr]; simp
        rw [mem_ready] at hmem
        obtain ⟨h0, o, ho, _⟩ := hmem
        have hlt : j < ops.size := (Array.getElem?_eq_some_iff.1 ho).1
        have := (hl j hlt).2 (by simp)
        have hls : j < listed.size := by omega
        simp [hls] at h0 this
        rw [h0] at this; cases this
    · simpa [opsAt, wpList] using hw
  | i :: r, listed, a, w, hs, hn, hsz, hl, hedge, ho, hw => by
    simp only [seqB, Bool.and_eq_true, List.all_eq_true, List.any_eq_true] at hs
    obtain ⟨⟨hs1, hs2⟩, hs3⟩ := hs
    have hil : i < ops.size := by simp [Nat.blt] at hs2; omega
    have hls : i < listed.size := by omega
    have hoi : ops[i]? = some (ops.toList[i]'(by simpa using hil)) := by simp [hil]
    have hready : ∀ j ∈ Region.ready .any ops listed, j = i := by
      intro j hj
      rw [mem_ready] at hj
      obtain ⟨h0, o, ho', hp⟩ := hj
      have hlt : j < ops.size := (Array.getElem?_eq_some_iff.1 ho').1
      have hjl : j < listed.size := by omega
      have hin : j ∈ i :: r := by
        apply Classical.byContradiction
        intro hn'
        have := (hl j hlt).2 hn'
        simp [hjl] at h0 this
        rw [h0] at this; cases this
      rcases List.mem_cons.1 hin with h | h
      · exact h
      · exfalso
        obtain ⟨q, hq1, hq2⟩ := hs1 j h
        obtain ⟨o', ho2, e, he, hb, hon⟩ := mem_preds hq1
        rw [ho'] at ho2
        cases ho2
        have h3 := hp e he hb
        rw [hon] at h3
        have hqlt : q < ops.size := by
          have := hedge j o ho' e he hb
          omega
        exact (hl q hqlt).1 h3 (by simpa using hq2)
    refine ⟨fun hr => ?_, fun j hj => ?_⟩
    · exfalso
      have hmem : i ∈ Region.ready .any ops listed := by
        rw [mem_ready]
        refine ⟨?_, _, hoi, fun e he hb => ?_⟩
        · cases h : listed.getD i false with
          | true => exact absurd (List.mem_cons_self ..) ((hl i hil).1 h)
          | false => simp [hls] at h ⊢; exact h
        · have h1 := hedge i _ hoi e he hb
          obtain ⟨h2, h3⟩ := ho i _ [] r rfl hoi e he hb
          exact (hl e.on (by omega)).2 (by simp [h2, h3])
      rw [hr] at hmem; cases hmem
    · obtain rfl := hready j hj
      have hnext : ∀ a w, wpList P ops Q (opsAt ops r) a w → wpAny P .any ops Q r.length (listed.setIfInBounds j true) a w := fun a w hw => by
        refine any_seq r _ a w hs3 (List.nodup_cons.1 hn).2 (by simpa using hsz) (fun k hk => ?_) hedge (fun i' o' r1 r2 he hoi' ed hed hb => ho i' o' (j :: r1) r2 (by rw [he]; rfl) hoi' ed hed hb) hw
        by_cases hkj : k = j
        · subst hkj
          have hls : k < listed.size := by omega
          simp [hls]
          exact (List.nodup_cons.1 hn).1
        · rw [getD_set_ne false (Ne.symm hkj), hl k hk]
          simp [hkj]
      have hw2 : wpList P ops Q (ops.toList[j]'(by simpa using hil) :: opsAt ops r) a w := by
        have : opsAt ops (j :: r) = ops.toList[j]'(by simpa using hil) :: opsAt ops r := by
          simp [opsAt, hil]
        rw [← this]; exact hw
      unfold wpOp
      rw [hoi]
      simp only [wpList] at hw2 ⊢
      split
      · rename_i hwt
        rw [if_pos hwt] at hw2
        exact hw2.imp (Oper.wp_mono hnext) id
      · rename_i hwt
        rw [if_neg hwt] at hw2
        exact hnext _ _ hw2


theorem any_seqS {Q : Exit → Act → World → Prop} (L : List Nat) (listed : Array Bool) (a : Act) (w : World) (hs : seqB ops L = true) (hn : L.Pairwise (· < ·)) (hsz : listed.size = ops.size)
    (hl : ∀ j, j < ops.size → (listed.getD j false = true ↔ j ∉ L)) (hedge : ∀ i o, ops[i]? = some o → ∀ e ∈ o.after, Region.binds .any e = true → e.on < i)
    (hw : wpList P ops Q (opsAt ops L) a w) : wpAny P .any ops Q L.length listed a w := by
  refine any_seq L listed a w hs (hn.imp (fun h => Nat.ne_of_lt h)) hsz hl hedge (fun i o r1 r2 he ho ed hed hb => ?_) hw
  have h1 := hedge i o ho ed hed hb
  subst he
  have h2 := List.pairwise_cons.1 (List.pairwise_append.1 hn).2.1
  refine ⟨fun hin => ?_, by omega⟩
  have := h2.1 _ hin
  omega

/-- From operation m on each waits for all that are ahead of it, but that operation l may come between m and the next. -/
def tailV (ops : Array Oper) (f m l : Nat) : Bool :=
  Nat.blt m ops.toList.length && Nat.blt l m && (List.range m).all (fun j => Nat.beq j l || (ancsB ops f m).contains j) && !((ancsB ops f m).contains l) && seqB ops (rng m ops.toList.length) && seqB ops (l :: rng (m + 1) ops.toList.length)
where rng (a b : Nat) : List Nat := (List.range (b - a)).map (· + a)

theorem mem_rng {a b j : Nat} : j ∈ tailV.rng a b ↔ a ≤ j ∧ j < b := by
  simp only [tailV.rng, List.mem_map, List.mem_range]
  constructor
  · rintro ⟨i, h1, rfl⟩; omega
  · rintro ⟨h1, h2⟩; exact ⟨j - a, by omega, by omega⟩
theorem sorted_rng (a b : Nat) : (tailV.rng a b).Pairwise (· < ·) := by
  simp only [tailV.rng]
  exact List.pairwise_map.2 ((List.pairwise_lt_range).imp (fun h => by omega))
theorem len_rng (a b : Nat) : (tailV.rng a b).length = b - a := by simp [tailV.rng]
theorem rng_cons {a b : Nat} (h : a < b) : tailV.rng a b = a :: tailV.rng (a + 1) b := by
  simp only [tailV.rng]
  rw [show b - a = (b - (a + 1)) + 1 by omega, List.range_succ_eq_map]
  simp [Function.comp_def, Nat.add_assoc, Nat.add_comm 1 a]
theorem opsAt_rng : ∀ (k m : Nat), m + k = ops.size → opsAt ops (tailV.rng m ops.size) = ops.toList.drop m
  | 0, m, h => by
    have : tailV.rng m ops.size = [] := by simp [tailV.rng, show ops.size - m = 0 by omega]
    rw [this, List.drop_eq_nil_of_le (by simp; omega)]; rfl
  | k + 1, m, h => by
    have hm : m < ops.toList.length := by simp; omega
    rw [rng_cons (by omega), List.drop_eq_getElem_cons hm]
    have ih := opsAt_rng k (m + 1) (by omega)
    simp only [opsAt] at ih ⊢
    rw [List.filterMap_cons, List.getElem?_eq_getElem hm]
    simp only [ih]

/-- The slots without one. -/
def lessS (d : Nat) (s : St) : St := ⟨s.s.filter (fun q => !Nat.beq q.1 d), s.c⟩
theorem get_less {d : Nat} : ∀ {l : List (Nat × AV)} {k : Nat} {y : AV}, get (l.filter (fun q => !Nat.beq q.1 d)) k = some y → k ≠ d ∧ get l k = some y
  | [], k, y, h => by simp [get] at h
  | (j, x) :: l, k, y, h => by
    rw [List.filter_cons] at h
    by_cases hj : j = d
    · subst hj
      simp at h
      obtain ⟨h1, h2⟩ := get_less (d := j) (l := l) (by simpa using h)
      refine ⟨h1, ?_⟩
      rw [get_cons, if_neg (Ne.symm h1)]; exact h2
    · have : (!Nat.beq j d) = true := by rw [Bool.not_eq_true', ← Bool.not_eq_true]; exact fun h => hj (Nat.eq_of_beq_eq_true h)
      simp only [this, if_true] at h
      rw [get_cons] at h ⊢
      by_cases hk : j = k
      · rw [if_pos hk] at h ⊢; exact ⟨by omega, h⟩
      · rw [if_neg hk] at h ⊢
        exact get_less h

theorem any_of_DV {base : List (Nat × AV)} {c : List Ch} {D : Done} {Q : Exit → Act → World → Prop} {m f l dl : Nat} (ht : tailV ops f m l = true) (hD : D.length = m)
    (hstep : ∀ i o, i < m → ops[i]? = some o → ∃ x, D[i]? = some (o.dst, x) ∧ StepD X n ops (availL (D.take i) o.after.toList base) c o x)
    (hedge : ∀ i o, ops[i]? = some o → ∀ e ∈ o.after, Region.binds .any e = true → e.on < i)
    (hdist : ∀ (i j : Nat) o o' d, i < m → j < m → ops[i]? = some o → ops[j]? = some o' → o.dst = some d → o'.dst = some d → i = j)
    (hbase : ∀ (i : Nat) o d, i < m → ops[i]? = some o → o.dst = some d → get base d = none)
    (hfin : ∀ e a w, Rel X n e ⟨finS base D, c⟩ a w → wpList P ops Q (ops.toList.drop m) a w)
    (hdl : ∀ o, ops[l]? = some o → o.dst = some dl) (hfin2 : ∀ e a w, Rel X n e (lessS dl ⟨finS base D, c⟩) a w → wpList P ops Q (opsAt ops (m :: l :: tailV.rng (m + 1) ops.size)) a w) :
    ∀ (fuel : Nat) (listed : Array Bool) (a : Act) (w : World) (e : Env) (S : List (Nat × AV)), listed.size = ops.size → listed.toList.count false = fuel → Rel X n e ⟨S, c⟩ a w →
      (∀ j, m ≤ j → listed.getD j false = false) → ClosedL ops listed →
      (∀ k y, get base k = some y → get S k = some y) → (∀ (i : Nat) d x, listed.getD i false = true → D[i]? = some (some d, x) → get S d = some x) →
      wpAny P .any ops Q fuel listed a w := by
  have ht' := ht
  unfold tailV at ht'
  simp only [Bool.and_eq_true, List.all_eq_true, List.mem_range, Array.length_toList, Bool.or_eq_true] at ht'
  obtain ⟨⟨⟨⟨⟨hm, hlm⟩, hcov⟩, hnl⟩, hch⟩, hch2⟩ := ht'
  have hlm' : l < m := by have h := hlm; simp [Nat.blt] at h; omega
  have hm' : m < ops.size := by have h := hm; simp [Nat.blt] at h; omega
  have cnt : ∀ (l : List Bool) (k : Nat), k ≤ l.length → (∀ j, j < l.length → (l[j]? = some true ↔ j < k)) → l.count false + k = l.length := by
    intro l
    induction l with
    | nil => intro k hk _; simp at hk; simp [hk]
    | cons b l ih =>
      intro k hk h
      cases k with
      | zero =>
        have hb : b = false := by
          have := h 0 (by simp)
          cases b
          · rfl
          · simp at this
        subst hb
        have := ih 0 (Nat.zero_le _) (fun j hj => by have := h (j + 1) (by simpa using hj); simpa using this)
        simp at this ⊢; omega
      | succ k =>
        have hb : b = true := by
          have := h 0 (by simp)
          simpa using this
        subst hb
        have := ih k (by simpa using hk) (fun j hj => by have := h (j + 1) (by simpa using hj); simpa using this)
        simp at this ⊢; omega
  intro fuel
  induction fuel with
  | zero =>
    intro listed a w e S hsz hc r hge hcl hb hs
    exfalso
    have h1 := hge m (Nat.le_refl _)
    have hls : m < listed.size := by omega
    have : false ∈ listed.toList := by
      simp [hls] at h1
      exact List.mem_iff_getElem.2 ⟨m, by simpa using hls, by simpa using h1⟩
    have := List.count_pos_iff.2 this
    omega
  | succ fuel ih =>
    intro listed a w e S hsz hc r hge hcl hb hs
    by_cases hall : ∀ j, j < m → listed.getD j false = true
    · -- all that is drawn is done
      have hlt : ∀ j, j < ops.size → (listed.getD j false = true ↔ j < m) := fun j hj => by
        constructor
        · intro h
          rcases Nat.lt_or_ge j m with h1 | h1
          · exact h1
          · rw [hge j h1] at h; cases h
        · exact hall j
      have hcount : listed.toList.count false + m = ops.size := by
        have := cnt listed.toList m (by simp; omega) (fun j hj => by
          have hjl : j < listed.size := by simpa using hj
          have := hlt j (by omega)
          simp [hjl] at this ⊢
          exact this)
        simpa [hsz] using this
      have hfu : fuel + 1 = (tailV.rng m ops.size).length := by rw [len_rng]; omega
      rw [hfu]
      refine any_seqS _ listed a w hch (sorted_rng _ _) hsz (fun j hj => by rw [hlt j hj, mem_rng]; omega) hedge ?_
      rw [opsAt_rng (ops.size - m) m (by omega)]
      refine hfin e a w (r.less (fun k y hk => ?_) id)
      rcases finS_get hk with ⟨i, hi⟩ | h
      · have hil : i < D.length := by
          rcases Nat.lt_or_ge i D.length with h | h
          · exact h
          · rw [List.getElem?_eq_none h] at hi; cases hi
        exact hs i k y (hall i (by omega)) hi
      · exact hb k y h
    -- what may come up now is drawn
    have hgt : ∀ i, m < i → i < ops.size → ∀ o, ops[i]? = some o → (∀ e ∈ o.after, Region.binds .any e = true → listed.getD e.on false = true) → False := by
      intro i h hlt o ho hpre
      rw [rng_cons hm'] at hch
      simp only [seqB, Bool.and_eq_true, List.all_eq_true, List.any_eq_true] at hch
      obtain ⟨q, hq1, hq2⟩ := hch.1.1 i (mem_rng.2 ⟨h, hlt⟩)
      obtain ⟨o', ho', ed, he, hbb, hon⟩ := mem_preds hq1
      rw [ho] at ho'; cases ho'
      have h5 := hpre ed he hbb
      rw [hon] at h5
      have : m ≤ q := by
        have hq3 := hq2
        simp only [List.contains_iff_mem, List.mem_cons, mem_rng] at hq3
        omega
      rw [hge q this] at h5; cases h5
    have hlow : ∀ i ∈ Region.ready .any ops listed, ¬ (i = m ∧ ∀ j, j < m → j ≠ l → listed.getD j false = true) → i < m := by
      intro i hi hne
      rw [mem_ready] at hi
      obtain ⟨h0, o, ho, hpre⟩ := hi
      rcases Nat.lt_or_ge i m with h | h
      · exact h
      · exfalso
        have hlt : i < ops.size := (Array.getElem?_eq_some_iff.1 ho).1
        rcases Nat.eq_or_lt_of_le h with h | h
        · subst h
          refine hne ⟨rfl, fun j hj hjl => ?_⟩
          have hc := hcov j hj
          rcases hc with hc | hc
          · exact absurd (Nat.eq_of_beq_eq_true hc) hjl
          rw [List.contains_iff_mem] at hc
          refine ancs_listed hcl f m (fun q hq => ?_) j hc
          obtain ⟨o', ho', ed, he, hbb, rfl⟩ := mem_preds hq
          rw [ho] at ho'; cases ho'
          exact hpre ed he hbb
        · exact hgt i h hlt o ho hpre
    refine ⟨fun hr => ?_, fun i hi => ?_⟩
    · exfalso
      refine hall (fun j => ?_)
      induction j using Nat.strongRecOn with
      | ind j ihj =>
        intro hj
        cases hl : listed.getD j true with
        | true =>
          have : j < listed.size := by omega
          simp [this] at hl ⊢
          exact hl
        | false =>
          exfalso
          have hmem : j ∈ Region.ready .any ops listed := by
            rw [mem_ready]
            refine ⟨hl, ops[j], by simp [show j < ops.size by omega], fun e he hbb => ?_⟩
            have h1 := hedge j ops[j] (by simp [show j < ops.size by omega]) e he hbb
            exact ihj e.on h1 (by omega)
          rw [hr] at hmem; cases hmem
    · by_cases hcase : i = m ∧ ∀ j, j < m → j ≠ l → listed.getD j false = true
      · -- the tail begins, that move is still to come
        obtain ⟨rfl, hothers⟩ := hcase
        have hln : listed.getD l false = false := by
          cases h : listed.getD l false with
          | false => rfl
          | true => exact absurd (fun j hj => by
            by_cases hjl : j = l
            · rw [hjl]; exact h
            · exact hothers j hj hjl) hall
        have hw2 := hfin2 e a w (r.less (fun k y hk => by
          obtain ⟨hkd, hk⟩ := get_less hk
          rcases finS_get hk with ⟨q, hq⟩ | h
          · have hql : q < D.length := by
              rcases Nat.lt_or_ge q D.length with h | h
              · exact h
              · rw [List.getElem?_eq_none h] at hq; cases hq
            refine hs q k y (hothers q (by omega) (fun hh => ?_)) hq
            subst hh
            have hqs : q < ops.size := by omega
            obtain ⟨x, hx, _⟩ := hstep q ops[q] hlm' (by simp [hqs])
            rw [hq] at hx
            simp only [Option.some.injEq, Prod.mk.injEq] at hx
            have := hdl ops[q] (by simp [hqs])
            rw [this] at hx
            simp only [Option.some.injEq] at hx
            exact hkd hx.1
          · exact hb k y h) id)
        have hil : i < ops.size := hm'
        have hls : l < ops.size := by omega
        have hoi : ops[i]? = some (ops.toList[i]'(by simpa using hil)) := by simp [hil]
        have hcf : fuel = (l :: tailV.rng (i + 1) ops.size).length := by
          have hls' : l < (listed.setIfInBounds l true).toList.length := by simp; omega
          have h1 := cnt (listed.setIfInBounds l true).toList i (by simp; omega) (fun j hj => by
            have hjl : j < listed.size := by simpa using hj
            by_cases hjj : l = j
            · subst hjj; simp [hjl]; omega
            · simp only [Array.toList_setIfInBounds, List.getElem?_set_ne hjj]
              constructor
              · intro h
                rcases Nat.lt_or_ge j i with h1 | h1
                · exact h1
                · have := hge j h1
                  simp [hjl] at h this; rw [h] at this; cases this
              · intro h
                have := hothers j h (Ne.symm hjj)
                simp [hjl] at this ⊢; exact this)
          rw [Array.toList_setIfInBounds, List.count_set (by simp; omega)] at h1
          have hg : listed.toList[l]'(by simp; omega) = false := by
            simp [show l < listed.size by omega] at hln; simpa using hln
          have hpos : 0 < listed.toList.count false := List.count_pos_iff.2 (hg ▸ List.getElem_mem _)
          simp [hg] at h1 hc
          simp only [List.length_cons, len_rng]
          omega
        have hnext : ∀ a w, wpList P ops Q (opsAt ops (l :: tailV.rng (i + 1) ops.size)) a w → wpAny P .any ops Q fuel (listed.setIfInBounds i true) a w := fun a w hw => by
          rw [hcf]
          refine any_seqS _ _ a w hch2 (List.pairwise_cons.2 ⟨fun j hj => by rw [mem_rng] at hj; omega, sorted_rng _ _⟩) (by simpa using hsz) (fun j hj => ?_) hedge hw
          by_cases hji : i = j
          · subst hji
            have : i < listed.size := by omega
            simp only [List.mem_cons, mem_rng]
            simp [this]; omega
          · rw [getD_set_ne false hji]
            simp only [List.mem_cons, mem_rng]
            constructor
            · intro h
              rcases Nat.lt_or_ge j i with h1 | h1
              · rintro (h2 | h2)
                · subst h2; rw [hln] at h; cases h
                · omega
              · rw [hge j h1] at h; cases h
            · intro h
              exact hothers j (by omega) (fun hh => h (.inl hh))
        have hw3 : wpList P ops Q (ops.toList[i]'(by simpa using hil) :: opsAt ops (l :: tailV.rng (i + 1) ops.size)) a w := by
          have : opsAt ops (i :: l :: tailV.rng (i + 1) ops.size) = ops.toList[i]'(by simpa using hil) :: opsAt ops (l :: tailV.rng (i + 1) ops.size) := by
            simp [opsAt, hil]
          rw [← this]; exact hw2
        unfold wpOp
        rw [hoi]
        simp only [wpList] at hw3 ⊢
        split
        · rename_i hwt
          rw [if_pos hwt] at hw3
          exact hw3.imp (Oper.wp_mono hnext) id
        · rename_i hwt
          rw [if_neg hwt] at hw3
          exact hnext _ _ hw3
      have him := hlow i hi hcase
      rw [mem_ready] at hi
      obtain ⟨h0, o, ho, hpre⟩ := hi
      have hlt : i < ops.size := (Array.getElem?_eq_some_iff.1 ho).1
      have hlf : listed.toList[i]? = some false := by
        have : i < listed.size := by omega
        simp [this] at h0 ⊢
        exact h0
      obtain ⟨x, hx, hst⟩ := hstep i o him ho
      unfold wpOp
      simp only [ho]
      refine hst e a w S _ Q r (fun k y hk => ?_) (fun e' a' w' r' => ?_)
      · rcases availL_get hk with ⟨ed, h1, h2, h3⟩ | h
        · have h4 : D[ed.on]? = some (some k, y) := by
            rw [List.getElem?_take] at h3
            split at h3
            · exact h3
            · cases h3
          exact hs ed.on k y (hpre ed (by simpa using h1) h2) h4
        · exact hb k y h
      · refine ih (listed.setIfInBounds i true) a' w' e' _ (by simpa using hsz) ?_ r' (fun j hj => ?_) (fun j oj hj hoj ed he hbb => ?_) (fun k y hk => ?_) (fun j d y hj hy => ?_)
        · rw [Array.toList_setIfInBounds]
          have hlt' : i < listed.toList.length := by simpa using (by omega : i < listed.size)
          have hg : listed.toList[i] = false := by
            have := List.getElem?_eq_getElem hlt'
            rw [hlf] at this
            simpa using this.symm
          rw [List.count_set hlt', hg, hc]
          simp
        · rw [getD_set_ne false (by omega : i ≠ j)]
          exact hge j hj
        · by_cases hei : ed.on = i
          · have hls : i < listed.size := by omega
            rw [hei]; simp [hls]
          · rw [getD_set_ne false (Ne.symm hei)]
            by_cases hji : j = i
            · subst hji
              rw [ho] at hoj; cases hoj
              exact hpre ed he hbb
            · rw [getD_set_ne false (Ne.symm hji)] at hj
              exact hcl j oj hj hoj ed he hbb
        · cases hd : o.dst with
          | none => exact hb k y hk
          | some d =>
            simp only [putS]
            rw [get_cons]
            by_cases h : d = k
            · subst h
              rw [hbase i o d him ho hd] at hk
              cases hk
            · rw [if_neg h]; exact hb k y hk
        · by_cases hji : j = i
          · subst hji
            rw [hx] at hy
            simp only [Option.some.injEq, Prod.mk.injEq] at hy
            rw [hy.1, hy.2]
            simp only [putS]
            rw [get_cons, if_pos rfl]
          · rw [getD_set_ne false (Ne.symm hji)] at hj
            have hold := hs j d y hj hy
            cases hd : o.dst with
            | none => exact hold
            | some d' =>
              simp only [putS]
              rw [get_cons]
              by_cases h : d' = d
              · exfalso
                subst h
                have hjl : j < m := by
                  rw [← hD]
                  rcases Nat.lt_or_ge j D.length with h | h
                  · exact h
                  · rw [List.getElem?_eq_none h] at hy; cases hy
                obtain ⟨x', hx', _⟩ := hstep j ops[j] hjl (by simp [show j < ops.size by omega])
                rw [hx'] at hy
                simp only [Option.some.injEq, Prod.mk.injEq] at hy
                exact hji (hdist j i ops[j] o d' hjl him (by simp [show j < ops.size by omega]) ho hy.1 hd)
              · rw [if_neg h]; exact hold

def dstB (ops : Array Oper) (l dl : Nat) : Bool := match ops.toList[l]? with
  | some o => (match o.dst with
    | some d => Nat.beq d dl
    | none => false)
  | none => false
/-- A drawn region with a tail that runs in its order, but for one move that may come behind the tail's first operation. -/
theorem C_drawV (f m l dl : Nat) {id : Nat} {Q : Exit → St → Prop} {s base : List (Nat × AV)} {c : List Ch} (hb : eraseD (ops.toList.take m) s = some base) (hchk : chkD base 0 [] (ops.toList.take m) = true) (hed : edgesB ops = true)
    (ht : tailV ops f m l = true) (hdl : dstB ops l dl = true) (h : SymD X n ops base c (fun s => SymO X n ops (ops.toList.drop m) s (fun s => Q .normal s) ∧ SymO X n ops (opsAt ops (m :: l :: tailV.rng (m + 1) ops.size)) (lessS dl s) (fun s => Q .normal s)) (ops.toList.take m) []) : SymC X n (.region id ops true) ⟨s, c⟩ Q := by
  intro e a w r
  have hbs : ∀ k y, get base k = some y → get s k = some y := fun k y hk => eraseD_get hb hk
  obtain ⟨D, _, hl, hK, hs⟩ := h.plan
  obtain ⟨c1, c2⟩ := chkD_spec hchk
  have hbel : Below w.heap.size w { w with drawn := w.drawn + 1 } := ⟨rfl, rfl, rfl, Nat.le_refl _, fun _ _ => rfl⟩
  have hm : m < ops.size := by
    unfold tailV at ht
    simp only [Bool.and_eq_true] at ht
    have h1 := ht.1.1.1.1.1
    simp [Nat.blt] at h1; omega
  have htk : ∀ (i : Nat) (o : Oper), i < m → ops[i]? = some o → (ops.toList.take m)[i]? = some o := fun i o him ho => by rw [List.getElem?_take, if_pos him]; simpa using ho
  refine wp_region_any X.wide ?_
  refine any_of_DV (X := X) (n := n) (base := base) (c := c) (D := D) (f := f) (m := m) (l := l) (dl := dl) ht (by simp at hl; omega) (fun i o him ho => ?_) (fun i o ho => ?_) (fun i j o o' d him hjm hi hj => c2 i j o o' d (htk i o him hi) (htk j o' hjm hj)) (fun i o d him ho hd => ((c1 i o (htk i o him ho)).2 d hd).1)
    (fun e a w r => hK.1 e a w _ r fun e' st' _ _ hk hr => ⟨e', st', hr, hk⟩) (fun o ho => ?_) (fun e a w r => hK.2 e a w _ r fun e' st' _ _ hk hr => ⟨e', st', hr, hk⟩) _ _ a _ e base (by simp) (by simp) ((r.below hbel).less hbs (fun h => h)) (fun j hj => ?_) (fun j o hj => ?_) (fun k y hk => hk) (fun i d x hi => ?_)
  · have := hs i o (htk i o him ho)
    simpa using this
  · intro ed he hb'
    have hi : i < ops.toList.length := by
      have := (Array.getElem?_eq_some_iff.1 ho).1
      simpa using this
    have h1 := List.all_eq_true.1 hed i (List.mem_range.2 hi)
    have h2 := List.all_eq_true.1 h1 ed.on (by
      unfold predsB
      rw [show ops.toList[i]? = some o by simpa using ho]
      exact List.mem_map.2 ⟨ed, List.mem_filter.2 ⟨by simpa using he, hb'⟩, rfl⟩)
    simp [Nat.blt] at h2; omega
  · unfold dstB at hdl
    rw [show ops.toList[l]? = some o by simpa using ho] at hdl
    split at hdl
    · rename_i o' ho'
      cases ho'
      split at hdl
      · rename_i d hd; rw [hd, Nat.eq_of_beq_eq_true hdl]
      · cases hdl
    · cases hdl
  · rcases Nat.lt_or_ge j ops.size with h | h
    · simp [h]
    · simp [Nat.not_lt.2 h]
  · rcases Nat.lt_or_ge j ops.size with h | h
    · simp [h] at hj
    · simp [Nat.not_lt.2 h] at hj
  · rcases Nat.lt_or_ge i ops.size with h | h
    · simp [h] at hi
    · simp [Nat.not_lt.2 h] at hi
end
end Go.Sy
