/- The symbolic walk, part 37: maps at known addresses; pointers compared; new memory told at its address; chunks packed. -/
import Derived.Test.YtgmdpfoccnalnaaE5
import Derived.MapKept
import Derived.Laws.CopyRow
import Derived.Test.YtgmdpfoccnalnaaChecked
import Derived.KernelRfl
set_option linter.unusedSimpArgs false
set_option linter.unusedVariables false
namespace Go.Sy
open Go.RowKit Go.MapKept

section
variable {P : Program} {T : Tab} {X : Ctx P T} {n : Nat} {e : Env} {st : St} {a : Act} {w : World} {ops : Array Oper} {K : St → Prop}

/-! ### New memory -/
/-- A block that is laid, told at its address. -/
theorem Rel.allocAbs {s : List (Nat × AV)} {c : List Ch} (r : Rel X n e ⟨s, c⟩ a w) {A : Abs} {o : Obj} (hbs : A.bs = [w.heap.size]) (hok : A.ok e.G (w.alloc o)) : Rel X n e ⟨s, .abs A :: c⟩ a (w.alloc o) := by
  have hb : ∀ b, b < w.heap.size → (w.alloc o).heap[b]? = w.heap[b]? := fun b h => Below.heap_alloc w o b h
  have hsz : (w.alloc o).heap.size = w.heap.size + 1 := Array.size_push o
  have := r.swapAbs (st := ⟨s, c⟩) (As := []) (As' := [A]) (c := c) (G' := e.G) (w' := w.alloc o) (List.Perm.refl _) (IM.le_refl _) ⟨?_, ?_⟩ ⟨fun b o v h => .inl h, fun b x h => .inl h⟩ ⟨?_, ?_, ?_⟩ ?_ ⟨rfl, rfl, rfl⟩ (by omega) (fun k hk _ _ => hb k hk)
  · simpa using this
  · intro b o' v hv
    have h1 := r.im b o' v hv
    simp only [World.cell?] at h1 ⊢
    rw [hb b (r.glt0 _ _ _ hv)]; exact h1
  · exact r.mzKeep (fun b h _ => hb b h)
  · intro B hB; simp only [List.mem_singleton] at hB; subst hB; exact hok
  · simp [blocks, hbs]
  · intro b hbb
    have : b = w.heap.size := by simpa [blocks, hbs] using hbb
    subst this
    exact ⟨by omega, r.free (Nat.le_refl _)⟩
  · intro b hbb
    have : b = w.heap.size := by simpa [blocks, hbs] using hbb
    subst this; exact .inl (Nat.le_refl _)

/-! ### Maps -/
/-- Keys of a type. -/
structure Key (P : Program) (kt : TypeId) (α : Type) where
  kv : α → Value
  d : TypeDesc
  hd : P.underlying kt = some d
  ik : ∀ a, IsKey d (kv a)
  inj : ∀ a b, kv a = kv b → a = b

def intKey {P : Program} {kt : TypeId} (h : P.underlying kt = some (.int .i64)) : Key P kt Int := ⟨fun i => .int .i64 i, _, h, fun _ => rfl, fun a b h => by cases h; rfl⟩
def strKey {P : Program} {kt : TypeId} (h : P.underlying kt = some .string) : Key P kt (List UInt8) := ⟨fun l => S l, _, h, fun _ => trivial, fun a b h => by
  simp only [S, Value.string.injEq, ByteArray.mk.injEq] at h
  exact (List.toArray_inj h)⟩

/-- A map whose block is known (or that is nil). -/
def mapA {α : Type} (kv : α → Value) (mo : Option Nat) (es : List (α × AV)) : Abs where
  bs := mo.toList
  ok := fun G w => match mo with
    | none => es = []
    | some b => ∃ arr cl, w.heap[b]? = some (.map arr cl) ∧ arr.toList.map (·.key) = es.map (fun q => kv q.1) ∧ RepIT G (es.map (·.2)) (arr.toList.map (·.val)) ∧ (arr.toList.map (·.born)).Nodup ∧ ∀ x ∈ arr.toList, x.born < cl
  keep := by
    rintro G H w w' hG hb hok
    cases mo with
    | none => exact hok
    | some b =>
      obtain ⟨arr, cl, h1, h2, h3, h4⟩ := hok
      exact ⟨arr, cl, by rw [hb b (by simp)]; exact h1, h2, RepIT.mono hG _ h3, h4⟩

def lookE {α : Type} [DecidableEq α] (k : α) : List (α × AV) → Option AV
  | [] => none
  | (j, x) :: r => if j = k then some x else lookE k r
def updE {α : Type} [DecidableEq α] (k : α) (x : AV) : List (α × AV) → List (α × AV)
  | [] => [(k, x)]
  | (j, y) :: r => if j = k then (j, x) :: r else (j, y) :: updE k x r

theorem updE_new {α : Type} [DecidableEq α] {k : α} {x : AV} : ∀ {es : List (α × AV)}, lookE k es = none → updE k x es = es ++ [(k, x)]
  | [], _ => rfl
  | (j, y) :: r, h => by
    simp only [lookE] at h
    split at h
    · cases h
    · rename_i hj
      simp only [updE, if_neg hj, updE_new h, List.cons_append]

theorem find_map {α : Type} [DecidableEq α] {kt : TypeId} (K : Key P kt α) (G : IM) (k : α) : ∀ (arr : List MapEntry) (es : List (α × AV)) (i : Nat), arr.map (·.key) = es.map (fun q => K.kv q.1) → RepIT G (es.map (·.2)) (arr.map (·.val)) →
    (Instr.findNow K.d (K.kv k) arr i = some none ∧ lookE k es = none) ∨
    (∃ j e x, Instr.findNow K.d (K.kv k) arr i = some (some (i + j, e.val)) ∧ arr[j]? = some e ∧ e.key = K.kv k ∧ lookE k es = some x ∧ RepI G x e.val ∧
      ∀ y, (updE k y es).map (fun q => K.kv q.1) = es.map (fun q => K.kv q.1) ∧ (updE k y es).map (·.2) = (es.map (·.2)).set j y)
  | [], [], i, _, _ => .inl ⟨rfl, rfl⟩
  | [], _ :: _, i, h, _ => by simp at h
  | _ :: _, [], i, h, _ => by simp at h
  | e :: arr, (j, x) :: es, i, h, hr => by
    simp only [List.map_cons, List.cons.injEq] at h hr
    simp only [RepIT] at hr
    obtain ⟨z, zs, ⟨rfl, rfl⟩, hr1, hr2⟩ := hr
    obtain ⟨b, hb, hiff⟩ := sameNow_of_keys (K.ik k) (h.1 ▸ K.ik j)
    cases b with
    | true =>
      have hkj : K.kv k = e.key := hiff.1 rfl
      have : j = k := K.inj _ _ (by rw [← h.1, hkj])
      subst this
      refine .inr ⟨0, e, x, by simp [Instr.findNow, hb], rfl, hkj.symm, by simp [lookE], hr1, fun y => ?_⟩
      simp [updE]
    | false =>
      have hkj : K.kv k ≠ e.key := fun hh => by have := hiff.2 hh; cases this
      have hne : j ≠ k := fun hh => hkj (by rw [h.1, hh])
      rcases find_map K G k arr es (i + 1) h.2 hr2 with ⟨h1, h2⟩ | ⟨q, e', x', h1, h2, h3, h4, h5, h6⟩
      · exact .inl ⟨by simp [Instr.findNow, hb, h1], by simp [lookE, hne, h2]⟩
      · refine .inr ⟨q + 1, e', x', by simp [Instr.findNow, hb, h1]; omega, by simpa using h2, h3, by simp [lookE, hne, h4], h5, fun y => ?_⟩
        obtain ⟨g1, g2⟩ := h6 y
        simp [updE, hne, g1, g2]

def lookAV (commaOk : Bool) (o : Option AV) (z : AV) : AV := bif commaOk then .tup [o.getD z, B o.isSome] else o.getD z

/-- m[k]. -/
theorem X_look (q : Nat) {α : Type} [DecidableEq α] {kt et mt : TypeId} (K : Key P kt α) {p : Pl} {mo : Option Nat} {es : List (α × AV)} {m x : Operand} {d : Option Nat} {k : α} {zv : Value} {z : AV} {commaOk : Bool} {pi : TypeInfo} {ty : TypeId} {pos : String} {aft : Array Edge} {gd : Option (Nat × Bool)} {j : Nat} {Si : List (Nat × AV)} {c cr : List Ch}
    (hm : P.underlying mt = some (.map kt et)) (hpi : P.info? et = some pi) (hz : pi.zero = some zv) (hzr : ∀ e : Env, Rep e z zv) (hzi : z.imm = true)
    (hg : guardA ops ⟨Si, c⟩ ⟨d, .lookup mt m x commaOk, ty, pos, aft, gd⟩ = some true) (hmo : opd Si m = some (.v (.map mo))) (hx : opd Si x = some (.v (K.kv k))) (hp : nthA q c = some (mapA K.kv mo es, cr)) (hd : dstOK n d = true) :
    StepX X n ops p Si c c j ⟨d, .lookup mt m x commaOk, ty, pos, aft, gd⟩ (lookAV commaOk (lookE k es) z) :=
  StepX.val hg hd (fun e a w S r r' => by
    have h1 := opd_sound r' hmo
    have h2 := opd_sound r' hx
    simp only [Rep] at h1 h2
    obtain ⟨hok, _⟩ := r.heap.nth hp
    have hzero : (zeroValue et).run P w = .ok zv w := by simp [zeroValue, typeInfo, hpi, hz]
    have key : ∃ v, Rep e ((lookE k es).getD z) v ∧ (Instr.lookup mt (.map mo) (K.kv k) commaOk).run P w = .ok (if commaOk then .tuple #[v, .bool (lookE k es).isSome] else v) w := by
      cases mo with
      | none =>
        have hes : es = [] := hok
        subst hes
        have hf : (Instr.findKey kt (K.kv k) []).run P w = .ok none w := run_findKey K.hd rfl
        refine ⟨zv, hzr e, ?_⟩
        simp [Instr.lookup, run_underlying hm, run_checkKey K.hd (K.ik k), hf, hzero, lookE]
      | some b =>
        obtain ⟨arr, cl, g1, g2, g3, g4⟩ := hok
        rcases find_map K e.G k arr.toList es 0 g2 g3 with ⟨f1, f2⟩ | ⟨jj, en, xx, f1, f2, f3, f4, f5, _⟩
        · have hf := run_findKey (w := w) K.hd f1
          refine ⟨zv, by rw [f2]; exact hzr e, ?_⟩
          simp [Instr.lookup, run_underlying hm, MapKept.run_getObj_map g1, run_checkKey K.hd (K.ik k), hf, hzero, f2]
        · have hf := run_findKey (w := w) K.hd f1
          refine ⟨en.val, by rw [f4]; exact RepI.toRep xx f5, ?_⟩
          simp [Instr.lookup, run_underlying hm, MapKept.run_getObj_map g1, run_checkKey K.hd (K.ik k), hf, f4]
    obtain ⟨v, k1, k2⟩ := key
    refine ⟨if commaOk then .tuple #[v, .bool (lookE k es).isSome] else v, w, e, by simp only [execOp, h1, h2, Sem.run_bind, k2, Result.andThen_ok, Sem.run_pure], r, ?_⟩
    cases commaOk with
    | false => simpa [lookAV] using k1
    | true => simp only [lookAV, cond_true, if_true, Rep, RepT]; exact ⟨_, rfl, _, _, rfl, k1, _, _, rfl, rfl, rfl⟩)

theorem map_modify_key {arr : Array MapEntry} {i : Nat} {f : MapEntry → MapEntry} {en : MapEntry} (hi : arr[i]? = some en) (hk : (f en).key = en.key) : (arr.modify i f).toList.map (·.key) = arr.toList.map (·.key) :=
  modify_keys i f (fun e he => by rw [hi] at he; cases he; exact hk)

theorem map_modify_val {arr : Array MapEntry} {i : Nat} {f : MapEntry → MapEntry} {en : MapEntry} (hi : arr[i]? = some en) : (arr.modify i f).toList.map (·.val) = (arr.toList.map (·.val)).set i (f en).val := by
  apply List.ext_getElem?
  intro j
  rw [List.getElem?_set]
  simp only [List.getElem?_map, Array.getElem?_toList, Array.getElem?_modify, List.length_map, Array.length_toList]
  obtain ⟨hlt, rfl⟩ := Array.getElem?_eq_some_iff.1 hi
  by_cases hij : i = j
  · subst hij; simp [hlt]
  · simp [hij]

theorem map_modify_born {arr : Array MapEntry} {i : Nat} {f : MapEntry → MapEntry} (hf : ∀ e, (f e).born = e.born) : (arr.modify i f).toList.map (·.born) = arr.toList.map (·.born) := by
  apply List.ext_getElem?
  intro j
  simp only [List.getElem?_map, Array.getElem?_toList, Array.getElem?_modify]
  by_cases hij : i = j
  · subst hij
    cases arr[i]? with
    | none => simp
    | some e => simp [hf]
  · simp [hij]

theorem repIT_set {G : IM} : ∀ {xs : List AV} {vs : List Value} (j : Nat) {x : AV} {v : Value}, RepIT G xs vs → RepI G x v → RepIT G (xs.set j x) (vs.set j v)
  | [], vs, j, x, v, h, hx => by
    simp only [RepIT] at h; subst h; simp [RepIT]
  | y :: xs, vs, j, x, v, h, hx => by
    simp only [RepIT] at h
    obtain ⟨z, zs, rfl, h1, h2⟩ := h
    cases j with
    | zero => simp only [List.set_cons_zero, RepIT]; exact ⟨v, zs, rfl, hx, h2⟩
    | succ j => simp only [List.set_cons_succ, RepIT]; exact ⟨z, _, rfl, h1, repIT_set j h2 hx⟩

/-- m[k] = x. -/
theorem X_upd (q : Nat) {α : Type} [DecidableEq α] {kt et mt : TypeId} (K : Key P kt α) {p : Pl} {b : Nat} {es : List (α × AV)} {m x y : Operand} {k : α} {av : AV} {ty : TypeId} {pos : String} {aft : Array Edge} {gd : Option (Nat × Bool)} {j : Nat} {Si : List (Nat × AV)} {c cr : List Ch}
    (hm : P.underlying mt = some (.map kt et)) (hsb : ∀ k, Instr.sameBits 10000 (K.kv k) (K.kv k) = true)
    (hg : guardA ops ⟨Si, c⟩ ⟨none, .mapUpdate mt m x y, ty, pos, aft, gd⟩ = some true) (hmo : opd Si m = some (.v (.map (some b)))) (hx : opd Si x = some (.v (K.kv k))) (hy : opd Si y = some av) (himm : av.imm = true) (hp : nthA q c = some (mapA K.kv (some b) es, cr)) :
    StepX X n ops p Si c (.abs (mapA K.kv (some b) (updE k av es)) :: cr) j ⟨none, .mapUpdate mt m x y, ty, pos, aft, gd⟩ .bad :=
  StepX.skip hg rfl (fun e a w S r r' => by
    have h1 := opd_sound r' hmo
    have h2 := opd_sound r' hx
    have h3 := opd_sound r' hy
    simp only [Rep] at h1 h2
    obtain ⟨⟨arr, cl, g1, g2, g3, g4, g5⟩, _⟩ := r.heap.nth hp
    have hlt : b < w.heap.size := (Array.getElem?_eq_some_iff.1 g1).1
    have fin : ∀ (arr' : Array MapEntry) (cl' : Nat), (Instr.mapUpdate mt (.map (some b)) (K.kv k) (a.eval y)).run P w = .ok () { w with heap := w.heap.setIfInBounds b (.map arr' cl') } →
        arr'.toList.map (·.key) = (updE k av es).map (fun q => K.kv q.1) → RepIT e.G ((updE k av es).map (·.2)) (arr'.toList.map (·.val)) → (arr'.toList.map (·.born)).Nodup → (∀ x ∈ arr'.toList, x.born < cl') →
        ∃ w' e', (execOp a.eval ⟨none, .mapUpdate mt m x y, ty, pos, aft, gd⟩).run P w = .ok .skip w' ∧ Rel X n e' ⟨S, .abs (mapA K.kv (some b) (updE k av es)) :: cr⟩ a w' := by
      intro arr' cl' hrun k1 k2 k3 k4
      refine ⟨{ w with heap := w.heap.setIfInBounds b (.map arr' cl') }, e, by simp only [execOp, h1, h2, Sem.run_bind, hrun, Result.andThen_ok, Sem.run_pure], r.absTurn (st := ⟨S, c⟩) hp rfl ⟨arr', cl', by simp [hlt], k1, k2, k3, k4⟩ (fun b' hb' => ?_) ⟨rfl, rfl, rfl⟩ (by simp)⟩
      have hne : b ≠ b' := fun hh => hb' (by subst hh; simp [mapA])
      simp [hne]
    rcases find_map K e.G k arr.toList es 0 g2 g3 with ⟨f1, f2⟩ | ⟨jj, en, xx, f1, f2, f3, f4, f5, f6⟩
    · have hf := run_findKey (w := w) K.hd f1
      refine fin (arr.push ⟨K.kv k, a.eval y, cl⟩) (cl + 1) ?_ ?_ ?_ ?_ ?_
      · simp [Instr.mapUpdate, run_underlying hm, MapKept.run_getObj_map g1, run_checkKey K.hd (K.ik k), hf, MapKept.run_setObj_map _ g1]
      · rw [updE_new f2]; simp [g2]
      · rw [updE_new f2]
        simp only [Array.toList_push, List.map_append, List.map_cons, List.map_nil]
        exact RepIT.app g3 (by simp only [RepIT]; exact ⟨_, [], rfl, Rep.toI av himm h3, rfl⟩)
      · simp only [Array.toList_push, List.map_append, List.map_cons, List.map_nil]
        refine List.nodup_append.2 ⟨g4, by simp, ?_⟩
        intro u hu v hv
        simp only [List.mem_singleton] at hv
        subst hv
        obtain ⟨xx, hxx, rfl⟩ := List.mem_map.1 hu
        exact Nat.ne_of_lt (g5 xx hxx)
      · intro xx hxx
        simp only [Array.toList_push, List.mem_append, List.mem_singleton] at hxx
        rcases hxx with hxx | rfl
        · exact Nat.lt_succ_of_lt (g5 xx hxx)
        · exact Nat.lt_succ_self _
    · rw [Nat.zero_add] at f1
      have hf := run_findKey (w := w) K.hd f1
      have f2' : arr[jj]? = some en := by simpa using f2
      obtain ⟨u1, u2⟩ := f6 av
      refine fin (arr.modify jj fun e => { e with key := K.kv k, val := a.eval y }) cl ?_ ?_ ?_ ?_ ?_
      · have hks : (Instr.keyThatStays (K.kv k) (K.kv k)).run P w = .ok (K.kv k) w := by simp [Instr.keyThatStays, hsb k]
        simp [Instr.mapUpdate, run_underlying hm, MapKept.run_getObj_map g1, run_checkKey K.hd (K.ik k), hf, f2', f3, hks, MapKept.run_setObj_map _ g1]
      · rw [u1, ← g2]; exact map_modify_key f2' f3.symm
      · rw [u2, map_modify_val f2']
        exact repIT_set jj g3 (Rep.toI av himm h3)
      · rw [map_modify_born (f := fun e => { e with key := K.kv k, val := a.eval y }) (fun e => rfl)]; exact g4
      · intro xx hxx
        have : xx.born ∈ (arr.modify jj fun e => { e with key := K.kv k, val := a.eval y }).toList.map (·.born) := List.mem_map.2 ⟨xx, hxx, rfl⟩
        rw [map_modify_born (f := fun e => { e with key := K.kv k, val := a.eval y }) (fun e => rfl)] at this
        obtain ⟨y', hy', e'⟩ := List.mem_map.1 this
        rw [← e']; exact g5 y' hy')

/-- make(map). -/
theorem O_makeMap {α : Type} (kv : α → Value) {mt : TypeId} {dst : Nat} {ty : TypeId} {pos : String} {aft : Array Edge} {rest : List Oper} {s : List (Nat × AV)} {c : List Ch} (hd : Nat.blt dst n = true)
    (k : ∀ b, SymO X n ops rest ⟨(dst, .v (.map (some b))) :: s, .abs (mapA kv (some b) []) :: c⟩ K) : SymO X n ops (⟨some dst, .makeMap mt none, ty, pos, aft, none⟩ :: rest) ⟨s, c⟩ K := by
  intro e a w Q r hq
  unfold wpList
  rw [if_pos (by simp [Region.wanted])]
  refine .inl ?_
  unfold Oper.wp
  have hrun : (execOp a.eval ⟨some dst, .makeMap mt none, ty, pos, aft, none⟩).run P w = .ok (.value (.map (some w.heap.size))) (w.alloc (.map #[] 0)) := rfl
  rw [hrun]
  have r2 := r.allocAbs (A := mapA kv (some w.heap.size) []) (o := .map #[] 0) rfl ⟨#[], 0, (MapKept.heap_alloc w _).1, rfl, by simp [RepIT], by simp, by simp⟩
  exact k w.heap.size _ _ _ Q (r2.put (x := .v (.map (some w.heap.size))) hd (by simp only [Rep])) hq

/-! ### Comparisons -/
def eqB (op : BinOp) (b : Bool) : Bool := match op with | .eql => b | _ => !b
theorem X_eq {p : Pl} {t : TypeId} {x y : Operand} {u v : Value} {b : Bool} {op : BinOp} {d : Option Nat} {uy ty : TypeId} {pos : String} {aft : Array Edge} {gd : Option (Nat × Bool)} {j : Nat} {Si : List (Nat × AV)} {c : List Ch}
    (hop : op = .eql ∨ op = .neq) (hu : ∀ cs, u ≠ .agg cs) (hun : u ≠ .nilIface)
    (hb : ∀ e a w S, Rel X n e ⟨S, c⟩ a w → (Op.equal t u v).run P w = .ok b w)
    (hbin : ∀ w, (binOp op t u v).run P w = ((Op.equal t u v).run P w).andThen fun b w => .ok (.bool (eqB op b)) w)
    (hg : guardA ops ⟨Si, c⟩ ⟨d, .binOp op t x y uy, ty, pos, aft, gd⟩ = some true) (hx : opd Si x = some (.v u)) (hy : opd Si y = some (.v v)) (hd : dstOK n d = true) :
    StepX X n ops p Si c c j ⟨d, .binOp op t x y uy, ty, pos, aft, gd⟩ (B (eqB op b)) :=
  StepX.val hg hd (fun e a w S r r' => by
    have h1 := opd_sound r' hx
    have h2 := opd_sound r' hy
    simp only [Rep] at h1 h2
    have hgd : (eqGuard op t x y u v).run P w = .ok () w := by
      unfold eqGuard
      rcases hop with rfl | rfl
      · cases u <;> cases v <;> first | rfl | (exact absurd rfl (hu _)) | (exact absurd rfl hun)
      · cases u <;> cases v <;> first | rfl | (exact absurd rfl (hu _)) | (exact absurd rfl hun)
    have hbb := hb e a w S r
    refine ⟨.bool (eqB op b), w, e, ?_, r, by simp [Rep]⟩
    simp only [execOp, h1, h2, Sem.run_bind, hgd, Result.andThen_ok, hbin, hbb, Sem.run_pure])

theorem run_equalIn_map {mt kt et : TypeId} (h : P.underlying mt = some (.map kt et)) (mo : Option Nat) (w : World) (d : Nat) : (Op.equalIn (d + 1) mt (.map mo) (.map none)).run P w = .ok mo.isNone w := by
  cases mo <;> simp [Op.equalIn, run_underlying h]
theorem run_equal_map {mt kt et : TypeId} (h : P.underlying mt = some (.map kt et)) (mo : Option Nat) (w : World) : (Op.equal mt (.map mo) (.map none)).run P w = .ok mo.isNone w := run_equalIn_map h mo w 9999
theorem run_equalIn_ptr0 {t el : TypeId} (h : P.underlying t = some (.pointer el)) (po : Option Addr) (w : World) (d : Nat) : (Op.equalIn (d + 1) t (.pointer po) (.pointer none)).run P w = .ok po.isNone w := by
  cases po <;> simp [Op.equalIn, run_underlying h]
theorem run_equal_ptr0 {t el : TypeId} (h : P.underlying t = some (.pointer el)) (po : Option Addr) (w : World) : (Op.equal t (.pointer po) (.pointer none)).run P w = .ok po.isNone w := run_equalIn_ptr0 h po w 9999
theorem run_equalIn_ptrs {t el : TypeId} {pi : TypeInfo} (h : P.underlying t = some (.pointer el)) (hpi : P.info? el = some pi) (hsz : pi.size ≠ 0) {a b : Addr} {c : Bool} (w : World) (hs : (sameAddr a b).run P w = .ok c w) (d : Nat) : (Op.equalIn (d + 1) t (.pointer (some a)) (.pointer (some b))).run P w = .ok c w := by
  simp [Op.equalIn, run_underlying h, sizeOf, typeInfo, hpi, hsz, hs]

theorem binOp_eq_map {t : TypeId} {m : Option Nat} {v : Value} (w : World) : (binOp .eql t (.map m) v).run P w = ((Op.equal t (.map m) v).run P w).andThen fun b w => .ok (.bool (eqB .eql b)) w := by
  simp [binOp, Sem.run_bind, eqB]
theorem binOp_neq_map {t : TypeId} {m : Option Nat} {v : Value} (w : World) : (binOp .neq t (.map m) v).run P w = ((Op.equal t (.map m) v).run P w).andThen fun b w => .ok (.bool (eqB .neq b)) w := by
  simp [binOp, Sem.run_bind, eqB]
theorem binOp_eq_ptr {t : TypeId} {m : Option Addr} {v : Value} (w : World) : (binOp .eql t (.pointer m) v).run P w = ((Op.equal t (.pointer m) v).run P w).andThen fun b w => .ok (.bool (eqB .eql b)) w := by
  simp [binOp, Sem.run_bind, eqB]
theorem binOp_neq_ptr {t : TypeId} {m : Option Addr} {v : Value} (w : World) : (binOp .neq t (.pointer m) v).run P w = ((Op.equal t (.pointer m) v).run P w).andThen fun b w => .ok (.bool (eqB .neq b)) w := by
  simp [binOp, Sem.run_bind, eqB]

/-- Is a map nil? -/
theorem X_mapnil {p : Pl} {t kt et : TypeId} {x : Operand} {mo : Option Nat} {d : Option Nat} {uy ty : TypeId} {pos : String} {aft : Array Edge} {gd : Option (Nat × Bool)} {j : Nat} {Si : List (Nat × AV)} {c : List Ch} (hm : P.underlying t = some (.map kt et))
    (hg : guardA ops ⟨Si, c⟩ ⟨d, .binOp .eql t x (.const (.map none)) uy, ty, pos, aft, gd⟩ = some true) (hx : opd Si x = some (.v (.map mo))) (hd : dstOK n d = true) :
    StepX X n ops p Si c c j ⟨d, .binOp .eql t x (.const (.map none)) uy, ty, pos, aft, gd⟩ (B mo.isNone) :=
  X_eq (op := .eql) (u := .map mo) (v := .map none) (.inl rfl) (by intro cs h; cases h) (by intro h; cases h) (fun e a w S r => run_equal_map hm mo w) (fun w => binOp_eq_map w) hg hx rfl hd
/-- Is a pointer nil? -/
theorem X_ptrnil {p : Pl} {t el : TypeId} {x : Operand} {po : Option Addr} {d : Option Nat} {uy ty : TypeId} {pos : String} {aft : Array Edge} {gd : Option (Nat × Bool)} {j : Nat} {Si : List (Nat × AV)} {c : List Ch} (hm : P.underlying t = some (.pointer el))
    (hg : guardA ops ⟨Si, c⟩ ⟨d, .binOp .eql t x (.const (.pointer none)) uy, ty, pos, aft, gd⟩ = some true) (hx : opd Si x = some (.v (.pointer po))) (hd : dstOK n d = true) :
    StepX X n ops p Si c c j ⟨d, .binOp .eql t x (.const (.pointer none)) uy, ty, pos, aft, gd⟩ (B po.isNone) :=
  X_eq (op := .eql) (u := .pointer po) (v := .pointer none) (.inl rfl) (by intro cs h; cases h) (by intro h; cases h) (fun e a w S r => run_equal_ptr0 hm po w) (fun w => binOp_eq_ptr w) hg hx rfl hd
theorem X_ptrnnil {p : Pl} {t el : TypeId} {x : Operand} {po : Option Addr} {d : Option Nat} {uy ty : TypeId} {pos : String} {aft : Array Edge} {gd : Option (Nat × Bool)} {j : Nat} {Si : List (Nat × AV)} {c : List Ch} (hm : P.underlying t = some (.pointer el))
    (hg : guardA ops ⟨Si, c⟩ ⟨d, .binOp .neq t x (.const (.pointer none)) uy, ty, pos, aft, gd⟩ = some true) (hx : opd Si x = some (.v (.pointer po))) (hd : dstOK n d = true) :
    StepX X n ops p Si c c j ⟨d, .binOp .neq t x (.const (.pointer none)) uy, ty, pos, aft, gd⟩ (B (!po.isNone)) :=
  X_eq (op := .neq) (u := .pointer po) (v := .pointer none) (.inr rfl) (by intro cs h; cases h) (by intro h; cases h) (fun e a w S r => run_equal_ptr0 hm po w) (fun w => binOp_neq_ptr w) hg hx rfl hd

/-- A block of cells that is not frozen. -/
def Plain (A : Abs) (b : Nat) : Prop := ∀ G w, A.ok G w → ∃ cur t, w.heap[b]? = some (.cells cur t (0, 0))
theorem run_sameAddr_cells {w : World} {b o b' o' : Nat} (h : ∃ cur t, w.heap[b]? = some (.cells cur t (0, 0))) (h' : ∃ cur t, w.heap[b']? = some (.cells cur t (0, 0))) :
    (sameAddr ⟨b, o, none⟩ ⟨b', o', none⟩).run P w = .ok (decide (b = b' ∧ o = o')) w := by
  obtain ⟨cur, t, h⟩ := h
  obtain ⟨cur', t', h'⟩ := h'
  have f1 : ∀ off, w.frozen? ⟨b, off, none⟩ = false := fun off => by simp [World.frozen?, h]
  have f2 : ∀ off, w.frozen? ⟨b', off, none⟩ = false := fun off => by simp [World.frozen?, h']
  have s1 : w.shape? b = some (t, cur.size) := by simp [World.shape?, h]
  have s2 : w.shape? b' = some (t', cur'.size) := by simp [World.shape?, h']
  unfold sameAddr
  by_cases hb : b = b'
  · subst hb
    simp only [beq_self_eq_true, if_true]
    by_cases ho : o = o'
    · subst ho; simp
    · have : ((⟨b, o, none⟩ : Addr) == ⟨b, o', none⟩) = false := by simp [ho]
      simp [ho]
  · have : (b == b') = false := by simp [hb]
    have hfr : ∀ ad : Addr, (frozen ad).run P w = .ok (w.frozen? ad) w := fun ad => rfl
    have hsh : ∀ r : Nat, (shape r).run P w = .ok (w.shape? r) w := fun r => rfl
    simp [this, hb, hfr, f1, f2, noView, viewAt, hsh, s1, s2, mayBeOne, stringish]

/-- Are two pointers the same? -/
theorem X_ptreq (q1 q2 : Nat) {p : Pl} {A1 A2 : Abs} {t el : TypeId} {pi : TypeInfo} {x y : Operand} {b o b' o' : Nat} {d : Option Nat} {uy ty : TypeId} {pos : String} {aft : Array Edge} {gd : Option (Nat × Bool)} {j : Nat} {Si : List (Nat × AV)} {c cr1 cr2 : List Ch} (hm : P.underlying t = some (.pointer el))
    (hpi : P.info? el = some pi) (hsz : pi.size ≠ 0) (hp1 : nthA q1 c = some (A1, cr1)) (hp2 : nthA q2 c = some (A2, cr2)) (hb1 : Plain A1 b) (hb2 : Plain A2 b')
    (hg : guardA ops ⟨Si, c⟩ ⟨d, .binOp .eql t x y uy, ty, pos, aft, gd⟩ = some true) (hx : opd Si x = some (PT b o)) (hy : opd Si y = some (PT b' o')) (hd : dstOK n d = true) :
    StepX X n ops p Si c c j ⟨d, .binOp .eql t x y uy, ty, pos, aft, gd⟩ (B (decide (b = b' ∧ o = o'))) :=
  X_eq (op := .eql) (u := .pointer (some ⟨b, o, none⟩)) (v := .pointer (some ⟨b', o', none⟩)) (.inl rfl) (by intro cs h; cases h) (by intro h; cases h) (fun e a w S r => by
    have h1 := hb1 _ _ (r.heap.nth hp1).1
    have h2 := hb2 _ _ (r.heap.nth hp2).1
    exact run_equalIn_ptrs hm hpi hsz w (run_sameAddr_cells (P := P) (o := o) (o' := o') h1 h2) 9999) (fun w => binOp_eq_ptr w) hg hx hy hd

/-! ### Chunks packed -/
theorem Le.absPerm {As As' : List Abs} {s : List (Nat × AV)} {c cr : List Ch} (hp : c.Perm (As.map Ch.abs ++ cr)) (hbs : (blocks As').Perm (blocks As)) (hok : ∀ G w, (∀ A ∈ As, A.ok G w) → ∀ A ∈ As', A.ok G w) : Le X n ⟨s, c⟩ ⟨s, As'.map Ch.abs ++ cr⟩ := fun e a w r => by
  have hh := (r.heap.perm hp).absOK
  refine ⟨e, r.swapAbs (st := ⟨s, c⟩) (As' := As') (G' := e.G) (w' := w) hp (IM.le_refl _) ⟨r.im, r.mz⟩ ⟨fun b o v h => .inl h, fun b x h => .inl h⟩ ⟨hok _ _ hh.1.1, hbs.nodup_iff.2 hh.1.2.1, fun b hb => hh.1.2.2 b (hbs.mem_iff.1 hb)⟩ (fun b hb => .inr (hbs.mem_iff.1 hb)) ⟨rfl, rfl, rfl⟩ (Nat.le_refl _) (fun _ _ _ _ => rfl)⟩

/-- One of those that are packed is taken out. -/
theorem Le.unpack (q : Nat) {L1 L2 : List Abs} {A : Abs} {s : List (Nat × AV)} {c cr : List Ch} (hp : nthA q c = some (packA (L1 ++ A :: L2), cr)) : Le X n ⟨s, c⟩ ⟨s, .abs A :: .abs (packA (L1 ++ L2)) :: cr⟩ := by
  refine Le.absPerm (As := [packA (L1 ++ A :: L2)]) (As' := [A, packA (L1 ++ L2)]) (by simpa using nthA_perm hp) ?_ ?_
  · simp only [blocks, List.flatMap_cons, List.flatMap_nil, List.append_nil, packA, List.flatMap_append]
    rw [← List.append_assoc, ← List.append_assoc]
    exact (List.perm_append_comm).append_right _
  · intro G w h B hB
    have h0 := h _ (by simp : packA (L1 ++ A :: L2) ∈ [packA (L1 ++ A :: L2)])
    simp only [packA] at h0
    simp only [List.mem_cons, List.mem_nil_iff, or_false] at hB
    rcases hB with rfl | rfl
    · exact h0 B (by simp)
    · simp only [packA]
      intro C hC
      exact h0 C (by rcases List.mem_append.1 hC with h | h <;> simp [h])
/-- .. and put back. -/
theorem Le.pack (q q2 : Nat) {L1 L2 : List Abs} {A : Abs} {s : List (Nat × AV)} {c cr : List Ch} (hp : pickA [q, q2] c = some ([A, packA (L1 ++ L2)], cr)) : Le X n ⟨s, c⟩ ⟨s, .abs (packA (L1 ++ A :: L2)) :: cr⟩ := by
  refine Le.absPerm (As := [A, packA (L1 ++ L2)]) (As' := [packA (L1 ++ A :: L2)]) (by simpa using pickA_perm hp) ?_ ?_
  · simp only [blocks, List.flatMap_cons, List.flatMap_nil, List.append_nil, packA, List.flatMap_append]
    rw [← List.append_assoc, ← List.append_assoc]
    exact (List.perm_append_comm).append_right _
  · intro G w h B hB
    have h1 := h A (by simp)
    have h2 := h (packA (L1 ++ L2)) (by simp)
    simp only [packA] at h2
    simp only [List.mem_cons, List.mem_nil_iff, or_false] at hB
    subst hB
    simp only [packA]
    intro C hC
    rcases List.mem_append.1 hC with h | h
    · exact h2 C (by simp [h])
    · rcases List.mem_cons.1 h with rfl | h
      · exact h1
      · exact h2 C (by simp [h])
/-- What memory tells. -/
theorem C_know {Q : Exit → St → Prop} {cd : Code} {s : List (Nat × AV)} {c cr : List Ch} (q : Nat) {A : Abs} (φ : Prop) (hp : nthA q c = some (A, cr)) (hφ : ∀ G w, A.ok G w → A.bs.Nodup → φ) (k : φ → SymC X n cd ⟨s, c⟩ Q) : SymC X n cd ⟨s, c⟩ Q := fun e a w r => by
  obtain ⟨h1, _, h2⟩ := r.heap.nth hp
  exact k (hφ _ _ h1 h2) e a w r
theorem O_know {l : List Oper} {s : List (Nat × AV)} {c cr : List Ch} (q : Nat) {A : Abs} (φ : Prop) (hp : nthA q c = some (A, cr)) (hφ : ∀ G w, A.ok G w → A.bs.Nodup → φ) (k : φ → SymO X n ops l ⟨s, c⟩ K) : SymO X n ops l ⟨s, c⟩ K := fun e a w Q r => by
  obtain ⟨h1, _, h2⟩ := r.heap.nth hp
  exact k (hφ _ _ h1 h2) e a w Q r
end
end Go.Sy

/- The symbolic walk, part 38: slices of known headers cut; elements cleared. -/
set_option linter.unusedSimpArgs false
set_option linter.unusedVariables false
namespace Go.Sy
open Go.RowKit

section
variable {P : Program} {T : Tab} {X : Ctx P T} {n : Nat} {e : Env} {st : St} {a : Act} {w : World} {ops : Array Oper} {K : St → Prop}

/-- A bound of a cut: not told, or a number. -/
def bndA (s : List (Nat × AV)) (o : Option Operand) (d : Int) : Option Int := match o with
  | none => some d
  | some x => match opd s x with
    | some (.v (.int _ i)) => some i
    | _ => none

theorem bndA_sound {s : List (Nat × AV)} {c : List Ch} (r : Rel X n e ⟨s, c⟩ a w) {o : Option Operand} {d i : Int} (h : bndA s o d = some i) : (o.map a.eval = none ∧ i = d) ∨ ∃ k, o.map a.eval = some (.int k i) := by
  cases o with
  | none => simp only [bndA, Option.some.injEq] at h; exact .inl ⟨rfl, h.symm⟩
  | some x =>
    simp only [bndA] at h
    split at h
    · rename_i k i' hx
      simp only [Option.some.injEq] at h
      subst h
      have := opd_sound r hx
      simp only [Rep] at this
      exact .inr ⟨k, by simp [this]⟩
    · cases h

/-- s[i:j] of a slice whose header is known. -/
theorem X_slice {p : Pl} {t el sz0 b0 : Nat} {ag0 : Bool} {z0 : List Value} {ti : TI} {x : Operand} {lo hi : Option Operand} {g o m c : Nat} {i j : Int} {d : Option Nat} {ty : TypeId} {pos : String} {aft : Array Edge} {gd : Option (Nat × Bool)} {q : Nat} {Si : List (Nat × AV)} {cs : List Ch}
    (hTs : T t = some ⟨sz0, b0, ag0, z0, .slice el⟩) (hTe : T el = some ti) (hg : guardA ops ⟨Si, cs⟩ ⟨d, .slice t x lo hi none, ty, pos, aft, gd⟩ = some true) (hx : opd Si x = some (.v (HO g o m c))) (hlo : bndA Si lo 0 = some i) (hhi : bndA Si hi m = some j) (hd : dstOK n d = true)
    (h0 : 0 ≤ i) (hij : i ≤ j) (hj : j ≤ m) (hc : m ≤ c) :
    StepX X n ops p Si cs cs q ⟨d, .slice t x lo hi none, ty, pos, aft, gd⟩ (.v (HO g (if c - i.toNat = 0 then o else o + i.toNat * ti.size) (j.toNat - i.toNat) (c - i.toNat))) :=
  StepX.val hg hd (fun e a w S r r' => by
    have h1 := opd_sound r' hx
    simp only [Rep] at h1
    obtain ⟨dd, e4, _, e5⟩ := (X.ok _ _ hTs).desc
    simp only [TDOK] at e5
    subst e5
    have hb := fun w : World => run_bounds (P := P) (w := w) true m c _ _ i j h0 hij hj hc (bndA_sound r' hlo) (bndA_sound r' hhi)
    refine ⟨HO g (if c - i.toNat = 0 then o else o + i.toNat * ti.size) (j.toNat - i.toNat) (c - i.toNat), w, e, ?_, r, by simp only [Rep]⟩
    simp only [execOp, h1, Instr.sliceAt, Instr.slice, Sem.run_bind, run_underlying e4, Result.andThen_ok]
    simp only [run_underlying e4, Option.map_none, hb, X.ok.size hTe, Sem.run_bind, Result.andThen_ok, Sem.run_pure, HO]
    by_cases hz : c = i.toNat
    · rw [if_pos hz, if_pos (by omega)]
    · rw [if_neg hz, if_neg (by omega), Option.map_some, add_addr])

theorem zeroCells_one (v : Value) (k : Nat) : (Builtin.zeroCells #[v] k).toList = List.replicate k v := by
  apply List.ext_getElem?
  intro i
  by_cases h : i < k
  · simp [Builtin.zeroCells, h, Nat.mod_one]
  · simp [Builtin.zeroCells, h]

/-- clear(s[i:]). -/
theorem X_clear (qp : Nat) {p : Pl} {t el sz0 b0 : Nat} {ag0 : Bool} {z0 : List Value} {by_ : Nat} {ag1 : Bool} {z1 : List Value} {d1 : TD} {x : Operand} {g o o' m c c' i k : Nat} {cells : List AV} {pi : TypeInfo} {zv : Value} {ty : TypeId} {pos : String} {aft : Array Edge} {gd : Option (Nat × Bool)} {q : Nat} {Si : List (Nat × AV)} {cs cr : List Ch}
    (hTs : T t = some ⟨sz0, b0, ag0, z0, .slice el⟩) (hTe : T el = some ⟨1, by_, ag1, z1, d1⟩) (hpi : P.info? el = some pi) (hz : pi.zero = some zv) (hz1 : zv.oneCell' = true) (hg : guardA ops ⟨Si, cs⟩ ⟨none, .call ⟨.builtin .clear, #[x], #[t]⟩, ty, pos, aft, gd⟩ = some true)
    (hx : opd Si x = some (.v (HO g o' k c'))) (hp : nthA qp cs = some (slO (HO g o m c) el 1 cells, cr)) (hik : i + k = m) (ho : k = 0 ∨ o' = o + i) :
    StepX X n ops p Si cs (.abs (slO (HO g o m c) el 1 (cells.take i ++ List.replicate k (.v zv))) :: cr) q ⟨none, .call ⟨.builtin .clear, #[x], #[t]⟩, ty, pos, aft, gd⟩ (.tup []) :=
  StepX.val hg rfl (fun e a w S r r' => by
    have h1 := opd_sound r' hx
    simp only [Rep] at h1
    obtain ⟨dd, e4, _, e5⟩ := (X.ok _ _ hTs).desc
    simp only [TDOK] at e5
    subst e5
    obtain ⟨hok, _⟩ := r.heap.nth hp
    obtain ⟨g1, g2, g3, cur, g5, g6, g7⟩ := slO_ho hok
    rw [Nat.mul_one] at g1 g6 g7
    have hzero : ∀ w : World, (zeroValue el).run P w = .ok zv w := fun w => by simp [zeroValue, typeInfo, hpi, hz]
    have hzc : zv.cells = #[zv] := cells_oneV hz1
    have hop : ∀ w', (Builtin.clear_ #[t] ty #[HO g o' k c']).run P w = .ok (.tuple #[]) w' → (execOp a.eval ⟨none, .call ⟨.builtin .clear, #[x], #[t]⟩, ty, pos, aft, gd⟩).run P w = .ok (.value (.tuple #[])) w' := by
      intro w' hr
      simp only [execOp, resolve, invoke, builtin, Sem.run_bind, Sem.run_pure, Result.andThen_ok, List.map_toArray, List.map_cons, List.map_nil, h1, hr]
    have hcl : (cells.take i).length = i := by rw [List.length_take]; omega
    rcases Nat.eq_zero_or_pos k with hk | hk
    · subst hk
      refine ⟨.tuple #[], w, e, hop w ?_, ?_, by simp [Rep, RepT]⟩
      · simp [Builtin.clear_, run_underlying e4]
      · have hcells : cells.take i ++ List.replicate 0 (.v zv) = cells := by
          rw [List.replicate_zero, List.append_nil, List.take_of_length_le (by omega)]
        rw [hcells]
        exact { r with heap := r.heap.perm (nthA_perm hp) }
    · have ho' : o' = o + i := by omega
      subst ho'
      have hst := run_storeCells_at (P := P) g (o + i) el (List.replicate k zv) 0 cur w g5 (by simp; omega) (fun v hv => by rw [List.eq_of_mem_replicate hv]; exact hz1)
      have hrun : (Builtin.clear_ #[t] ty #[HO g (o + i) k c']).run P w = .ok (.tuple #[]) (w.setRow g (cur.toList.take (o + i + 0) ++ List.replicate k zv ++ cur.toList.drop (o + i + 0 + (List.replicate k zv).length)).toArray) := by
        obtain ⟨k', rfl⟩ : ∃ k', k = k' + 1 := ⟨k - 1, by omega⟩
        simp [Builtin.clear_, run_underlying e4, hzero, hzc, zeroCells_one, hst]
      refine ⟨.tuple #[], _, e, hop _ hrun, r.absTurn (st := ⟨S, cs⟩) hp rfl ?_ ?_ ⟨rfl, rfl, rfl⟩ ?_, by simp [Rep, RepT]⟩
      · refine ⟨m, by rw [List.length_append, hcl, List.length_replicate]; omega, .inr ⟨g, o, c, _, rfl, g2, g3, setRow_heap w g cur _ el _ g5, ?_, ?_⟩⟩
        · simp; omega
        · have h7 := g7
          refine RepIL.mk ?_ (fun jj y hy => ?_)
          · simp; omega
          · have hjm : jj < m := by
              rcases Nat.lt_or_ge jj m with h | h
              · exact h
              · rw [List.getElem?_eq_none (by rw [List.length_append, hcl, List.length_replicate]; omega)] at hy; cases hy
            rw [Nat.mul_one, List.getElem?_take, if_pos hjm, List.getElem?_drop]
            simp only [Nat.add_zero, List.length_replicate]
            by_cases hji : jj < i
            · rw [List.getElem?_append_left (by omega), List.getElem?_take, if_pos hji] at hy
              obtain ⟨z, z1, z2, z3⟩ := g7.get jj y hy
              rw [List.getElem?_take, if_pos hjm, List.getElem?_drop] at z1
              refine ⟨z, ?_, z2, z3⟩
              rw [List.append_assoc, List.getElem?_append_left (by simp; omega), List.getElem?_take, if_pos (by omega)]
              exact z1
            · rw [List.getElem?_append_right (by omega), hcl] at hy
              rw [List.getElem?_replicate] at hy
              split at hy
              · cases hy
                refine ⟨zv, ?_, by simp [RepI], hz1⟩
                rw [List.append_assoc, List.getElem?_append_right (by simp; omega), List.getElem?_append_left (by simp; omega), List.getElem?_replicate]
                rw [if_pos (by simp; omega)]
              · cases hy
      · intro b hb
        have hne : g ≠ b := fun hh => hb (by subst hh; simp [slO, Value.ownBlock])
        exact setRow_other w g b _ (Ne.symm hne)
      · exact setRow_size w g _)
end
end Go.Sy

/- Flows of a ring, in memory. -/
set_option linter.unusedSimpArgs false
set_option linter.unusedVariables false
namespace Go.Ring
open Go.Sy Go.RowKit

structure FS where
  b : Nat
  num : Int
  q : Int
  d : Int
  ha : Option Addr
  hn : Nat
  hc : Nat
  rests : Bool
  an : Bool

abbrev FS.h (f : FS) : Value := .slice f.ha f.hn f.hc
abbrev FS.cells (f : FS) : List AV := [I64 f.num, I64 f.q, I64 f.d, .v f.h, B f.rests, B f.an]

def flowsA (t : TypeId) (fs : List FS) : Abs where
  bs := fs.map (·.b)
  ok := fun G w => ∀ (i : Nat) (f : FS), fs[i]? = some f → ∃ arr : Array Value, w.heap[f.b]? = some (.cells arr t (0, 0)) ∧ RepIL G f.cells arr.toList
  keep := by
    intro G H w w' hG hb h i f hf
    obtain ⟨arr, h1, h2⟩ := h i f hf
    exact ⟨arr, by rw [hb f.b (List.mem_map.2 ⟨f, List.mem_of_getElem? hf, rfl⟩)]; exact h1, RepIL.mono hG _ h2⟩

theorem flowsA_box {t : TypeId} {fs : List FS} {i : Nat} {f : FS} (hi : fs[i]? = some f) {G : IM} {w : World} (h : (flowsA t fs).ok G w) : (boxA f.b t f.cells).ok G w := h i f hi

theorem reads_flows {t : TypeId} {fs : List FS} {i : Nat} {f : FS} (hi : fs[i]? = some f) (o : Nat) : Reads (flowsA t fs) f.b o (f.cells.drop o) :=
  fun G w h => reads_box o G w (flowsA_box hi h)

theorem plain_flows {t : TypeId} {fs : List FS} {i : Nat} {f : FS} (hi : fs[i]? = some f) : Plain (flowsA t fs) f.b := fun G w h => by
  obtain ⟨arr, h1, _⟩ := h i f hi
  exact ⟨arr, t, h1⟩

theorem nodup_get {fs : List FS} (hn : (fs.map (·.b)).Nodup) {i j : Nat} {f g : FS} (hi : fs[i]? = some f) (hj : fs[j]? = some g) (h : f.b = g.b) : i = j := by
  have h1 : (fs.map (·.b))[i]? = some f.b := by simp [hi]
  have h2 : (fs.map (·.b))[j]? = some f.b := by simp [hj, h]
  have hl1 : i < (fs.map (·.b)).length := (List.getElem?_eq_some_iff.1 h1).1
  exact (List.getElem?_inj hl1 hn).1 (by rw [h1, h2])

theorem writes_flows {t : TypeId} {fs : List FS} {i : Nat} {f f' : FS} {o : Nat} {x : AV} (hi : fs[i]? = some f) (hn : (fs.map (·.b)).Nodup) (hb : f'.b = f.b) (ho : o < 6) (hc : f'.cells = f.cells.set o x) : Writes (flowsA t fs) f.b o x (flowsA t (fs.set i f')) := by
  refine ⟨List.mem_map.2 ⟨f, List.mem_of_getElem? hi, rfl⟩, ?_, ?_⟩
  · show (fs.set i f').map (·.b) = fs.map (·.b)
    rw [List.map_set, hb]
    apply List.ext_getElem?
    intro j
    rw [List.getElem?_set]
    split
    · rename_i hij; subst hij
      split
      · simp [hi]
      · rename_i hlt
        have : fs.map (·.b) = fs.map (·.b) := rfl
        rw [List.getElem?_eq_none (by simpa using hlt)]
    · rfl
  · intro G w v hok hx hv
    obtain ⟨w1, w2, w3⟩ := (writes_box (b := f.b) (t := t) (cells := f.cells) (o := o) (x := x) (by simpa using ho)).2.2 G w v (flowsA_box hi hok) hx hv
    refine ⟨w1, w2, fun j g hj => ?_⟩
    rw [List.getElem?_set] at hj
    by_cases hij : i = j
    · subst hij
      rw [if_pos rfl] at hj
      split at hj
      · cases hj; rw [hc, hb]; exact w3
      · cases hj
    · rw [if_neg hij] at hj
      obtain ⟨arr, h1, h2⟩ := hok j g hj
      refine ⟨arr, ?_, h2⟩
      rw [setCell_other (fun he => hij (nodup_get hn hi hj he.symm)), h1]

/-- A flow more. -/
theorem flowsA_snoc {t : TypeId} {fs : List FS} {f : FS} {G : IM} {w : World} (h : (flowsA t fs).ok G w) (hf : (boxA f.b t f.cells).ok G w) : (flowsA t (fs ++ [f])).ok G w := by
  intro i g hi
  rcases Nat.lt_or_ge i fs.length with hl | hl
  · rw [List.getElem?_append_left hl] at hi; exact h i g hi
  · rw [List.getElem?_append_right hl] at hi
    cases hx : i - fs.length with
    | zero => rw [hx] at hi; simp at hi; subst hi; exact hf
    | succ k => rw [hx] at hi; simp at hi
end Go.Ring

/- The table of the types of this seat, as the walk wants it. -/
set_option linter.unusedSimpArgs false
set_option linter.unusedVariables false
namespace Go.Proofs
open Go.Sy
def Try.tabF : Tab := fun t =>
 (bif Nat.blt t 93 then
 (bif Nat.blt t 47 then
  (bif Nat.blt t 22 then
   (bif Nat.blt t 11 then
    (bif Nat.blt t 6 then
     (bif Nat.blt t 3 then
      (bif Nat.blt t 2 then
       (bif Nat.beq t 1 then some ⟨1, 8, false, [.nilFunc], .other⟩ else none)
       else some ⟨1, 8, false, [.int .i64 0], .int .i64⟩)
      else (bif Nat.blt t 4 then
       some ⟨1, 8, false, [.int .i64 0], .int .i64⟩
       else (bif Nat.blt t 5 then
        some ⟨1, 1, false, [.bool false], .bool⟩
        else some ⟨1, 1, false, [.int .u8 0], .int .u8⟩)))
     else (bif Nat.blt t 8 then
      (bif Nat.blt t 7 then
       some ⟨1, 1, false, [.int .u8 0], .int .u8⟩
       else some ⟨4, 24, true, [.int .i64 0, .int .i64 0, .bool false, .int .u8 0], .struct [(0, 1), (1, 1), (2, 1), (3, 1)]⟩)
      else (bif Nat.blt t 9 then
       some ⟨4, 24, true, [.int .i64 0, .int .i64 0, .bool false, .int .u8 0], .struct [(0, 1), (1, 1), (2, 1), (3, 1)]⟩
       else (bif Nat.blt t 10 then
        some ⟨1, 16, false, [.string ⟨#[]⟩], .str⟩
        else some ⟨1, 16, false, [.string ⟨#[]⟩], .str⟩))))
    else (bif Nat.blt t 16 then
     (bif Nat.blt t 13 then
      (bif Nat.blt t 12 then
       some ⟨1, 16, false, [.string ⟨#[]⟩], .str⟩
       else some ⟨1, 8, false, [.int .u64 0], .int .u64⟩)
      else (bif Nat.blt t 14 then
       some ⟨2, 24, true, [.string ⟨#[]⟩, .int .u64 0], .struct [(0, 1), (1, 1)]⟩
       else (bif Nat.blt t 15 then
        some ⟨2, 24, true, [.string ⟨#[]⟩, .int .u64 0], .struct [(0, 1), (1, 1)]⟩
        else some ⟨1, 8, false, [.pointer none], .other⟩)))
     else (bif Nat.blt t 19 then
      (bif Nat.blt t 17 then
       some ⟨1, 8, false, [.pointer none], .other⟩
       else (bif Nat.blt t 18 then
        some ⟨1, 8, false, [.pointer none], .other⟩
        else some ⟨1, 8, true, [.pointer none], .struct [(0, 1)]⟩))
      else (bif Nat.blt t 20 then
       some ⟨1, 8, true, [.pointer none], .struct [(0, 1)]⟩
       else (bif Nat.blt t 21 then
        some ⟨1, 16, false, [.nilIface], .other⟩
        else some ⟨1, 4, false, [.int .i32 0], .int .i32⟩)))))
   else (bif Nat.blt t 33 then
    (bif Nat.blt t 27 then
     (bif Nat.blt t 24 then
      (bif Nat.blt t 23 then
       some ⟨1, 24, false, [.slice none 0 0], .slice 3⟩
       else some ⟨1, 8, false, [.nilFunc], .other⟩)
      else (bif Nat.blt t 25 then
       some ⟨1, 8, false, [.pointer none], .other⟩
       else (bif Nat.blt t 26 then
        some ⟨1, 8, false, [.nilFunc], .other⟩
        else some ⟨1, 8, false, [.int .i64 0], .int .i64⟩)))
     else (bif Nat.blt t 30 then
      (bif Nat.blt t 28 then
       some ⟨1, 8, false, [.nilFunc], .other⟩
       else (bif Nat.blt t 29 then
        some ⟨1, 24, false, [.slice none 0 0], .slice 33⟩
        else some ⟨1, 8, false, [.int .u64 0], .int .u64⟩))
      else (bif Nat.blt t 31 then
       some ⟨1, 8, false, [.nilFunc], .other⟩
       else (bif Nat.blt t 32 then
        some ⟨1, 8, false, [.nilFunc], .other⟩
        else some ⟨4, 32, true, [.int .i64 0, .int .i64 0, .int .i64 0, .int .i64 0], .struct [(0, 1), (1, 1), (2, 1), (3, 1)]⟩))))
    else (bif Nat.blt t 39 then
     (bif Nat.blt t 36 then
      (bif Nat.blt t 35 then
       (bif Nat.beq t 33 then some ⟨4, 32, true, [.int .i64 0, .int .i64 0, .int .i64 0, .int .i64 0], .struct [(0, 1), (1, 1), (2, 1), (3, 1)]⟩ else none)
       else some ⟨1, 8, false, [.nilFunc], .other⟩)
      else (bif Nat.blt t 37 then
       some ⟨1, 8, false, [.nilFunc], .other⟩
       else (bif Nat.blt t 38 then
        some ⟨1, 24, false, [.slice none 0 0], .slice 68⟩
        else some ⟨5, 64, true, [.int .i64 0, .string ⟨#[]⟩, .string ⟨#[]⟩, .string ⟨#[]⟩, .bool false], .struct [(0, 1), (1, 1), (2, 1), (3, 1), (4, 1)]⟩)))
     else (bif Nat.blt t 43 then
      (bif Nat.blt t 40 then
       some ⟨5, 64, true, [.int .i64 0, .string ⟨#[]⟩, .string ⟨#[]⟩, .string ⟨#[]⟩, .bool false], .struct [(0, 1), (1, 1), (2, 1), (3, 1), (4, 1)]⟩
       else (bif Nat.blt t 41 then
        some ⟨1, 8, false, [.nilFunc], .other⟩
        else (bif Nat.beq t 41 then some ⟨1, 8, false, [.pointer none], .other⟩ else none)))
      else (bif Nat.blt t 44 then
       some ⟨1, 8, false, [.nilFunc], .other⟩
       else (bif Nat.blt t 46 then
        (bif Nat.beq t 44 then some ⟨1, 24, false, [.slice none 0 0], .slice 71⟩ else none)
        else some ⟨1, 8, false, [.nilFunc], .other⟩))))))
  else (bif Nat.blt t 69 then
   (bif Nat.blt t 58 then
    (bif Nat.blt t 52 then
     (bif Nat.blt t 49 then
      (bif Nat.blt t 48 then
       some ⟨1, 8, false, [.nilFunc], .other⟩
       else some ⟨1, 8, false, [.nilFunc], .other⟩)
      else (bif Nat.blt t 50 then
       some ⟨1, 8, false, [.nilFunc], .other⟩
       else (bif Nat.blt t 51 then
        some ⟨1, 8, false, [.nilFunc], .other⟩
        else some ⟨1, 8, false, [.nilFunc], .other⟩)))
     else (bif Nat.blt t 55 then
      (bif Nat.blt t 53 then
       some ⟨1, 8, false, [.nilFunc], .other⟩
       else (bif Nat.blt t 54 then
        some ⟨1, 8, false, [.map none], .other⟩
        else some ⟨1, 24, false, [.slice none 0 0], .slice 58⟩))
      else (bif Nat.blt t 56 then
       some ⟨2, 32, true, [.map none, .slice none 0 0], .struct [(0, 1), (1, 1)]⟩
       else (bif Nat.blt t 57 then
        some ⟨2, 32, true, [.map none, .slice none 0 0], .struct [(0, 1), (1, 1)]⟩
        else some ⟨1, 8, false, [.nilFunc], .other⟩))))
    else (bif Nat.blt t 63 then
     (bif Nat.blt t 60 then
      (bif Nat.blt t 59 then
       some ⟨1, 8, false, [.pointer none], .other⟩
       else some ⟨6, 56, true, [.int .i64 0, .int .i64 0, .int .i64 0, .slice none 0 0, .bool false, .bool false], .struct [(0, 1), (1, 1), (2, 1), (3, 1), (4, 1), (5, 1)]⟩)
      else (bif Nat.blt t 61 then
       some ⟨6, 56, true, [.int .i64 0, .int .i64 0, .int .i64 0, .slice none 0 0, .bool false, .bool false], .struct [(0, 1), (1, 1), (2, 1), (3, 1), (4, 1), (5, 1)]⟩
       else (bif Nat.blt t 62 then
        some ⟨1, 8, false, [.nilFunc], .other⟩
        else some ⟨1, 8, false, [.nilFunc], .other⟩)))
     else (bif Nat.blt t 66 then
      (bif Nat.blt t 64 then
       some ⟨1, 8, false, [.nilFunc], .other⟩
       else (bif Nat.blt t 65 then
        some ⟨1, 8, false, [.nilFunc], .other⟩
        else some ⟨1, 24, false, [.slice none 0 0], .slice 73⟩))
      else (bif Nat.blt t 67 then
       some ⟨1, 24, false, [.slice none 0 0], .slice 39⟩
       else (bif Nat.blt t 68 then
        some ⟨5, 80, true, [.int .i64 0, .string ⟨#[]⟩, .slice none 0 0, .slice none 0 0, .int .i64 0], .struct [(0, 1), (1, 1), (2, 1), (3, 1), (4, 1)]⟩
        else some ⟨5, 80, true, [.int .i64 0, .string ⟨#[]⟩, .slice none 0 0, .slice none 0 0, .int .i64 0], .struct [(0, 1), (1, 1), (2, 1), (3, 1), (4, 1)]⟩)))))
   else (bif Nat.blt t 82 then
    (bif Nat.blt t 74 then
     (bif Nat.blt t 71 then
      (bif Nat.blt t 70 then
       some ⟨1, 8, false, [.nilFunc], .other⟩
       else some ⟨3, 48, true, [.int .i64 0, .string ⟨#[]⟩, .slice none 0 0], .struct [(0, 1), (1, 1), (2, 1)]⟩)
      else (bif Nat.blt t 72 then
       some ⟨3, 48, true, [.int .i64 0, .string ⟨#[]⟩, .slice none 0 0], .struct [(0, 1), (1, 1), (2, 1)]⟩
       else (bif Nat.blt t 73 then
        some ⟨5, 72, true, [.int .i64 0, .string ⟨#[]⟩, .int .i64 0, .string ⟨#[]⟩, .slice none 0 0], .struct [(0, 1), (1, 1), (2, 3)]⟩
        else some ⟨5, 72, true, [.int .i64 0, .string ⟨#[]⟩, .int .i64 0, .string ⟨#[]⟩, .slice none 0 0], .struct [(0, 1), (1, 1), (2, 3)]⟩)))
     else (bif Nat.blt t 79 then
      (bif Nat.blt t 75 then
       some ⟨2, 16, true, [.int .i64 0, .int .i64 0], .struct [(0, 1), (1, 1)]⟩
       else (bif Nat.blt t 77 then
        (bif Nat.beq t 75 then some ⟨2, 16, true, [.int .i64 0, .int .i64 0], .struct [(0, 1), (1, 1)]⟩ else none)
        else (bif Nat.beq t 77 then some ⟨1, 8, false, [.nilFunc], .other⟩ else none)))
      else (bif Nat.blt t 80 then
       some ⟨1, 8, false, [.nilFunc], .other⟩
       else (bif Nat.blt t 81 then
        some ⟨1, 8, false, [.nilFunc], .other⟩
        else some ⟨1, 8, false, [.nilFunc], .other⟩))))
    else (bif Nat.blt t 87 then
     (bif Nat.blt t 84 then
      (bif Nat.blt t 83 then
       some ⟨1, 8, false, [.nilFunc], .other⟩
       else some ⟨1, 8, false, [.nilFunc], .other⟩)
      else (bif Nat.blt t 85 then
       some ⟨1, 8, false, [.nilFunc], .other⟩
       else (bif Nat.blt t 86 then
        some ⟨1, 8, false, [.nilFunc], .other⟩
        else some ⟨1, 8, false, [.nilFunc], .other⟩)))
     else (bif Nat.blt t 90 then
      (bif Nat.blt t 88 then
       some ⟨1, 8, false, [.nilFunc], .other⟩
       else (bif Nat.blt t 89 then
        some ⟨1, 8, false, [.nilFunc], .other⟩
        else some ⟨0, 0, true, [], .struct []⟩))
      else (bif Nat.blt t 91 then
       some ⟨0, 0, true, [], .struct []⟩
       else (bif Nat.blt t 92 then
        some ⟨0, 0, true, [], .struct []⟩
        else some ⟨1, 4, false, [.int .u32 0], .int .u32⟩)))))))
 else (bif Nat.blt t 139 then
  (bif Nat.blt t 116 then
   (bif Nat.blt t 104 then
    (bif Nat.blt t 98 then
     (bif Nat.blt t 95 then
      (bif Nat.blt t 94 then
       some ⟨1, 4, true, [.int .u32 0], .struct [(0, 0), (0, 1)]⟩
       else some ⟨1, 4, true, [.int .u32 0], .struct [(0, 0), (0, 1)]⟩)
      else (bif Nat.blt t 96 then
       some ⟨2, 8, true, [.int .i32 0, .int .u32 0], .struct [(0, 1), (1, 1)]⟩
       else (bif Nat.blt t 97 then
        some ⟨2, 8, true, [.int .i32 0, .int .u32 0], .struct [(0, 1), (1, 1)]⟩
        else some ⟨2, 8, true, [.int .i32 0, .int .u32 0], .struct [(0, 0), (0, 2)]⟩)))
     else (bif Nat.blt t 101 then
      (bif Nat.blt t 99 then
       some ⟨2, 8, true, [.int .i32 0, .int .u32 0], .struct [(0, 0), (0, 2)]⟩
       else (bif Nat.blt t 100 then
        some ⟨3, 12, true, [.int .u32 0, .int .i32 0, .int .u32 0], .struct [(0, 0), (0, 1), (1, 2)]⟩
        else some ⟨3, 12, true, [.int .u32 0, .int .i32 0, .int .u32 0], .struct [(0, 0), (0, 1), (1, 2)]⟩))
      else (bif Nat.blt t 102 then
       some ⟨1, 8, false, [.pointer none], .other⟩
       else (bif Nat.blt t 103 then
        some ⟨1, 8, false, [.map none], .other⟩
        else some ⟨6, 56, true, [.slice none 0 0, .int .u32 0, .int .i32 0, .int .u32 0, .pointer none, .map none], .struct [(0, 1), (1, 3), (4, 1), (5, 1)]⟩))))
    else (bif Nat.blt t 110 then
     (bif Nat.blt t 106 then
      (bif Nat.blt t 105 then
       some ⟨6, 56, true, [.slice none 0 0, .int .u32 0, .int .i32 0, .int .u32 0, .pointer none, .map none], .struct [(0, 1), (1, 3), (4, 1), (5, 1)]⟩
       else some ⟨1, 8, false, [.nilFunc], .other⟩)
      else (bif Nat.blt t 108 then
       (bif Nat.beq t 106 then some ⟨1, 8, false, [.nilFunc], .other⟩ else none)
       else (bif Nat.blt t 109 then
        some ⟨1, 8, false, [.nilFunc], .other⟩
        else some ⟨1, 8, false, [.nilFunc], .other⟩)))
     else (bif Nat.blt t 113 then
      (bif Nat.blt t 111 then
       some ⟨1, 8, false, [.nilFunc], .other⟩
       else (bif Nat.blt t 112 then
        some ⟨1, 8, false, [.nilFunc], .other⟩
        else some ⟨1, 8, false, [.nilFunc], .other⟩))
      else (bif Nat.blt t 114 then
       some ⟨1, 8, false, [.pointer none], .other⟩
       else (bif Nat.blt t 115 then
        some ⟨1, 8, false, [.nilFunc], .other⟩
        else some ⟨2, 32, true, [.slice none 0 0, .pointer none], .struct [(0, 1), (1, 1)]⟩)))))
   else (bif Nat.blt t 128 then
    (bif Nat.blt t 121 then
     (bif Nat.blt t 118 then
      (bif Nat.blt t 117 then
       some ⟨2, 32, true, [.slice none 0 0, .pointer none], .struct [(0, 1), (1, 1)]⟩
       else some ⟨1, 8, false, [.nilFunc], .other⟩)
      else (bif Nat.blt t 119 then
       some ⟨1, 24, false, [.slice none 0 0], .slice 4⟩
       else (bif Nat.blt t 120 then
        some ⟨1, 8, false, [.nilFunc], .other⟩
        else some ⟨1, 8, false, [.nilFunc], .other⟩)))
     else (bif Nat.blt t 124 then
      (bif Nat.blt t 122 then
       some ⟨1, 8, false, [.nilFunc], .other⟩
       else (bif Nat.blt t 123 then
        some ⟨1, 8, false, [.nilFunc], .other⟩
        else some ⟨1, 8, false, [.nilFunc], .other⟩))
      else (bif Nat.blt t 125 then
       some ⟨1, 8, false, [.nilFunc], .other⟩
       else (bif Nat.blt t 127 then
        (bif Nat.beq t 125 then some ⟨1, 8, false, [.nilFunc], .other⟩ else none)
        else some ⟨1, 8, false, [.nilFunc], .other⟩))))
    else (bif Nat.blt t 133 then
     (bif Nat.blt t 130 then
      (bif Nat.blt t 129 then
       some ⟨1, 8, false, [.map none], .other⟩
       else some ⟨2, 32, true, [.map none, .slice none 0 0], .struct [(0, 1), (1, 1)]⟩)
      else (bif Nat.blt t 131 then
       some ⟨2, 32, true, [.map none, .slice none 0 0], .struct [(0, 1), (1, 1)]⟩
       else (bif Nat.blt t 132 then
        some ⟨1, 8, false, [.nilFunc], .other⟩
        else some ⟨1, 8, false, [.nilFunc], .other⟩)))
     else (bif Nat.blt t 136 then
      (bif Nat.blt t 134 then
       some ⟨1, 8, false, [.nilFunc], .other⟩
       else (bif Nat.blt t 135 then
        some ⟨1, 8, false, [.pointer none], .other⟩
        else some ⟨1, 8, false, [.map none], .other⟩))
      else (bif Nat.blt t 137 then
       some ⟨2, 16, true, [.map none, .map none], .struct [(0, 1), (1, 1)]⟩
       else (bif Nat.blt t 138 then
        some ⟨2, 16, true, [.map none, .map none], .struct [(0, 1), (1, 1)]⟩
        else some ⟨1, 8, false, [.nilFunc], .other⟩))))))
  else (bif Nat.blt t 161 then
   (bif Nat.blt t 150 then
    (bif Nat.blt t 144 then
     (bif Nat.blt t 141 then
      (bif Nat.blt t 140 then
       some ⟨1, 8, false, [.nilFunc], .other⟩
       else some ⟨1, 8, false, [.nilFunc], .other⟩)
      else (bif Nat.blt t 142 then
       some ⟨1, 8, false, [.nilFunc], .other⟩
       else (bif Nat.blt t 143 then
        some ⟨1, 8, false, [.nilFunc], .other⟩
        else some ⟨1, 8, false, [.pointer none], .other⟩)))
     else (bif Nat.blt t 147 then
      (bif Nat.blt t 145 then
       some ⟨1, 8, false, [.nilFunc], .other⟩
       else (bif Nat.blt t 146 then
        some ⟨1, 8, false, [.nilFunc], .other⟩
        else some ⟨1, 24, false, [.slice none 0 0], .slice 9⟩))
      else (bif Nat.blt t 148 then
       some ⟨1, 8, false, [.nilFunc], .other⟩
       else (bif Nat.blt t 149 then
        some ⟨1, 8, false, [.pointer none], .other⟩
        else some ⟨1, 8, false, [.nilFunc], .other⟩))))
    else (bif Nat.blt t 155 then
     (bif Nat.blt t 152 then
      (bif Nat.blt t 151 then
       some ⟨1, 8, false, [.pointer none], .other⟩
       else some ⟨1, 8, false, [.nilFunc], .other⟩)
      else (bif Nat.blt t 153 then
       some ⟨1, 8, false, [.nilFunc], .other⟩
       else (bif Nat.blt t 154 then
        some ⟨1, 8, false, [.nilFunc], .other⟩
        else some ⟨1, 8, false, [.pointer none], .other⟩)))
     else (bif Nat.blt t 158 then
      (bif Nat.blt t 156 then
       some ⟨1, 8, false, [.nilFunc], .other⟩
       else (bif Nat.blt t 157 then
        some ⟨1, 8, false, [.nilFunc], .other⟩
        else some ⟨1, 8, false, [.int .u64 0], .int .u64⟩))
      else (bif Nat.blt t 159 then
       some ⟨1, 8, false, [.pointer none], .other⟩
       else (bif Nat.blt t 160 then
        some ⟨1, 8, false, [.nilFunc], .other⟩
        else some ⟨1, 8, false, [.pointer none], .other⟩)))))
   else (bif Nat.blt t 172 then
    (bif Nat.blt t 166 then
     (bif Nat.blt t 163 then
      (bif Nat.blt t 162 then
       some ⟨1, 8, false, [.nilFunc], .other⟩
       else some ⟨1, 8, false, [.pointer none], .other⟩)
      else (bif Nat.blt t 164 then
       some ⟨1, 8, false, [.nilFunc], .other⟩
       else (bif Nat.blt t 165 then
        some ⟨1, 8, false, [.nilFunc], .other⟩
        else some ⟨1, 8, false, [.nilFunc], .other⟩)))
     else (bif Nat.blt t 169 then
      (bif Nat.blt t 167 then
       some ⟨1, 8, false, [.nilFunc], .other⟩
       else (bif Nat.blt t 168 then
        some ⟨1, 8, false, [.nilFunc], .other⟩
        else some ⟨1, 8, false, [.nilFunc], .other⟩))
      else (bif Nat.blt t 170 then
       some ⟨4, 40, true, [.pointer none, .pointer none, .pointer none, .string ⟨#[]⟩], .struct [(0, 1), (1, 1), (2, 1), (3, 1)]⟩
       else (bif Nat.blt t 171 then
        some ⟨4, 40, true, [.pointer none, .pointer none, .pointer none, .string ⟨#[]⟩], .struct [(0, 1), (1, 1), (2, 1), (3, 1)]⟩
        else some ⟨0, 0, true, [], .arr 0 16⟩))))
    else (bif Nat.blt t 177 then
     (bif Nat.blt t 174 then
      (bif Nat.blt t 173 then
       some ⟨0, 0, true, [], .struct [(0, 0)]⟩
       else some ⟨0, 0, true, [], .struct [(0, 0)]⟩)
      else (bif Nat.blt t 175 then
       some ⟨1, 8, false, [.nilFunc], .other⟩
       else (bif Nat.blt t 176 then
        some ⟨1, 1, false, [.int .u8 0], .int .u8⟩
        else some ⟨1, 1, false, [.int .u8 0], .int .u8⟩)))
     else (bif Nat.blt t 180 then
      (bif Nat.blt t 178 then
       some ⟨1, 8, false, [.nilFunc], .other⟩
       else (bif Nat.blt t 179 then
        some ⟨1, 8, false, [.pointer none], .other⟩
        else some ⟨1, 4, false, [.int .i32 0], .int .i32⟩))
      else (bif Nat.blt t 181 then
       some ⟨1, 4, false, [.int .i32 0], .int .i32⟩
       else (bif Nat.blt t 182 then
        some ⟨11, 48, true, [.int .u64 0, .int .u64 0, .int .u32 0, .int .u8 0, .int .u8 0, .int .u8 0, .int .u8 0, .nilFunc, .pointer none, .int .i32 0, .int .i32 0], .struct [(0, 1), (1, 1), (2, 1), (3, 1), (4, 1), (5, 1), (6, 1), (7, 1), (8, 1), (9, 1), (10, 1)]⟩
        else some ⟨11, 48, true, [.int .u64 0, .int .u64 0, .int .u32 0, .int .u8 0, .int .u8 0, .int .u8 0, .int .u8 0, .nilFunc, .pointer none, .int .i32 0, .int .i32 0], .struct [(0, 1), (1, 1), (2, 1), (3, 1), (4, 1), (5, 1), (6, 1), (7, 1), (8, 1), (9, 1), (10, 1)]⟩))))))))
def Try.tab : Tab := mkTab 183 Try.tabF
theorem Try.tabOK : TabOK Try.prog Try.tab := Go.Sy.tabOK (by kernel_rfl)

theorem Try.wide_ : Try.prog.follows .mixedOrders = true := by kernel_rfl
end Go.Proofs

/- Contracts of bound: Round, Most. -/
set_option linter.unusedSimpArgs false
set_option linter.unusedVariables false
set_option maxRecDepth 100000
namespace Go.Proofs
open Go.Sy
theorem within_c (n lo hi : Int) : FnP Try.prog 27 [I64 n, I64 lo, I64 hi] (· = I64 (max lo (min n hi))) := by
  refine FnP.intro Try.tabOK Try.wide_ Try.func27 rfl (by decide) rfl (fun X => ?_)
  repeat (first | refine sc rfl ?_ | refine so rfl ?_ | refine sb rfl ?_)
  exact ⟨_, rfl, rfl, rfl⟩

def round (q : Int) : Int := (max 1 (min q 1048576) + 1040) / 16
theorem round_bd (q : Int) : 65 ≤ round q ∧ round q ≤ 65601 := by unfold round; omega

theorem Round_c (q : Int) : FnP Try.prog 23 [I64 q] (· = I64 (round q)) := by
  refine FnP.intro Try.tabOK Try.wide_ Try.func23 rfl (by decide) rfl (fun X => ?_)
  repeat (first | refine sc rfl ?_ | refine so rfl ?_ | refine sb rfl ?_)
  refine O_call (within_c _ _ _) (by rfl) (by rfl) (by rfl) (by rfl) (fun r hr => ?_)
  subst hr
  repeat (first | refine sc rfl ?_ | refine so rfl ?_ | refine sb rfl ?_)
  refine ⟨by decide, ?_⟩
  repeat (first | refine sc rfl ?_ | refine so rfl ?_ | refine sb rfl ?_)
  refine ⟨_, rfl, rfl, ?_⟩
  rw [w64 (x := _ + 1040) (by omega) (by omega), quo64 (by omega) (by omega) (by omega)]
  rfl

def sumR (l : List Int) : Int := l.foldl (fun s x => s + round x) 0
theorem sumR_snoc (l : List Int) (x : Int) : sumR (l ++ [x]) = sumR l + round x := by simp [sumR]
theorem sumR_bd (l : List Int) : 0 ≤ sumR l ∧ sumR l ≤ 65601 * l.length := by
  have : ∀ (l : List Int) (s : Int), s ≤ l.foldl (fun s x => s + round x) s ∧ l.foldl (fun s x => s + round x) s ≤ s + 65601 * l.length := by
    intro l
    induction l with
    | nil => intro s; simp
    | cons x l ih => intro s; have := ih (s + round x); have := round_bd x; simp only [List.foldl_cons, List.length_cons]; omega
  have := this l 0
  unfold sumR; omega
def most (b q : Int) (all : List Int) : Int :=
  ((max 0 (min b 1048576) + max 1 (min q 1048576) - 1) / max 1 (min q 1048576) + 2) * sumR (all.take 8)

theorem Most_c (b q : Int) (l : List Int) : FnP Try.prog 10 [I64 b, I64 q, SL 1 (fun x => [I64 x]) l] (· = I64 (most b q l)) := by
  refine FnP.intro Try.tabOK Try.wide_ Try.func10 rfl (by decide) rfl (fun X => ?_)
  repeat (first | refine sc rfl ?_ | refine so rfl ?_ | refine sb rfl ?_)
  refine O_call (within_c _ _ _) (by rfl) (by rfl) (by rfl) (by rfl) (fun r hr => ?_)
  subst hr
  repeat (first | refine sc rfl ?_ | refine so rfl ?_ | refine sb rfl ?_)
  refine O_call (within_c _ _ _) (by rfl) (by rfl) (by rfl) (by rfl) (fun r hr => ?_)
  subst hr
  repeat (first | refine sc rfl ?_ | refine so rfl ?_ | refine sb rfl ?_)
  refine ⟨by omega, ?_⟩
  repeat (first | refine sc rfl ?_ | refine so rfl ?_ | refine sb rfl ?_)
  have hm : (min (l.length : Int) 8).toNat = (l.take 8).length := by rw [List.length_take]; omega
  refine C_loop (fun k : Nat => ⟨[(0, I64 (max 0 (min b 1048576))), (1, I64 (max 1 (min q 1048576))), (7, I64 (sumR (l.take k))),
    (18, .sl (min (l.length : Int) 8).toNat 1 fun i => [I64 (l.getD i default)]), (19, I64 ((min (l.length : Int) 8).toNat : Int)), (20, I64 k)], []⟩)
    (fun k => k ≤ (l.take 8).length) (fun k => (l.take 8).length - k) 0 (Nat.zero_le _) (Le.sub [] ⟨rfl, rfl, rfl, rfl, rfl, rfl, trivial⟩ rfl) ?_
  intro k hk
  have hl8 : (l.take 8).length ≤ 8 := List.length_take_le _ _
  refine sc rfl ?_
  repeat (first | refine sc rfl ?_ | refine so rfl ?_ | refine sb rfl ?_)
  refine C_if rfl (fun hlt => ?_) (fun hge => ?_)
  · simp only [decide_eq_true_eq] at hlt
    rw [hm] at hlt
    have hk8 : k < l.length := by rw [List.length_take] at hlt; omega
    repeat (first | refine sc rfl ?_ | refine so rfl ?_ | refine sb rfl ?_)
    refine ⟨⟨by omega, by rw [hm]; omega⟩, ?_⟩
    repeat (first | refine sc rfl ?_ | refine so rfl ?_ | refine sb rfl ?_)
    refine O_call (Round_c _) (by rfl) (by rfl) (by rfl) (by rfl) (fun r hr => ?_)
    subst hr
    repeat (first | refine sc rfl ?_ | refine so rfl ?_ | refine sb rfl ?_)
    have hs : sumR (l.take (k + 1)) = sumR (l.take k) + round (l.getD k default) := by
      rw [List.take_succ_eq_append_getElem hk8, sumR_snoc]; simp [List.getElem?_eq_getElem hk8]
    have hb1 := sumR_bd (l.take k)
    have hb2 := round_bd (l.getD k default)
    have hb3 : (l.take k).length ≤ 8 := by rw [List.length_take]; omega
    refine ⟨k + 1, by omega, by omega, ?_⟩
    refine Le.sub [] ⟨rfl, rfl, ?_, rfl, rfl, ?_, trivial⟩ rfl
    · show some (I64 (IntKind.i64.wrap (sumR (l.take k) + round (l.getD k default)))) = _
      rw [w64 (by omega) (by omega), hs]
    · show some (I64 _) = _
      rw [w64 (by omega) (by omega)]; rfl
  · simp only [decide_eq_false_iff_not] at hge
    rw [hm] at hge
    repeat (first | refine sc rfl ?_ | refine so rfl ?_ | refine sb rfl ?_)
    refine ⟨by omega, ?_⟩
    repeat (first | refine sc rfl ?_ | refine so rfl ?_ | refine sb rfl ?_)
    refine ⟨_, rfl, rfl, ?_⟩
    have hk' : k = (l.take 8).length := by omega
    subst hk'
    have ht : l.take (l.take 8).length = l.take 8 := by
      rw [List.length_take]
      rcases Nat.le_total 8 l.length with h | h
      · rw [Nat.min_eq_left h]
      · rw [Nat.min_eq_right h, List.take_length, List.take_of_length_le h]
    rw [ht]
    have hb1 := sumR_bd (l.take 8)
    have h1 : 0 ≤ (max 0 (min b 1048576) + max 1 (min q 1048576) - 1) / max 1 (min q 1048576) := Int.ediv_nonneg (by omega) (by omega)
    have h2 : (max 0 (min b 1048576) + max 1 (min q 1048576) - 1) / max 1 (min q 1048576) ≤ (max 0 (min b 1048576) + max 1 (min q 1048576) - 1) := Int.ediv_le_self _ (by omega)
    have h3 : 0 ≤ ((max 0 (min b 1048576) + max 1 (min q 1048576) - 1) / max 1 (min q 1048576) + 2) * sumR (l.take 8) := Int.mul_nonneg (by omega) (by omega)
    have h4 : ((max 0 (min b 1048576) + max 1 (min q 1048576) - 1) / max 1 (min q 1048576) + 2) * sumR (l.take 8) ≤ 4194304 * 524808 := Int.mul_le_mul (by omega) (by omega) (by omega) (by omega)
    rw [w64 (x := max 0 _ + _) (by omega) (by omega), w64 (x := _ - 1) (by omega) (by omega), quo64 (by omega) (by omega) (by omega), w64 (x := _ + 2) (by omega) (by omega), w64 (by omega) (by omega)]
    rfl

end Go.Proofs

/- Turns by deficit, in plain words: each cost that waits is served within its bound. No program in sight. -/
set_option linter.unusedSimpArgs false
set_option linter.unusedVariables false
namespace Go.Ring

structure Fl where
  q : Int
  d : Int
  cs : List Int
  an : Bool

abbrev FM := Nat → Fl
def upd {α : Type} (f : Nat → α) (i : Nat) (x : α) : Nat → α := fun j => if j = i then x else f j
@[simp] theorem upd_same {α : Type} (f : Nat → α) (i : Nat) (x : α) : upd f i x i = x := by simp [upd]
theorem upd_ne {α : Type} (f : Nat → α) {i j : Nat} (x : α) (h : j ≠ i) : upd f i x j = f j := by simp [upd, h]

/-- What a flow may spend in the go that it has, or has next. -/
def cr (x : Fl) : Int := if x.an then x.d + x.q else x.d
def tn (x : Fl) : Int := cr x / 16

def ahead (fl : FM) : List Nat → Nat → Int
  | [], _ => 0
  | g :: gs, f => tn (fl g) + if g = f then 0 else ahead fl gs f

def vis (x : Fl) (b : Int) : Int := max 0 ((b - cr x + x.q - 1) / x.q)
def phi (fl : FM) (row : List Nat) (R : Int) (f : Nat) (b : Int) : Int := ahead fl row f + R * vis (fl f) b

def rnd (x : Fl) : Int := (x.q + 1040) / 16
def isum (l : List Int) : Int := l.foldr (· + ·) 0
@[simp] theorem isum_nil : isum [] = 0 := rfl
@[simp] theorem isum_cons (a : Int) (l : List Int) : isum (a :: l) = a + isum l := rfl
@[simp] theorem isum_append (l m : List Int) : isum (l ++ m) = isum l + isum m := by
  induction l with
  | nil => simp
  | cons a l ih => simp only [List.cons_append, isum_cons, ih]; omega
theorem isum_perm {l m : List Int} (h : l.Perm m) : isum l = isum m := by
  induction h with
  | nil => rfl
  | cons x _ ih => simp [ih]
  | swap x y l => simp only [isum_cons]; omega
  | trans _ _ a b => rw [a, b]
theorem isum_nonneg {l : List Int} (h : ∀ x ∈ l, 0 ≤ x) : 0 ≤ isum l := by
  induction l with
  | nil => simp
  | cons a l ih =>
    have := h a (by simp); have := ih (fun x hx => h x (by simp [hx]))
    simp only [isum_cons]; omega
theorem isum_sub (g : Nat → Int) : ∀ (row L : List Nat), row.Nodup → (∀ x ∈ row, x ∈ L) → (∀ x ∈ L, 0 ≤ g x) → isum (row.map g) ≤ isum (L.map g)
  | [], L, _, _, hg => by
    simp only [List.map_nil, isum_nil]
    exact isum_nonneg (fun x hx => by obtain ⟨y, hy, rfl⟩ := List.mem_map.1 hx; exact hg y hy)
  | a :: row, L, hn, hs, hg => by
    have ha := hs a (by simp)
    have hp := List.perm_cons_erase ha
    have h1 := isum_sub g row (L.erase a) (List.nodup_cons.1 hn).2 (fun x hx => (List.mem_erase_of_ne (fun e => (List.nodup_cons.1 hn).1 (by rw [← e]; exact hx))).2 (hs x (by simp [hx]))) (fun x hx => hg x (List.mem_of_mem_erase hx))
    have h2 := isum_perm (hp.map g)
    simp only [List.map_cons, isum_cons] at h2 ⊢
    omega

def RR (fl : FM) (m : Nat) : Int := isum ((List.range m).map fun i => rnd (fl i))

structure Inv (fl : FM) (row : List Nat) (m : Nat) : Prop where
  q : ∀ i, i < m → 1040 ≤ (fl i).q ∧ (fl i).q ≤ 3000
  nd : row.Nodup
  mem : ∀ i, i ∈ row ↔ i < m ∧ (fl i).cs ≠ []
  cost : ∀ i, i < m → ∀ c ∈ (fl i).cs, 16 ≤ c ∧ c ≤ 1040
  d0 : ∀ i, i ∈ row → 0 ≤ (fl i).d ∧ (fl i).d ≤ (fl i).q + 1039 ∧ ((fl i).an = true → (fl i).d ≤ 1039)
  tl : ∀ i, i ∈ row.tail → (fl i).an = true

theorem Inv.lt {fl : FM} {row : List Nat} {m : Nat} (h : Inv fl row m) {i : Nat} (hi : i ∈ row) : i < m := ((h.mem i).1 hi).1

theorem Inv.cr0 {fl : FM} {row : List Nat} {m : Nat} (h : Inv fl row m) {i : Nat} (hi : i ∈ row) : 0 ≤ cr (fl i) ∧ cr (fl i) ≤ (fl i).q + 1039 := by
  have h1 := h.d0 i hi
  have h2 := h.q i (h.lt hi)
  unfold cr
  split
  · rename_i ha; have := h1.2.2 ha; omega
  · omega

theorem Inv.tn0 {fl : FM} {row : List Nat} {m : Nat} (h : Inv fl row m) {i : Nat} (hi : i ∈ row) : 0 ≤ tn (fl i) ∧ tn (fl i) ≤ rnd (fl i) := by
  have h1 := h.cr0 hi
  unfold tn rnd
  omega

theorem ahead_nonneg {fl : FM} : ∀ {row : List Nat} (f : Nat), (∀ i ∈ row, 0 ≤ tn (fl i)) → 0 ≤ ahead fl row f
  | [], f, _ => by simp [ahead]
  | g :: gs, f, h => by
    have h1 := h g (by simp)
    have h2 := ahead_nonneg (row := gs) f (fun i hi => h i (by simp [hi]))
    unfold ahead; split <;> omega

theorem ahead_le {fl : FM} : ∀ {row : List Nat} (f : Nat), (∀ i ∈ row, 0 ≤ tn (fl i)) → ahead fl row f ≤ isum (row.map fun i => tn (fl i))
  | [], f, _ => by simp [ahead]
  | g :: gs, f, h => by
    have h1 := h g (by simp)
    have h2 := ahead_le (row := gs) f (fun i hi => h i (by simp [hi]))
    have h3 : 0 ≤ isum (gs.map fun i => tn (fl i)) := isum_nonneg (fun x hx => by obtain ⟨y, hy, rfl⟩ := List.mem_map.1 hx; exact h y (by simp [hy]))
    simp only [List.map_cons, isum_cons]
    unfold ahead; split <;> omega

theorem ahead_congr {fl fl' : FM} : ∀ {row : List Nat} (f : Nat), (∀ i ∈ row, tn (fl' i) = tn (fl i)) → ahead fl' row f = ahead fl row f
  | [], f, _ => rfl
  | g :: gs, f, h => by
    unfold ahead
    rw [h g (by simp), ahead_congr (row := gs) f (fun i hi => h i (by simp [hi]))]

theorem ahead_app {fl : FM} : ∀ {row : List Nat} {f : Nat} (r2 : List Nat), f ∈ row → ahead fl (row ++ r2) f = ahead fl row f
  | [], f, r2, h => by cases h
  | g :: gs, f, r2, h => by
    simp only [List.cons_append, ahead]
    split
    · rfl
    · rename_i hne
      rw [ahead_app r2 ((List.mem_cons.1 h).resolve_left (fun e => hne e.symm))]

theorem ahead_app_not {fl : FM} : ∀ {row : List Nat} {f : Nat} (r2 : List Nat), f ∉ row → ahead fl (row ++ r2) f = isum (row.map fun i => tn (fl i)) + ahead fl r2 f
  | [], f, r2, h => by simp
  | g :: gs, f, r2, h => by
    have h1 : g ≠ f := fun e => h (by simp [e])
    simp only [List.cons_append, ahead, if_neg h1, List.map_cons, isum_cons]
    rw [ahead_app_not r2 (fun hx => h (by simp [hx]))]
    omega

theorem Inv.sum_le {fl : FM} {row : List Nat} {m : Nat} (h : Inv fl row m) : isum (row.map fun i => tn (fl i)) ≤ RR fl m := by
  have h1 : isum (row.map fun i => tn (fl i)) ≤ isum (row.map fun i => rnd (fl i)) := by
    have : ∀ l : List Nat, (∀ i ∈ l, tn (fl i) ≤ rnd (fl i)) → isum (l.map fun i => tn (fl i)) ≤ isum (l.map fun i => rnd (fl i)) := by
      intro l
      induction l with
      | nil => intro _; simp
      | cons a l ih =>
        intro hl
        have := hl a (by simp); have := ih (fun i hi => hl i (by simp [hi]))
        simp only [List.map_cons, isum_cons]; omega
    exact this row (fun i hi => (h.tn0 hi).2)
  have h2 : isum (row.map fun i => rnd (fl i)) ≤ RR fl m := isum_sub (fun i => rnd (fl i)) row (List.range m) h.nd (fun x hx => List.mem_range.2 (h.lt hx)) (fun x hx => by
    have := h.q x (List.mem_range.1 hx); unfold rnd; omega)
  omega

theorem RR_nonneg {fl : FM} {m : Nat} (h : ∀ i, i < m → 1040 ≤ (fl i).q) : 0 ≤ RR fl m :=
  isum_nonneg (fun x hx => by
    obtain ⟨y, hy, rfl⟩ := List.mem_map.1 hx
    have := h y (List.mem_range.1 hy)
    unfold rnd; omega)

theorem RR_congr {fl fl' : FM} {m : Nat} (h : ∀ i, i < m → (fl' i).q = (fl i).q) : RR fl' m = RR fl m := by
  unfold RR
  congr 1
  refine List.map_congr_left (fun i hi => ?_)
  unfold rnd
  rw [h i (List.mem_range.1 hi)]

/-! ### A go that ends: the first flow goes behind all others. -/
def rotF (fl : FM) (f : Nat) : FM := upd fl f { fl f with an := true }

theorem rot_inv {fl : FM} {f c : Nat} {gs : List Nat} {m : Nat} {c0 : Int} {cs : List Int} (h : Inv fl (f :: gs) m) (hc : (fl f).cs = c0 :: cs) (ha : (fl f).an = false) (hd : (fl f).d < c0) : Inv (rotF fl f) (gs ++ [f]) m := by
  have hf : f < m := h.lt (by simp)
  have hc0 := h.cost f hf c0 (by rw [hc]; simp)
  have hdf := h.d0 f (by simp)
  have hcs : ∀ i, ((rotF fl f) i).cs = (fl i).cs := fun i => by unfold rotF upd; split <;> first | rfl | (subst_vars; rfl)
  have hq : ∀ i, ((rotF fl f) i).q = (fl i).q := fun i => by unfold rotF upd; split <;> first | rfl | (subst_vars; rfl)
  have hdd : ∀ i, ((rotF fl f) i).d = (fl i).d := fun i => by unfold rotF upd; split <;> first | rfl | (subst_vars; rfl)
  have hn := List.nodup_cons.1 h.nd
  refine ⟨fun i hi => by rw [hq]; exact h.q i hi, ?_, fun i => ?_, fun i hi c hc => ?_, fun i hi => ?_, fun i hi => ?_⟩
  · refine List.nodup_append.2 ⟨hn.2, by simp, ?_⟩
    intro a hag b hb
    simp at hb; subst hb
    intro e; subst e; exact hn.1 hag
  · rw [hcs, ← h.mem i]; simp [or_comm]
  · rw [hcs] at hc; exact h.cost i hi c hc
  · have hi' : i ∈ f :: gs := by simpa [or_comm] using hi
    rw [hdd, hq]
    have h1 := h.d0 i hi'
    refine ⟨h1.1, h1.2.1, fun han => ?_⟩
    by_cases e : i = f
    · subst e; omega
    · exact h1.2.2 (h.tl i (by simpa [e] using hi'))
  · have hi' : i ∈ gs ++ [f] := List.mem_of_mem_tail hi
    by_cases e : i = f
    · subst e; simp [rotF]
    · unfold rotF; rw [upd_ne _ _ e]
      exact h.tl i (by simpa [e] using hi')

theorem vis_rot {x : Fl} {b : Int} (hq : 1040 ≤ x.q) (ha : x.an = false) (hb : x.d < b) : vis { x with an := true } b = vis x b - 1 := by
  unfold vis cr
  simp only [ha, if_true]
  have h1 : (b - (x.d + x.q) + x.q - 1) / x.q = (b - x.d + x.q - 1) / x.q - 1 := by
    rw [show b - (x.d + x.q) + x.q - 1 = (b - x.d + x.q - 1) + (-1) * x.q by omega, Int.add_mul_ediv_right _ _ (by omega)]; omega
  have h2 : 1 ≤ (b - x.d + x.q - 1) / x.q := by
    rw [show b - x.d + x.q - 1 = (b - x.d - 1) + 1 * x.q by omega, Int.add_mul_ediv_right _ _ (by omega)]
    have := Int.ediv_nonneg (a := b - x.d - 1) (b := x.q) (by omega) (by omega)
    omega
  simp only [Bool.false_eq_true, if_false]
  rw [h1]
  omega

theorem rot_phi {fl : FM} {f : Nat} {gs : List Nat} {m : Nat} {c0 : Int} {cs : List Int} (h : Inv fl (f :: gs) m) (hc : (fl f).cs = c0 :: cs) (ha : (fl f).an = false) (hd : (fl f).d < c0)
    {g : Nat} {b : Int} (hg : g ∈ f :: gs) (hb : g = f → c0 ≤ b) : phi (rotF fl f) (gs ++ [f]) (RR fl m) g b ≤ phi fl (f :: gs) (RR fl m) g b := by
  have hn := List.nodup_cons.1 h.nd
  have hi := rot_inv (c := 0) h hc ha hd
  have hR : RR (rotF fl f) m = RR fl m := RR_congr (fun i _ => by unfold rotF upd; split <;> first | rfl | (subst_vars; rfl))
  have hR0 := RR_nonneg (fl := fl) (m := m) (fun i hi => (h.q i hi).1)
  unfold phi
  by_cases e : g = f
  · subst e
    have h1 : vis (rotF fl g g) b = vis (fl g) b - 1 := by
      unfold rotF; rw [upd_same]
      have := hb rfl
      exact vis_rot (h.q g (h.lt (by simp))).1 ha (by omega)
    rw [h1]
    have h2 : ahead (rotF fl g) (gs ++ [g]) g ≤ RR fl m := by
      rw [← hR]
      exact Int.le_trans (ahead_le g (fun i hh => (hi.tn0 hh).1)) hi.sum_le
    have h3 : 0 ≤ ahead fl (g :: gs) g := ahead_nonneg g (fun i hh => (h.tn0 hh).1)
    rw [Int.mul_sub, Int.mul_one]
    omega
  · have hg' : g ∈ gs := (List.mem_cons.1 hg).resolve_left e
    have h1 : rotF fl f g = fl g := upd_ne _ _ e
    rw [h1, ahead_app [f] hg']
    have h2 : ahead (rotF fl f) gs g = ahead fl gs g := ahead_congr g (fun i hh => by
      unfold rotF; rw [upd_ne]; intro e2; subst e2; exact hn.1 hh)
    rw [h2]
    have h3 := (h.tn0 (i := f) (by simp)).1
    simp only [ahead, if_neg (Ne.symm e)]
    omega

/-! ### A turn: the first flow's first cost is served. -/
def srvX (x : Fl) (c0 : Int) (cs : List Int) : Fl := { x with an := false, cs := cs, d := if cs.isEmpty then 0 else cr x - c0 }
def srvF (fl : FM) (f : Nat) (c0 : Int) (cs : List Int) : FM := upd fl f (srvX (fl f) c0 cs)
def srvR (f : Nat) (gs : List Nat) (cs : List Int) : List Nat := if cs.isEmpty then gs else f :: gs

theorem srv_inv {fl : FM} {f : Nat} {gs : List Nat} {m : Nat} {c0 : Int} {cs : List Int} (h : Inv fl (f :: gs) m) (hc : (fl f).cs = c0 :: cs) (hd : c0 ≤ cr (fl f)) : Inv (srvF fl f c0 cs) (srvR f gs cs) m := by
  have hf : f < m := h.lt (by simp)
  have hc0 := h.cost f hf c0 (by rw [hc]; simp)
  have hcr := h.cr0 (i := f) (by simp)
  have hn := List.nodup_cons.1 h.nd
  have hq : ∀ i, ((srvF fl f c0 cs) i).q = (fl i).q := fun i => by unfold srvF upd srvX; split <;> first | rfl | (subst_vars; rfl)
  have hne : ∀ i, i ≠ f → srvF fl f c0 cs i = fl i := fun i hi => upd_ne _ _ hi
  have hsub : ∀ i, i ∈ srvR f gs cs → i ∈ f :: gs := fun i hi => by unfold srvR at hi; split at hi <;> simp_all
  refine ⟨fun i hi => by rw [hq]; exact h.q i hi, ?_, fun i => ?_, fun i hi c hcc => ?_, fun i hi => ?_, fun i hi => ?_⟩
  · unfold srvR; split
    · exact hn.2
    · exact h.nd
  · by_cases e : i = f
    · subst e
      simp only [srvF, upd_same, srvX, srvR]
      cases cs with
      | nil => simp [hn.1]
      | cons a l => simp [hf]
    · rw [hne i e, ← h.mem i]
      unfold srvR; split <;> simp [e]
  · by_cases e : i = f
    · subst e
      simp only [srvF, upd_same, srvX] at hcc
      exact h.cost i hi c (by rw [hc]; simp [hcc])
    · rw [hne i e] at hcc; exact h.cost i hi c hcc
  · by_cases e : i = f
    · subst e
      simp only [srvF, upd_same, srvX]
      split
      · have := h.q i hf; refine ⟨by omega, by omega, fun hh => by cases hh⟩
      · refine ⟨by omega, by omega, fun hh => by cases hh⟩
    · rw [hne i e]; exact h.d0 i (hsub i hi)
  · have hig : i ∈ gs := by
      unfold srvR at hi; split at hi
      · exact List.mem_of_mem_tail hi
      · simpa using hi
    rw [hne i (fun e => hn.1 (e ▸ hig))]
    exact h.tl i (by simpa using hig)

theorem srv_phi {fl : FM} {f : Nat} {gs : List Nat} {m : Nat} {c0 : Int} {cs : List Int} (h : Inv fl (f :: gs) m) (hc : (fl f).cs = c0 :: cs) (hd : c0 ≤ cr (fl f))
    {g : Nat} {b : Int} (hg : g ∈ srvR f gs cs) : phi (srvF fl f c0 cs) (srvR f gs cs) (RR fl m) g (if g = f then b - c0 else b) + 1 ≤ phi fl (f :: gs) (RR fl m) g b := by
  have hf : f < m := h.lt (by simp)
  have hc0 := h.cost f hf c0 (by rw [hc]; simp)
  have hn := List.nodup_cons.1 h.nd
  have ht : tn (fl f) ≥ 1 := by unfold tn; omega
  by_cases e : g = f
  · subst e
    have hcs : cs.isEmpty = false := by
      cases hx : cs.isEmpty with
      | false => rfl
      | true => unfold srvR at hg; rw [if_pos hx] at hg; exact absurd hg hn.1
    rw [if_pos rfl]
    unfold phi srvR
    simp only [hcs, Bool.false_eq_true, if_false, ahead, if_true]
    have e1 : cr (srvF fl g c0 cs g) = cr (fl g) - c0 := by
      simp only [srvF, upd_same, srvX, cr, hcs, Bool.false_eq_true, if_false]
    have e2 : vis (srvF fl g c0 cs g) (b - c0) = vis (fl g) b := by
      unfold vis
      rw [e1, show (srvF fl g c0 cs g).q = (fl g).q by simp [srvF, srvX]]
      congr 2; omega
    rw [e2]
    have e3 : tn (srvF fl g c0 cs g) + 1 ≤ tn (fl g) := by
      unfold tn; rw [e1]; omega
    omega
  · rw [if_neg e]
    unfold phi
    have hgs : g ∈ gs := by
      unfold srvR at hg; split at hg
      · exact hg
      · exact (List.mem_cons.1 hg).resolve_left e
    have e1 : srvF fl f c0 cs g = fl g := upd_ne _ _ e
    rw [e1]
    have e2 : ahead (srvF fl f c0 cs) gs g = ahead fl gs g := ahead_congr g (fun i hi => by
      unfold srvF; rw [upd_ne]; intro e2; subst e2; exact hn.1 hi)
    have e3 : ahead (srvF fl f c0 cs) (srvR f gs cs) g + 1 ≤ ahead fl (f :: gs) g := by
      unfold srvR
      split
      · rw [e2]; simp only [ahead, if_neg (Ne.symm e)]; omega
      · rename_i hcs
        simp only [ahead, if_neg (Ne.symm e)]
        have e1 : cr (srvF fl f c0 cs f) = cr (fl f) - c0 := by
          simp only [srvF, upd_same, srvX, cr]
          simp [hcs]
        have e4 : tn (srvF fl f c0 cs f) + 1 ≤ tn (fl f) := by
          unfold tn; rw [e1]; omega
        rw [e2]; omega
    omega

theorem phi_pos {fl : FM} {f : Nat} {gs : List Nat} {m : Nat} {c0 : Int} {cs : List Int} (h : Inv fl (f :: gs) m) (hc : (fl f).cs = c0 :: cs) (hd : c0 ≤ cr (fl f)) (g : Nat) (b : Int) : 1 ≤ phi fl (f :: gs) (RR fl m) g b := by
  have hf : f < m := h.lt (by simp)
  have hc0 := h.cost f hf c0 (by rw [hc]; simp)
  have ht : tn (fl f) ≥ 1 := by unfold tn; omega
  have h1 : 0 ≤ RR fl m * vis (fl g) b := Int.mul_nonneg (RR_nonneg (fun i hi => (h.q i hi).1)) (by unfold vis; omega)
  have h2 : 0 ≤ ahead fl gs g := ahead_nonneg g (fun i hh => (h.tn0 (by simp [hh])).1)
  unfold phi ahead
  split <;> omega

/-! ### A cost comes. -/
def joinX (x : Fl) (c : Int) : Fl := if x.cs.isEmpty then { x with cs := [c], d := 0, an := true } else { x with cs := x.cs ++ [c] }
def pushF (fl : FM) (f : Nat) (c : Int) : FM := upd fl f (joinX (fl f) c)
def pushR (fl : FM) (row : List Nat) (f : Nat) : List Nat := if (fl f).cs.isEmpty then row ++ [f] else row

theorem joinX_cs (x : Fl) (c : Int) : (joinX x c).cs = x.cs ++ [c] := by
  unfold joinX; split
  · rename_i h; rw [List.isEmpty_iff.1 h]; rfl
  · rfl
theorem joinX_q (x : Fl) (c : Int) : (joinX x c).q = x.q := by unfold joinX; split <;> rfl

theorem push_inv {fl : FM} {row : List Nat} {m f : Nat} {c : Int} (h : Inv fl row m) (hf : f < m) (hc : 16 ≤ c ∧ c ≤ 1040) : Inv (pushF fl f c) (pushR fl row f) m := by
  have hq : ∀ i, ((pushF fl f c) i).q = (fl i).q := fun i => by unfold pushF upd; split <;> first | rfl | (subst_vars; exact joinX_q _ _)
  have hne : ∀ i, i ≠ f → pushF fl f c i = fl i := fun i hi => upd_ne _ _ hi
  have hmem := h.mem f
  refine ⟨fun i hi => by rw [hq]; exact h.q i hi, ?_, fun i => ?_, fun i hi c' hcc => ?_, fun i hi => ?_, fun i hi => ?_⟩
  · unfold pushR; split
    · rename_i he
      refine List.nodup_append.2 ⟨h.nd, by simp, fun a ha b hb => ?_⟩
      simp at hb; subst hb
      intro e; subst e
      exact (hmem.1 ha).2 (List.isEmpty_iff.1 he)
    · exact h.nd
  · by_cases e : i = f
    · subst e
      simp only [pushF, upd_same, joinX_cs, pushR]
      split
      · simp [hf]
      · rename_i he; rw [hmem]; simp [hf]; intro e; rw [e] at he; simp at he
    · rw [hne i e, ← h.mem i]; unfold pushR; split <;> simp [e]
  · by_cases e : i = f
    · subst e
      simp only [pushF, upd_same, joinX_cs, List.mem_append, List.mem_singleton] at hcc
      rcases hcc with hcc | rfl
      · exact h.cost i hi c' hcc
      · exact hc
    · rw [hne i e] at hcc; exact h.cost i hi c' hcc
  · by_cases e : i = f
    · subst e
      simp only [pushF, upd_same, joinX, pushR] at hi ⊢
      by_cases he : (fl i).cs.isEmpty
      · simp only [he, if_true]
        have := h.q i hf
        exact ⟨by omega, by omega, fun _ => by omega⟩
      · simp only [he, if_false] at hi ⊢
        exact h.d0 i hi
    · rw [hne i e]; refine h.d0 i ?_
      unfold pushR at hi; split at hi
      · simpa [e] using hi
      · exact hi
  · by_cases e : i = f
    · subst e
      simp only [pushF, upd_same, joinX, pushR] at hi ⊢
      by_cases he : (fl i).cs.isEmpty
      · simp only [he, if_true]
      · simp only [he, if_false] at hi ⊢
        exact h.tl i hi
    · rw [hne i e]; refine h.tl i ?_
      unfold pushR at hi; split at hi
      · cases row with
        | nil => simp at hi
        | cons a r => simpa [e] using hi
      · exact hi

theorem push_tn {fl : FM} {row : List Nat} {m f : Nat} {c : Int} (h : Inv fl row m) {i : Nat} (hi : i ∈ row) : cr (pushF fl f c i) = cr (fl i) := by
  by_cases e : i = f
  · subst e
    have hne := ((h.mem i).1 hi).2
    have : (fl i).cs.isEmpty = false := by cases hx : (fl i).cs with
      | nil => exact absurd hx hne
      | cons _ _ => rfl
    simp only [pushF, upd_same, joinX, this, Bool.false_eq_true, if_false, cr]
  · unfold pushF; rw [upd_ne _ _ e]

theorem push_phi {fl : FM} {row : List Nat} {m f : Nat} {c : Int} (h : Inv fl row m) {g : Nat} (hg : g ∈ row) (b R : Int) : phi (pushF fl f c) (pushR fl row f) R g b = phi fl row R g b := by
  have h1 : ahead (pushF fl f c) (pushR fl row f) g = ahead fl row g := by
    have h2 : ahead (pushF fl f c) (pushR fl row f) g = ahead (pushF fl f c) row g := by
      unfold pushR; split
      · exact ahead_app [f] hg
      · rfl
    rw [h2]
    exact ahead_congr g (fun i hi => by unfold tn; rw [push_tn h hi])
  unfold phi vis
  rw [h1, push_tn h hg]
  have : (pushF fl f c g).q = (fl g).q := by unfold pushF upd; split <;> first | rfl | (subst_vars; exact joinX_q _ _)
  rw [this]

theorem push_new {fl : FM} {row : List Nat} {m f : Nat} {c b : Int} (h : Inv fl row m) (hf : f < m) (hc : 16 ≤ c ∧ c ≤ 1040) (hb : 0 ≤ b) :
    phi (pushF fl f c) (pushR fl row f) (RR fl m) f b ≤ ((b + (fl f).q - 1) / (fl f).q + 2) * RR fl m := by
  have hi := push_inv h hf hc
  have hfr : f ∈ pushR fl row f := (hi.mem f).2 ⟨hf, by simp [pushF, joinX_cs]⟩
  have hR : RR (pushF fl f c) m = RR fl m := RR_congr (fun i _ => by unfold pushF upd; split <;> first | rfl | (subst_vars; exact joinX_q _ _))
  have hR0 := RR_nonneg (fl := fl) (m := m) (fun i hi => (h.q i hi).1)
  have h1 : ahead (pushF fl f c) (pushR fl row f) f ≤ RR fl m := by
    rw [← hR]; exact Int.le_trans (ahead_le f (fun i hh => (hi.tn0 hh).1)) hi.sum_le
  have hq : (pushF fl f c f).q = (fl f).q := by simp [pushF, joinX_q]
  have hq0 := h.q f hf
  have h2 : vis (pushF fl f c f) b ≤ (b + (fl f).q - 1) / (fl f).q := by
    unfold vis
    rw [hq]
    have h3 : (b - cr (pushF fl f c f) + (fl f).q - 1) / (fl f).q ≤ (b + (fl f).q - 1) / (fl f).q := Int.ediv_le_ediv (by omega) (by have := (hi.cr0 hfr).1; omega)
    have h4 : 0 ≤ (b + (fl f).q - 1) / (fl f).q := Int.ediv_nonneg (by omega) (by omega)
    omega
  unfold phi
  have h3 : RR fl m * vis (pushF fl f c f) b ≤ RR fl m * ((b + (fl f).q - 1) / (fl f).q) := Int.mul_le_mul_of_nonneg_left h2 hR0
  rw [Int.add_mul, Int.mul_comm ((b + (fl f).q - 1) / (fl f).q)]
  omega

end Go.Ring

/- Turns by deficit, in plain words, part 2: what waits, and that a turn serves the first cost of the first flow, and keeps all within its bound. -/
set_option linter.unusedSimpArgs false
set_option linter.unusedVariables false
namespace Go.Ring

structure Wt where
  f : Nat
  c : Int
  t : Int
  most : Int

def fcs (W : List Wt) (f : Nat) : List Int := (W.filter (fun w => w.f == f)).map (·.c)
def inc (w : Wt) : Wt := { w with t := w.t + 1 }

@[simp] theorem fcs_nil (f : Nat) : fcs [] f = [] := rfl
theorem fcs_append (A B : List Wt) (f : Nat) : fcs (A ++ B) f = fcs A f ++ fcs B f := by simp [fcs]
theorem fcs_cons (w : Wt) (B : List Wt) (f : Nat) : fcs (w :: B) f = (if w.f = f then [w.c] else []) ++ fcs B f := by
  unfold fcs
  by_cases h : w.f = f
  · simp [h]
  · simp [h]
theorem fcs_inc (A : List Wt) (f : Nat) : fcs (A.map inc) f = fcs A f := by
  induction A with
  | nil => rfl
  | cons w A ih => rw [List.map_cons, fcs_cons, fcs_cons, ih]; rfl
theorem fcs_none {A : List Wt} {f : Nat} (h : ∀ w ∈ A, w.f ≠ f) : fcs A f = [] := by
  induction A with
  | nil => rfl
  | cons w A ih => rw [fcs_cons, if_neg (h w (by simp)), ih (fun x hx => h x (by simp [hx]))]; rfl

structure WInv (fl : FM) (row : List Nat) (m : Nat) (W : List Wt) : Prop where
  inv : Inv fl row m
  lt : ∀ w ∈ W, w.f < m
  cs : ∀ i, i < m → (fl i).cs = fcs W i
  ok : ∀ A w B, W = A ++ w :: B → w.t + phi fl row (RR fl m) w.f (isum (fcs A w.f) + w.c) ≤ w.most

theorem WInv.mem {fl : FM} {row : List Nat} {m : Nat} {W : List Wt} (h : WInv fl row m W) {A B : List Wt} {w : Wt} (e : W = A ++ w :: B) : w.f ∈ row := by
  have hl := h.lt w (by rw [e]; simp)
  refine (h.inv.mem w.f).2 ⟨hl, ?_⟩
  rw [h.cs _ hl, e, fcs_append, fcs_cons, if_pos rfl]
  simp

theorem WInv.empty {fl : FM} {row : List Nat} {m : Nat} {W : List Wt} (h : WInv fl row m W) : row = [] ↔ W = [] := by
  constructor
  · intro hr
    cases W with
    | nil => rfl
    | cons w W => have := h.mem (A := []) (B := W) (w := w) rfl; rw [hr] at this; cases this
  · intro hw
    cases row with
    | nil => rfl
    | cons f gs =>
      have h1 := (h.inv.mem f).1 (by simp)
      rw [h.cs f h1.1, hw] at h1
      exact absurd rfl h1.2

theorem isum_fcs_nonneg {fl : FM} {row : List Nat} {m : Nat} {W : List Wt} (h : WInv fl row m W) {A B : List Wt} (e : W = A ++ B) (i : Nat) (hi : i < m) : 0 ≤ isum (fcs A i) :=
  isum_nonneg (fun x hx => by
    have := h.inv.cost i hi x (by rw [h.cs i hi, e, fcs_append]; simp [hx])
    omega)

/-- The first go ends. -/
theorem WInv.rot {fl : FM} {f : Nat} {gs : List Nat} {m : Nat} {W : List Wt} {c0 : Int} {cs : List Int} (h : WInv fl (f :: gs) m W) (hc : (fl f).cs = c0 :: cs) (ha : (fl f).an = false) (hd : (fl f).d < c0) :
    WInv (rotF fl f) (gs ++ [f]) m W := by
  have hR : RR (rotF fl f) m = RR fl m := RR_congr (fun i _ => by unfold rotF upd; split <;> first | rfl | (subst_vars; rfl))
  refine ⟨rot_inv (c := 0) h.inv hc ha hd, h.lt, fun i hi => ?_, fun A w B e => ?_⟩
  · rw [← h.cs i hi]; unfold rotF upd; split <;> first | rfl | (subst_vars; rfl)
  · rw [hR]
    have h1 := h.ok A w B e
    have h2 := rot_phi h.inv hc ha hd (h.mem e) (b := isum (fcs A w.f) + w.c) (fun e2 => by
      have hl := h.lt w (by rw [e]; simp)
      have h3 := h.cs w.f hl
      rw [e, fcs_append, fcs_cons, if_pos rfl] at h3
      rw [← e2] at hc
      rw [hc] at h3
      have hfa := isum_fcs_nonneg (A := A) h e w.f hl
      have hw := h.inv.cost w.f hl w.c (by rw [h.cs _ hl, e, fcs_append, fcs_cons, if_pos rfl]; simp)
      cases hA : fcs A w.f with
      | nil => rw [hA] at h3; simp at h3; simp [h3.1]
      | cons a l =>
        rw [hA] at h3
        simp only [List.cons_append, List.cons.injEq] at h3
        have : 0 ≤ isum l := isum_nonneg (fun x hx => by
          have := h.inv.cost w.f hl x (by rw [h.cs _ hl, e, fcs_append, hA]; simp [hx])
          omega)
        simp only [isum_cons]; omega)
    omega

/-- The first cost of the first flow is the first one of that flow that waits. -/
theorem first_of {W : List Wt} {f : Nat} {c0 : Int} {cs : List Int} (h : fcs W f = c0 :: cs) : ∃ A w B, W = A ++ w :: B ∧ (∀ a ∈ A, a.f ≠ f) ∧ w.f = f ∧ w.c = c0 := by
  induction W with
  | nil => cases h
  | cons w W ih =>
    rw [fcs_cons] at h
    by_cases e : w.f = f
    · rw [if_pos e] at h
      simp only [List.singleton_append, List.cons.injEq] at h
      exact ⟨[], w, W, rfl, fun _ ha => absurd ha (by simp), e, h.1⟩
    · rw [if_neg e, List.nil_append] at h
      obtain ⟨A, w', B, h1, h2, h3, h4⟩ := ih h
      refine ⟨w :: A, w', B, by rw [h1]; rfl, fun a ha => ?_, h3, h4⟩
      rcases List.mem_cons.1 ha with rfl | ha
      · exact e
      · exact h2 a ha

theorem WInv.serve {fl : FM} {f : Nat} {gs : List Nat} {m : Nat} {W : List Wt} {c0 : Int} {cs : List Int} (h : WInv fl (f :: gs) m W) (hc : (fl f).cs = c0 :: cs) (hd : c0 ≤ cr (fl f)) {A B : List Wt} {w0 : Wt}
    (e : W = A ++ w0 :: B) (hA : ∀ a ∈ A, a.f ≠ f) (hf : w0.f = f) (hw : w0.c = c0) :
    (∀ w ∈ W, w.t + 1 ≤ w.most) ∧ WInv (srvF fl f c0 cs) (srvR f gs cs) m ((A ++ B).map inc) := by
  have hfm : f < m := h.inv.lt (by simp)
  have hR : RR (srvF fl f c0 cs) m = RR fl m := RR_congr (fun i _ => by unfold srvF upd srvX; split <;> first | rfl | (subst_vars; rfl))
  refine ⟨fun w hw => ?_, srv_inv h.inv hc hd, fun w hw => ?_, fun i hi => ?_, fun A' w' B' e' => ?_⟩
  · obtain ⟨A1, B1, e1⟩ := List.append_of_mem hw
    have h1 := h.ok A1 w B1 e1
    have h2 := phi_pos h.inv hc hd w.f (isum (fcs A1 w.f) + w.c)
    omega
  · obtain ⟨x, hx, rfl⟩ := List.mem_map.1 hw
    refine h.lt x ?_
    rw [e]
    rcases List.mem_append.1 hx with hx | hx
    · simp [hx]
    · simp [hx]
  · rw [fcs_inc, fcs_append]
    have h1 := h.cs i hi
    rw [e, fcs_append, fcs_cons] at h1
    by_cases ei : i = f
    · subst ei
      rw [fcs_none hA, if_pos hf, hc] at h1
      simp only [List.nil_append, List.singleton_append, List.cons.injEq] at h1
      rw [fcs_none hA, List.nil_append]
      simp [srvF, srvX, h1.2]
    · rw [if_neg (by rw [hf]; exact Ne.symm ei), List.nil_append] at h1
      rw [← h1]
      unfold srvF; rw [upd_ne _ _ ei]
  · rw [hR]
    obtain ⟨A1, r1, e1, e2, e3⟩ := List.map_eq_append_iff.1 e'
    obtain ⟨w1, B1, e4, e5, e6⟩ := List.map_eq_cons_iff.1 e3
    subst e2 e5 e6 e4
    rw [fcs_inc]
    show w1.t + 1 + phi _ _ _ w1.f (isum (fcs A1 w1.f) + w1.c) ≤ w1.most
    have hmem : w1.f ∈ srvR f gs cs := by
      have hsi := srv_inv h.inv hc hd
      have hl : w1.f < m := by
        refine h.lt w1 ?_
        have : w1 ∈ A ++ B := by rw [e1]; simp
        rw [e]
        rcases List.mem_append.1 this with hx | hx
        · simp [hx]
        · simp [hx]
      refine (hsi.mem w1.f).2 ⟨hl, ?_⟩
      by_cases ef : w1.f = f
      · rw [ef]
        simp only [srvF, upd_same, srvX]
        have h1 := h.cs f hfm
        rw [e, fcs_append, fcs_cons, fcs_none hA, if_pos hf, hc] at h1
        simp only [List.nil_append, List.singleton_append, List.cons.injEq] at h1
        rw [h1.2]
        have : fcs (A ++ B) f = fcs B f := by rw [fcs_append, fcs_none hA, List.nil_append]
        rw [← this, e1, fcs_append, fcs_cons, if_pos ef]
        simp
      · unfold srvF; rw [upd_ne _ _ ef]
        have hw1 : w1 ∈ W := by
          have : w1 ∈ A ++ B := by rw [e1]; simp
          rw [e]
          rcases List.mem_append.1 this with hx | hx
          · simp [hx]
          · simp [hx]
        obtain ⟨A2, B2, e7⟩ := List.append_of_mem hw1
        exact ((h.inv.mem w1.f).1 (h.mem e7)).2
    rcases List.append_eq_append_iff.1 e1 with ⟨C, h1, h2⟩ | ⟨C, h1, h2⟩
    · -- A1 = A ++ C, B = C ++ w1 :: B1
      have hok := h.ok (A ++ w0 :: C) w1 B1 (by rw [e, h2]; simp)
      have hs := srv_phi h.inv hc hd hmem (b := isum (fcs (A ++ w0 :: C) w1.f) + w1.c)
      have hb : (if w1.f = f then isum (fcs (A ++ w0 :: C) w1.f) + w1.c - c0 else isum (fcs (A ++ w0 :: C) w1.f) + w1.c) = isum (fcs A1 w1.f) + w1.c := by
        rw [h1, fcs_append, fcs_append, fcs_cons]
        by_cases ef : w1.f = f
        · rw [if_pos ef, if_pos (by rw [hf, ef])]
          simp only [isum_append, isum_cons, isum_nil, hw]; omega
        · rw [if_neg ef, if_neg (by rw [hf]; exact Ne.symm ef), List.nil_append]
      rw [hb] at hs
      omega
    · -- A = A1 ++ C, w1 :: B1 = C ++ B
      cases C with
      | nil =>
        simp only [List.nil_append] at h2
        have h1' : A = A1 := by simpa using h1
        have hok := h.ok (A ++ [w0]) w1 B1 (by rw [e, ← h2]; simp)
        have hs := srv_phi h.inv hc hd hmem (b := isum (fcs (A ++ [w0]) w1.f) + w1.c)
        have hb : (if w1.f = f then isum (fcs (A ++ [w0]) w1.f) + w1.c - c0 else isum (fcs (A ++ [w0]) w1.f) + w1.c) = isum (fcs A1 w1.f) + w1.c := by
          rw [← h1', fcs_append, fcs_cons]
          by_cases ef : w1.f = f
          · rw [if_pos ef, if_pos (by rw [hf, ef])]
            simp only [isum_append, isum_cons, isum_nil, fcs_nil, hw]; omega
          · rw [if_neg ef, if_neg (by rw [hf]; exact Ne.symm ef)]; simp
        rw [hb] at hs
        omega
      | cons x C =>
        simp only [List.cons_append, List.cons.injEq] at h2
        obtain ⟨rfl, h2⟩ := h2
        have hne : w1.f ≠ f := hA w1 (by rw [h1]; simp)
        have hok := h.ok A1 w1 (C ++ w0 :: B) (by rw [e, h1]; simp)
        have hs := srv_phi h.inv hc hd hmem (b := isum (fcs A1 w1.f) + w1.c)
        rw [if_neg hne] at hs
        omega

/-- A cost comes. -/
theorem WInv.push {fl : FM} {row : List Nat} {m f : Nat} {W : List Wt} {c most : Int} (h : WInv fl row m W) (hf : f < m) (hc : 16 ≤ c ∧ c ≤ 1040)
    (hm : ((isum (fcs W f) + c + (fl f).q - 1) / (fl f).q + 2) * RR fl m ≤ most) :
    WInv (pushF fl f c) (pushR fl row f) m (W ++ [⟨f, c, 0, most⟩]) := by
  have hR : RR (pushF fl f c) m = RR fl m := RR_congr (fun i _ => by unfold pushF upd; split <;> first | rfl | (subst_vars; exact joinX_q _ _))
  have hs0 : 0 ≤ isum (fcs W f) := isum_fcs_nonneg (A := W) (B := []) h (by simp) f hf
  refine ⟨push_inv h.inv hf hc, fun w hw => ?_, fun i hi => ?_, fun A w B e => ?_⟩
  · rcases List.mem_append.1 hw with hw | hw
    · exact h.lt w hw
    · simp at hw; subst hw; exact hf
  · rw [fcs_append, fcs_cons, fcs_nil, List.append_nil]
    by_cases e : i = f
    · subst e; simp [pushF, joinX_cs, h.cs i hi]
    · unfold pushF; rw [upd_ne _ _ e, if_neg (Ne.symm e), List.append_nil]; exact h.cs i hi
  · rw [hR]
    rcases List.append_eq_append_iff.1 e with ⟨C, h1, h2⟩ | ⟨C, h1, h2⟩
    · -- A = W ++ C, [new] = C ++ w :: B
      cases C with
      | nil =>
        simp only [List.nil_append, List.cons.injEq] at h2
        obtain ⟨rfl, _⟩ := h2
        have h1' : A = W := by simpa using h1
        subst h1'
        have := push_new h.inv hf hc (b := isum (fcs A f) + c) (by omega)
        show 0 + phi _ _ _ f (isum (fcs A f) + c) ≤ most
        rw [Int.zero_add]
        exact Int.le_trans this hm
      | cons x C =>
        simp at h2
    · cases C with
      | nil =>
        simp only [List.nil_append, List.cons.injEq] at h2
        obtain ⟨rfl, _⟩ := h2
        have h1' : W = A := by simpa using h1
        subst h1'
        have := push_new h.inv hf hc (b := isum (fcs W f) + c) (by omega)
        show 0 + phi _ _ _ f (isum (fcs W f) + c) ≤ most
        rw [Int.zero_add]
        exact Int.le_trans this hm
      | cons x C =>
        simp only [List.cons_append, List.cons.injEq] at h2
        obtain ⟨rfl, h2⟩ := h2
        have hok := h.ok A w C h1
        rw [push_phi h.inv (h.mem h1)]
        exact hok

end Go.Ring

/- Contracts of the ring's small functions. -/
set_option linter.unusedSimpArgs false
set_option linter.unusedVariables false
set_option maxRecDepth 100000
namespace Go.Proofs
open Go.Sy Go.Lib Go.Ring

abbrev ikv : Int → Value := fun i => .int .i64 i
abbrev ringA (bR : Nat) (mo : Option Nat) (hr : Value) : Abs := boxA bR 56 [.v (.map mo), .v hr]
abbrev mpA (mo : Option Nat) (es : List (Int × AV)) : Abs := mapA ikv mo es
abbrev flA (fs : List FS) : Abs := flowsA 60 fs
abbrev csA (f : FS) (cs : List Int) : Abs := slO f.h 3 1 (cs.map I64)
abbrev rwA (hr : Value) (ps : List Nat) : Abs := slO hr 58 1 (ps.map fun b => PT b 0)

theorem numbered_c (n : Int) : FnP Try.prog 24 [I64 n] (· = B (decide (0 ≤ n) && decide (n ≤ 8))) := by
  refine FnP.intro Try.tabOK Try.wide_ Try.func24 rfl (by decide) rfl (fun X => ?_)
  repeat (first | refine sc rfl ?_ | refine so rfl ?_ | refine sb rfl ?_)
  refine O_case 5 rfl (fun h => ?_) (fun h => ?_)
  · repeat (first | refine sc rfl ?_ | refine so rfl ?_ | refine sb rfl ?_)
    exact ⟨_, rfl, rfl, by rw [h]; simp⟩
  · repeat (first | refine sc rfl ?_ | refine so rfl ?_ | refine sb rfl ?_)
    exact ⟨_, rfl, rfl, by rw [h]; simp⟩

theorem New_A : FnA Try.prog 6 [] [] (fun r cs => ∃ b, r = PT b 0 ∧ cs = [ringA b none (.slice none 0 0)]) := by
  refine FnA.intro Try.tabOK Try.wide_ Try.func6 rfl (by decide) rfl (fun X => ?_)
  refine sc rfl ?_
  refine sc rfl ?_
  refine so rfl ?_
  refine so rfl ?_
  refine sc rfl ?_
  refine sc rfl ?_
  refine so rfl ?_
  refine so rfl ?_
  refine O_absb 2 rfl rfl rfl (fun b => ?_)
  repeat (first | refine sc rfl ?_ | refine so rfl ?_ | refine sb rfl ?_)
  exact ⟨_, [ringA b none (.slice none 0 0)], [], rfl, .refl _, rfl, ⟨b, rfl, rfl⟩⟩

theorem active_A {fs : List FS} {i : Nat} {f : FS} (hi : fs[i]? = some f) : FnA Try.prog 39 [PT f.b 0] [flA fs] (fun r cs => r = B (decide (0 < f.hn) && !f.rests) ∧ cs = [flA fs]) := by
  refine FnA.intro Try.tabOK Try.wide_ Try.func39 rfl (by decide) rfl (fun X => ?_)
  repeat (first | refine sc rfl ?_ | refine so rfl ?_ | refine sb rfl ?_)
  refine O_loadP 0 (reads_flows hi 3) rfl rfl rfl rfl rfl rfl ?_
  repeat (first | refine sc rfl ?_ | refine so rfl ?_ | refine sb rfl ?_)
  have e1 : decide ((0 : Int) < (f.hn : Nat)) = decide (0 < f.hn) := by simp
  refine O_case 9 rfl (fun h => ?_) (fun h => ?_)
  · repeat (first | refine sc rfl ?_ | refine so rfl ?_ | refine sb rfl ?_)
    refine O_loadP 0 (reads_flows hi 4) rfl rfl rfl rfl rfl rfl ?_
    repeat (first | refine sc rfl ?_ | refine so rfl ?_ | refine sb rfl ?_)
    exact ⟨_, [flA fs], [], rfl, by simp, rfl, by rw [← e1, h]; rfl, rfl⟩
  · repeat (first | refine sc rfl ?_ | refine so rfl ?_ | refine sb rfl ?_)
    exact ⟨_, [flA fs], [], rfl, by simp, rfl, by rw [← e1, h]; rfl, rfl⟩

theorem find_A {bR : Nat} {mo : Option Nat} {hr : Value} {es : List (Int × AV)} (k : Int) {v : Value} (hp : (lookE k es).getD (.v (.pointer none)) = .v v) : FnA Try.prog 25 [PT bR 0, I64 k] [ringA bR mo hr, mpA mo es] (fun r cs => r = .v v ∧ cs = [ringA bR mo hr, mpA mo es]) := by
  refine FnA.intro Try.tabOK Try.wide_ Try.func25 rfl (by decide) rfl (fun X => ?_)
  repeat (first | refine sc rfl ?_ | refine so rfl ?_ | refine sb rfl ?_)
  refine O_Xd (X_ptrnil Try.underlying24 rfl rfl rfl) ?_
  repeat (first | refine sc rfl ?_ | refine so rfl ?_ | refine sb rfl ?_)
  refine C_false rfl rfl ?_
  repeat (first | refine sc rfl ?_ | refine so rfl ?_ | refine sb rfl ?_)
  refine O_loadP 0 (reads_box 0) rfl rfl rfl rfl rfl rfl ?_
  repeat (first | refine sc rfl ?_ | refine so rfl ?_ | refine sb rfl ?_)
  refine O_Xd (X_look 1 (intKey Try.underlying3) (zv := .pointer none) (z := .v (.pointer none)) Try.underlying53 rfl rfl (fun e => by simp only [Rep]) rfl rfl rfl rfl rfl rfl) ?_
  simp only [lookAV, cond_false, hp]
  repeat (first | refine sc rfl ?_ | refine so rfl ?_ | refine sb rfl ?_)
  exact ⟨_, [ringA bR mo hr, mpA mo es], [], rfl, .refl _, rfl, rfl, rfl⟩

theorem getP {es : List (Int × AV)} {k : Int} {b : Nat} (h : lookE k es = some (PT b 0)) : (lookE k es).getD (.v (.pointer none)) = .v (.pointer (some ⟨b, 0, none⟩)) := by rw [h]; rfl

theorem Waits_A {bR : Nat} {mo : Option Nat} {hr : Value} {es : List (Int × AV)} {fs : List FS} {i : Nat} {f : FS} (k : Int) (hi : fs[i]? = some f) (hk : lookE k es = some (PT f.b 0)) :
    FnA Try.prog 8 [PT bR 0, I64 k] [ringA bR mo hr, mpA mo es, flA fs] (fun r cs => r = I64 f.hn ∧ cs = [ringA bR mo hr, mpA mo es, flA fs]) := by
  refine FnA.intro Try.tabOK Try.wide_ Try.func8 rfl (by decide) rfl (fun X => ?_)
  repeat (first | refine sc rfl ?_ | refine so rfl ?_ | refine sb rfl ?_)
  refine O_callA [0, 0] (find_A k (getP hk)) (by rfl) (by rfl) (by rfl) (by rfl) (by rfl) ?_
  rintro r cs' ⟨rfl, rfl⟩
  repeat (first | refine sc rfl ?_ | refine so rfl ?_ | refine sb rfl ?_)
  refine O_Xd (X_ptrnnil Try.underlying58 rfl rfl rfl) ?_
  repeat (first | refine sc rfl ?_ | refine so rfl ?_ | refine sb rfl ?_)
  refine C_true rfl rfl ?_
  repeat (first | refine sc rfl ?_ | refine so rfl ?_ | refine sb rfl ?_)
  refine O_loadP 2 (reads_flows hi 3) rfl rfl rfl rfl rfl rfl ?_
  repeat (first | refine sc rfl ?_ | refine so rfl ?_ | refine sb rfl ?_)
  exact ⟨_, [ringA bR mo hr, mpA mo es, flA fs], [], rfl, .refl _, rfl, rfl, rfl⟩
end Go.Proofs

/- Contracts of slices.Index, Contains, IndexFunc, DeleteFunc at pointers to flows. -/
set_option linter.unusedSimpArgs false
set_option linter.unusedVariables false
set_option maxRecDepth 100000
namespace Go.Proofs
open Go.Sy Go.Lib Go.Ring

def Known (fs : List FS) (b : Nat) : Prop := ∃ (i : Nat) (f : FS), fs[i]? = some f ∧ f.b = b
theorem Known.plain {fs : List FS} {b : Nat} (h : Known fs b) : Plain (flA fs) b := by
  obtain ⟨i, f, hi, rfl⟩ := h
  exact plain_flows hi
abbrev ptrs (ps : List Nat) : List AV := ps.map fun b => PT b 0
theorem ptrs_get {ps : List Nat} {k b : Nat} (h : ps[k]? = some b) : (ptrs ps)[(k : Int).toNat * 1]? = some (PT b 0) := by
  simp [h]

def idxP (b : Nat) (ps : List Nat) : Int := match ps.findIdx? (· == b) with
  | some i => i
  | none => -1

theorem Index_A {fs : List FS} {hr : Value} {ps : List Nat} {b : Nat} (hb : Known fs b) (hps : ∀ x ∈ ps, Known fs x) (hl : ps.length ≤ 1000000) :
    FnA Try.prog 68 [.v hr, PT b 0] [rwA hr ps, flA fs] (fun r cs => r = I64 (idxP b ps) ∧ cs = [rwA hr ps, flA fs]) := by
  refine FnA.intro Try.tabOK Try.wide_ Try.func68 rfl (by decide) rfl (fun X => ?_)
  refine C_slO 0 rfl (fun h1 h2 => ?_) (fun g o m cc h1 h2 h3 h4 => ?_)
  · have hps0 : ps = [] := by simpa using h2
    subst h1 hps0
    repeat (first | refine sc rfl ?_ | refine so rfl ?_ | refine sb rfl ?_)
    refine C_loop (fun q : Unit => ⟨[(7, I64 0), (8, I64 0)], [.abs (rwA (.slice none 0 0) []), .abs (flA fs)]⟩) (fun _ => True) (fun _ => 0) () trivial (Le.perm [] ⟨rfl, rfl, trivial⟩ (.refl _)) ?_
    rintro _ _
    repeat (first | refine sc rfl ?_ | refine so rfl ?_ | refine sb rfl ?_)
    refine C_false rfl rfl ?_
    repeat (first | refine sc rfl ?_ | refine so rfl ?_ | refine sb rfl ?_)
    exact ⟨_, [rwA (.slice none 0 0) [], flA fs], [], rfl, .refl _, rfl, rfl, rfl⟩
  · subst h1
    have hm : ps.length = m := by simpa using h2
    repeat (first | refine sc rfl ?_ | refine so rfl ?_ | refine sb rfl ?_)
    refine C_loop (fun k : Nat => ⟨[(0, .v (HO g o m cc)), (1, PT b 0), (7, I64 (m : Nat)), (8, I64 (k : Nat))], [.abs (rwA (HO g o m cc) ps), .abs (flA fs)]⟩) (fun k => k ≤ m ∧ ∀ i, i < k → ps[i]? ≠ some b) (fun k => m - k) 0 ⟨Nat.zero_le _, fun _ h => by omega⟩ (Le.perm [] ⟨rfl, rfl, rfl, rfl, trivial⟩ (.refl _)) ?_
    rintro k ⟨hk, hne⟩
    repeat (first | refine sc rfl ?_ | refine so rfl ?_ | refine sb rfl ?_)
    refine C_if rfl (fun h5 => ?_) (fun h5 => ?_) <;> simp only [decide_eq_true_eq, decide_eq_false_iff_not] at h5
    · have hkm : k < ps.length := by omega
      have hget : ps[k]? = some ps[k] := List.getElem?_eq_getElem hkm
      have hkn := hps _ (List.getElem_mem hkm)
      repeat (first | refine sc rfl ?_ | refine so rfl ?_ | refine sb rfl ?_)
      refine ⟨by omega, ?_⟩
      refine O_loadO 0 (ptrs_get hget) rfl rfl rfl rfl rfl ?_
      refine O_Xd (X_ptreq 1 1 Try.underlying58 rfl (by decide) rfl rfl hb.plain hkn.plain rfl rfl rfl rfl) ?_
      repeat (first | refine sc rfl ?_ | refine so rfl ?_ | refine sb rfl ?_)
      refine C_if rfl (fun h6 => ?_) (fun h6 => ?_) <;> simp only [decide_eq_true_eq, decide_eq_false_iff_not, and_true] at h6
      · repeat (first | refine sc rfl ?_ | refine so rfl ?_ | refine sb rfl ?_)
        refine ⟨_, [rwA (HO g o m cc) ps, flA fs], [], rfl, .refl _, rfl, ?_, rfl⟩
        have : ps.findIdx? (· == b) = some k := by
          rw [List.findIdx?_eq_some_iff_getElem]
          refine ⟨hkm, by simp [h6], fun j hj => ?_⟩
          have := hne j hj
          rw [List.getElem?_eq_getElem (by omega)] at this
          simpa using this
        unfold idxP; rw [this]
      · repeat (first | refine sc rfl ?_ | refine so rfl ?_ | refine sb rfl ?_)
        rw [w64 (x := (k : Int) + 1) (by omega) (by omega)]
        refine ⟨k + 1, ⟨by omega, fun i hi => ?_⟩, by omega, Le.perm [] ⟨rfl, rfl, rfl, rfl, trivial⟩ (.refl _)⟩
        by_cases e : i = k
        · subst e; rw [hget]; intro hh; cases hh; exact h6 rfl
        · exact hne i (by omega)
    · repeat (first | refine sc rfl ?_ | refine so rfl ?_ | refine sb rfl ?_)
      refine ⟨_, [rwA (HO g o m cc) ps, flA fs], [], rfl, .refl _, rfl, ?_, rfl⟩
      have : ps.findIdx? (· == b) = none := by
        rw [List.findIdx?_eq_none_iff]
        intro x hx
        obtain ⟨i, hi, rfl⟩ := List.getElem_of_mem hx
        have := hne i (by omega)
        rw [List.getElem?_eq_getElem hi] at this
        simpa using this
      unfold idxP; rw [this]
end Go.Proofs

/- Contracts of slices.Contains, IndexFunc, DeleteFunc at pointers to flows. -/
set_option linter.unusedSimpArgs false
set_option linter.unusedVariables false
set_option maxRecDepth 100000
namespace Go.Proofs
open Go.Sy Go.Lib Go.Ring

theorem idxP_mem {b : Nat} {ps : List Nat} : (0 ≤ idxP b ps) ↔ b ∈ ps := by
  unfold idxP
  cases h : ps.findIdx? (· == b) with
  | some i =>
    have := List.findIdx?_eq_some_iff_getElem.1 h
    obtain ⟨h1, h2, _⟩ := this
    simp only [beq_iff_eq] at h2
    constructor
    · intro _; rw [← h2]; exact List.getElem_mem h1
    · intro _; simp
  | none =>
    rw [List.findIdx?_eq_none_iff] at h
    constructor
    · intro h; simp at h
    · intro hb; have := h b hb; simp at this

theorem Contains_A {fs : List FS} {hr : Value} {ps : List Nat} {b : Nat} (hb : Known fs b) (hps : ∀ x ∈ ps, Known fs x) (hl : ps.length ≤ 1000000) :
    FnA Try.prog 52 [.v hr, PT b 0] [rwA hr ps, flA fs] (fun r cs => r = B (decide (b ∈ ps)) ∧ cs = [rwA hr ps, flA fs]) := by
  refine FnA.intro Try.tabOK Try.wide_ Try.func52 rfl (by decide) rfl (fun X => ?_)
  repeat (first | refine sc rfl ?_ | refine so rfl ?_ | refine sb rfl ?_)
  refine O_callA [0, 0] (Index_A hb hps hl) (by rfl) (by rfl) (by rfl) (by rfl) (by rfl) ?_
  rintro r cs' ⟨rfl, rfl⟩
  repeat (first | refine sc rfl ?_ | refine so rfl ?_ | refine sb rfl ?_)
  refine ⟨_, [rwA hr ps, flA fs], [], rfl, .refl _, rfl, ?_, rfl⟩
  congr 3
  simp only [idxP_mem]

/-- The function value that leave hands over. -/
abbrev isF (b : Nat) : AV := .p (cloRP 54 [.cp [PT b 0]])

theorem is_A {fs : List FS} {x b : Nat} (hx : Known fs x) (hb : Known fs b) : FnA Try.prog 54 ([PT x 0] ++ [.cp [PT b 0]]) [flA fs] (fun r cs => r = B (decide (x = b)) ∧ cs = [flA fs]) := by
  refine FnA.intro Try.tabOK Try.wide_ Try.func54 rfl (by decide) rfl (fun X => ?_)
  repeat (first | refine sc rfl ?_ | refine so rfl ?_ | refine sb rfl ?_)
  refine O_Xd (X_ptreq 0 0 Try.underlying58 rfl (by decide) rfl rfl hx.plain hb.plain rfl rfl rfl rfl) ?_
  repeat (first | refine sc rfl ?_ | refine so rfl ?_ | refine sb rfl ?_)
  refine ⟨_, [flA fs], [], rfl, .refl _, rfl, ?_, rfl⟩
  simp

theorem IndexFunc_A {fs : List FS} {g o m cc : Nat} {ps : List Nat} {b : Nat} (hb : Known fs b) (hps : ∀ x ∈ ps, Known fs x) (hl : ps.length ≤ 1000000) (hm : ps.length = m) :
    FnA Try.prog 69 [.v (HO g o m cc), isF b] [rwA (HO g o m cc) ps, flA fs] (fun r cs => r = I64 (idxP b ps) ∧ cs = [rwA (HO g o m cc) ps, flA fs]) := by
  refine FnA.intro Try.tabOK Try.wide_ Try.func69 rfl (by decide) rfl (fun X => ?_)
  repeat (first | refine sc rfl ?_ | refine so rfl ?_ | refine sb rfl ?_)
  refine C_loop (fun k : Nat => ⟨[(0, .v (HO g o m cc)), (1, isF b), (7, I64 (m : Nat)), (8, I64 (k : Nat))], [.abs (rwA (HO g o m cc) ps), .abs (flA fs)]⟩) (fun k => k ≤ m ∧ ∀ i, i < k → ps[i]? ≠ some b) (fun k => m - k) 0 ⟨Nat.zero_le _, fun _ h => by omega⟩ (Le.perm [] ⟨rfl, rfl, rfl, rfl, trivial⟩ (.refl _)) ?_
  rintro k ⟨hk, hne⟩
  repeat (first | refine sc rfl ?_ | refine so rfl ?_ | refine sb rfl ?_)
  refine C_if rfl (fun h5 => ?_) (fun h5 => ?_) <;> simp only [decide_eq_true_eq, decide_eq_false_iff_not] at h5
  · have hkm : k < ps.length := by omega
    have hget : ps[k]? = some ps[k] := List.getElem?_eq_getElem hkm
    have hkn := hps _ (List.getElem_mem hkm)
    repeat (first | refine sc rfl ?_ | refine so rfl ?_ | refine sb rfl ?_)
    refine ⟨by omega, ?_⟩
    refine O_loadO 0 (ptrs_get hget) rfl rfl rfl rfl rfl ?_
    refine O_callAV (isClo_p 54 [.cp [PT b 0]]) rfl (is_A hkn hb) rfl rfl rfl rfl (cs := [flA fs]) (cr := [.abs (rwA (HO g o m cc) ps)]) (List.Perm.swap _ _ _) rfl ?_
    rintro r cs' ⟨rfl, rfl⟩
    repeat (first | refine sc rfl ?_ | refine so rfl ?_ | refine sb rfl ?_)
    refine C_if rfl (fun h6 => ?_) (fun h6 => ?_) <;> simp only [decide_eq_true_eq, decide_eq_false_iff_not, and_true] at h6
    · repeat (first | refine sc rfl ?_ | refine so rfl ?_ | refine sb rfl ?_)
      refine ⟨_, [rwA (HO g o m cc) ps, flA fs], [], rfl, List.Perm.swap _ _ _, rfl, ?_, rfl⟩
      have : ps.findIdx? (· == b) = some k := by
        rw [List.findIdx?_eq_some_iff_getElem]
        refine ⟨hkm, by simp [h6], fun j hj => ?_⟩
        have := hne j hj
        rw [List.getElem?_eq_getElem (by omega)] at this
        simpa using this
      unfold idxP; rw [this]
    · repeat (first | refine sc rfl ?_ | refine so rfl ?_ | refine sb rfl ?_)
      rw [w64 (x := (k : Int) + 1) (by omega) (by omega)]
      refine ⟨k + 1, ⟨by omega, fun i hi => ?_⟩, by omega, Le.perm [] ⟨rfl, rfl, rfl, rfl, trivial⟩ (List.Perm.swap _ _ _)⟩
      by_cases e : i = k
      · subst e; rw [hget]; intro hh; cases hh; exact h6 rfl
      · exact hne i (by omega)
  · repeat (first | refine sc rfl ?_ | refine so rfl ?_ | refine sb rfl ?_)
    refine ⟨_, [rwA (HO g o m cc) ps, flA fs], [], rfl, .refl _, rfl, ?_, rfl⟩
    have : ps.findIdx? (· == b) = none := by
      rw [List.findIdx?_eq_none_iff]
      intro x hx
      obtain ⟨i, hi, rfl⟩ := List.getElem_of_mem hx
      have := hne i (by omega)
      rw [List.getElem?_eq_getElem hi] at this
      simpa using this
    unfold idxP; rw [this]
end Go.Proofs
