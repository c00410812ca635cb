/- The symbolic walk, part 37: maps at known addresses; pointers compared; new memory told at its address; chunks packed. -/
import Derived.Test.YtpkbclagmkgpkaaGreatDoorQ4
import Derived.MapKept
import Derived.Laws.CopyRow
import Derived.Laws.MakeOwn
import Derived.Laws.LoneSync
import Derived.Defers
import Derived.Test.YtpkbclagmkgpkaaGreatDoorQ3
set_option linter.unusedSimpArgs false
set_option linter.unusedVariables false
namespace Go.Sy
open Go.RowKit Go.MapKept

section
variable {P : Program} {T : Tab} {X : Ctx P T} {n : Nat} {e : Env} {st : St} {a : Act} {w : World} {ops : Array Oper} {K : St → Prop}

theorem Rel.allocAbs {s : List (Nat × AV)} {c : List Ch} (r : Rel X n e ⟨s, c⟩ a w) {A : Abs} {o : Obj} (hbs : A.bs = [w.heap.size]) (hok : A.ok e.G (w.alloc o)) : Rel X n e ⟨s, .abs A :: c⟩ a (w.alloc o) := by
  have hb : ∀ b, b < w.heap.size → (w.alloc o).heap[b]? = w.heap[b]? := fun b h => Below.heap_alloc w o b h
  have hsz : (w.alloc o).heap.size = w.heap.size + 1 := Array.size_push o
  have := r.swapAbs (st := ⟨s, c⟩) (As := []) (As' := [A]) (c := c) (G' := e.G) (w' := w.alloc o) (List.Perm.refl _) (IM.le_refl _) ⟨?_, ?_⟩ ⟨fun b o v h => .inl h, fun b x h => .inl h⟩ ⟨?_, ?_, ?_⟩ ?_ ⟨rfl, rfl, rfl⟩ (by omega) (fun k hk _ _ => hb k hk)
  · simpa using this
  · intro b o' v hv
    have h1 := r.im b o' v hv
    simp only [World.cell?] at h1 ⊢
    rw [hb b (r.glt0 _ _ _ hv)]; exact h1
  · exact r.mzKeep (fun b h _ => hb b h)
  · intro B hB; simp only [List.mem_singleton] at hB; subst hB; exact hok
  · simp [blocks, hbs]
  · intro b hbb
    have : b = w.heap.size := by simpa [blocks, hbs] using hbb
    subst this
    exact ⟨by omega, r.free (Nat.le_refl _)⟩
  · intro b hbb
    have : b = w.heap.size := by simpa [blocks, hbs] using hbb
    subst this; exact .inl (Nat.le_refl _)

structure Key (P : Program) (kt : TypeId) (α : Type) where
  kv : α → Value
  d : TypeDesc
  hd : P.underlying kt = some d
  ik : ∀ a, IsKey d (kv a)
  inj : ∀ a b, kv a = kv b → a = b

def intKey {P : Program} {kt : TypeId} (h : P.underlying kt = some (.int .i64)) : Key P kt Int := ⟨fun i => .int .i64 i, _, h, fun _ => rfl, fun a b h => by cases h; rfl⟩

def mapA {α : Type} (kv : α → Value) (mo : Option Nat) (es : List (α × AV)) : Abs where
  bs := mo.toList
  ok := fun G w => match mo with
    | none => es = []
    | some b => ∃ arr cl, w.heap[b]? = some (.map arr cl) ∧ arr.toList.map (·.key) = es.map (fun q => kv q.1) ∧ RepIT G (es.map (·.2)) (arr.toList.map (·.val)) ∧ (arr.toList.map (·.born)).Nodup ∧ ∀ x ∈ arr.toList, x.born < cl
  keep := by
    rintro G H w w' hG hb hok
    cases mo with
    | none => exact hok
    | some b =>
      obtain ⟨arr, cl, h1, h2, h3, h4⟩ := hok
      exact ⟨arr, cl, by rw [hb b (by simp)]; exact h1, h2, RepIT.mono hG _ h3, h4⟩

def lookE {α : Type} [DecidableEq α] (k : α) : List (α × AV) → Option AV
  | [] => none
  | (j, x) :: r => if j = k then some x else lookE k r
def updE {α : Type} [DecidableEq α] (k : α) (x : AV) : List (α × AV) → List (α × AV)
  | [] => [(k, x)]
  | (j, y) :: r => if j = k then (j, x) :: r else (j, y) :: updE k x r

theorem updE_new {α : Type} [DecidableEq α] {k : α} {x : AV} : ∀ {es : List (α × AV)}, lookE k es = none → updE k x es = es ++ [(k, x)]
  | [], _ => rfl
  | (j, y) :: r, h => by
    simp only [lookE] at h
    split at h
    · cases h
    · rename_i hj
      simp only [updE, if_neg hj, updE_new h, List.cons_append]

theorem find_map {α : Type} [DecidableEq α] {kt : TypeId} (K : Key P kt α) (G : IM) (k : α) : ∀ (arr : List MapEntry) (es : List (α × AV)) (i : Nat), arr.map (·.key) = es.map (fun q => K.kv q.1) → RepIT G (es.map (·.2)) (arr.map (·.val)) →
    (Instr.findNow K.d (K.kv k) arr i = some none ∧ lookE k es = none) ∨
    (∃ j e x, Instr.findNow K.d (K.kv k) arr i = some (some (i + j, e.val)) ∧ arr[j]? = some e ∧ e.key = K.kv k ∧ lookE k es = some x ∧ RepI G x e.val ∧
      ∀ y, (updE k y es).map (fun q => K.kv q.1) = es.map (fun q => K.kv q.1) ∧ (updE k y es).map (·.2) = (es.map (·.2)).set j y)
  | [], [], i, _, _ => .inl ⟨rfl, rfl⟩
  | [], _ :: _, i, h, _ => by simp at h
  | _ :: _, [], i, h, _ => by simp at h
  | e :: arr, (j, x) :: es, i, h, hr => by
    simp only [List.map_cons, List.cons.injEq] at h hr
    simp only [RepIT] at hr
    obtain ⟨z, zs, ⟨rfl, rfl⟩, hr1, hr2⟩ := hr
    obtain ⟨b, hb, hiff⟩ := sameNow_of_keys (K.ik k) (h.1 ▸ K.ik j)
    cases b with
    | true =>
      have hkj : K.kv k = e.key := hiff.1 rfl
      have : j = k := K.inj _ _ (by rw [← h.1, hkj])
      subst this
      refine .inr ⟨0, e, x, by simp [Instr.findNow, hb], rfl, hkj.symm, by simp [lookE], hr1, fun y => ?_⟩
      simp [updE]
    | false =>
      have hkj : K.kv k ≠ e.key := fun hh => by have := hiff.2 hh; cases this
      have hne : j ≠ k := fun hh => hkj (by rw [h.1, hh])
      rcases find_map K G k arr es (i + 1) h.2 hr2 with ⟨h1, h2⟩ | ⟨q, e', x', h1, h2, h3, h4, h5, h6⟩
      · exact .inl ⟨by simp [Instr.findNow, hb, h1], by simp [lookE, hne, h2]⟩
      · refine .inr ⟨q + 1, e', x', by simp [Instr.findNow, hb, h1]; omega, by simpa using h2, h3, by simp [lookE, hne, h4], h5, fun y => ?_⟩
        obtain ⟨g1, g2⟩ := h6 y
        simp [updE, hne, g1, g2]

def lookAV (commaOk : Bool) (o : Option AV) (z : AV) : AV := bif commaOk then .tup [o.getD z, B o.isSome] else o.getD z

theorem X_look (q : Nat) {α : Type} [DecidableEq α] {kt et mt : TypeId} (K : Key P kt α) {p : Pl} {mo : Option Nat} {es : List (α × AV)} {m x : Operand} {d : Option Nat} {k : α} {zv : Value} {z : AV} {commaOk : Bool} {pi : TypeInfo} {ty : TypeId} {pos : String} {aft : Array Edge} {gd : Option (Nat × Bool)} {j : Nat} {Si : List (Nat × AV)} {c cr : List Ch}
    (hm : P.underlying mt = some (.map kt et)) (hpi : P.info? et = some pi) (hz : pi.zero = some zv) (hzr : ∀ e : Env, Rep e z zv) (hzi : z.imm = true)
    (hg : guardA ops ⟨Si, c⟩ ⟨d, .lookup mt m x commaOk, ty, pos, aft, gd⟩ = some true) (hmo : opd Si m = some (.v (.map mo))) (hx : opd Si x = some (.v (K.kv k))) (hp : nthA q c = some (mapA K.kv mo es, cr)) (hd : dstOK n d = true) :
    StepX X n ops p Si c c j ⟨d, .lookup mt m x commaOk, ty, pos, aft, gd⟩ (lookAV commaOk (lookE k es) z) :=
  StepX.val hg hd (fun e a w S r r' => by
    have h1 := opd_sound r' hmo
    have h2 := opd_sound r' hx
    simp only [Rep] at h1 h2
    obtain ⟨hok, _⟩ := r.heap.nth hp
    have hzero : (zeroValue et).run P w = .ok zv w := by simp [zeroValue, typeInfo, hpi, hz]
    have key : ∃ v, Rep e ((lookE k es).getD z) v ∧ (Instr.lookup mt (.map mo) (K.kv k) commaOk).run P w = .ok (if commaOk then .tuple #[v, .bool (lookE k es).isSome] else v) w := by
      cases mo with
      | none =>
        have hes : es = [] := hok
        subst hes
        have hf : (Instr.findKey kt (K.kv k) []).run P w = .ok none w := run_findKey K.hd rfl
        refine ⟨zv, hzr e, ?_⟩
        simp [Instr.lookup, run_underlying hm, run_checkKey K.hd (K.ik k), hf, hzero, lookE]
      | some b =>
        obtain ⟨arr, cl, g1, g2, g3, g4⟩ := hok
        rcases find_map K e.G k arr.toList es 0 g2 g3 with ⟨f1, f2⟩ | ⟨jj, en, xx, f1, f2, f3, f4, f5, _⟩
        · have hf := run_findKey (w := w) K.hd f1
          refine ⟨zv, by rw [f2]; exact hzr e, ?_⟩
          simp [Instr.lookup, run_underlying hm, MapKept.run_getObj_map g1, run_checkKey K.hd (K.ik k), hf, hzero, f2]
        · have hf := run_findKey (w := w) K.hd f1
          refine ⟨en.val, by rw [f4]; exact RepI.toRep xx f5, ?_⟩
          simp [Instr.lookup, run_underlying hm, MapKept.run_getObj_map g1, run_checkKey K.hd (K.ik k), hf, f4]
    obtain ⟨v, k1, k2⟩ := key
    refine ⟨if commaOk then .tuple #[v, .bool (lookE k es).isSome] else v, w, e, by simp only [execOp, h1, h2, Sem.run_bind, k2, Result.andThen_ok, Sem.run_pure], r, ?_⟩
    cases commaOk with
    | false => simpa [lookAV] using k1
    | true => simp only [lookAV, cond_true, if_true, Rep, RepT]; exact ⟨_, rfl, _, _, rfl, k1, _, _, rfl, rfl, rfl⟩)

theorem map_modify_key {arr : Array MapEntry} {i : Nat} {f : MapEntry → MapEntry} {en : MapEntry} (hi : arr[i]? = some en) (hk : (f en).key = en.key) : (arr.modify i f).toList.map (·.key) = arr.toList.map (·.key) :=
  modify_keys i f (fun e he => by rw [hi] at he; cases he; exact hk)

theorem map_modify_val {arr : Array MapEntry} {i : Nat} {f : MapEntry → MapEntry} {en : MapEntry} (hi : arr[i]? = some en) : (arr.modify i f).toList.map (·.val) = (arr.toList.map (·.val)).set i (f en).val := by
  apply List.ext_getElem?
  intro j
  rw [List.getElem?_set]
  simp only [List.getElem?_map, Array.getElem?_toList, Array.getElem?_modify, List.length_map, Array.length_toList]
  obtain ⟨hlt, rfl⟩ := Array.getElem?_eq_some_iff.1 hi
  by_cases hij : i = j
  · subst hij; simp [hlt]
  · simp [hij]

theorem map_modify_born {arr : Array MapEntry} {i : Nat} {f : MapEntry → MapEntry} (hf : ∀ e, (f e).born = e.born) : (arr.modify i f).toList.map (·.born) = arr.toList.map (·.born) := by
  apply List.ext_getElem?
  intro j
  simp only [List.getElem?_map, Array.getElem?_toList, Array.getElem?_modify]
  by_cases hij : i = j
  · subst hij
    cases arr[i]? with
    | none => simp
    | some e => simp [hf]
  · simp [hij]

theorem repIT_set {G : IM} : ∀ {xs : List AV} {vs : List Value} (j : Nat) {x : AV} {v : Value}, RepIT G xs vs → RepI G x v → RepIT G (xs.set j x) (vs.set j v)
  | [], vs, j, x, v, h, hx => by
    simp only [RepIT] at h; subst h; simp [RepIT]
  | y :: xs, vs, j, x, v, h, hx => by
    simp only [RepIT] at h
    obtain ⟨z, zs, rfl, h1, h2⟩ := h
    cases j with
    | zero => simp only [List.set_cons_zero, RepIT]; exact ⟨v, zs, rfl, hx, h2⟩
    | succ j => simp only [List.set_cons_succ, RepIT]; exact ⟨z, _, rfl, h1, repIT_set j h2 hx⟩

theorem O_makeMap {α : Type} (kv : α → Value) {mt : TypeId} {dst : Nat} {ty : TypeId} {pos : String} {aft : Array Edge} {rest : List Oper} {s : List (Nat × AV)} {c : List Ch} (hd : Nat.blt dst n = true)
    (k : ∀ b, SymO X n ops rest ⟨(dst, .v (.map (some b))) :: s, .abs (mapA kv (some b) []) :: c⟩ K) : SymO X n ops (⟨some dst, .makeMap mt none, ty, pos, aft, none⟩ :: rest) ⟨s, c⟩ K := by
  intro e a w Q r hq
  unfold wpList
  rw [if_pos (by simp [Region.wanted])]
  refine .inl ?_
  unfold Oper.wp
  have hrun : (execOp a.eval ⟨some dst, .makeMap mt none, ty, pos, aft, none⟩).run P w = .ok (.value (.map (some w.heap.size))) (w.alloc (.map #[] 0)) := rfl
  rw [hrun]
  have r2 := r.allocAbs (A := mapA kv (some w.heap.size) []) (o := .map #[] 0) rfl ⟨#[], 0, (MapKept.heap_alloc w _).1, rfl, by simp [RepIT], by simp, by simp⟩
  exact k w.heap.size _ _ _ Q (r2.put (x := .v (.map (some w.heap.size))) hd (by simp only [Rep])) hq

def eqB (op : BinOp) (b : Bool) : Bool := match op with | .eql => b | _ => !b
theorem X_eq {p : Pl} {t : TypeId} {x y : Operand} {u v : Value} {b : Bool} {op : BinOp} {d : Option Nat} {uy ty : TypeId} {pos : String} {aft : Array Edge} {gd : Option (Nat × Bool)} {j : Nat} {Si : List (Nat × AV)} {c : List Ch}
    (hop : op = .eql ∨ op = .neq) (hu : ∀ cs, u ≠ .agg cs) (hun : u ≠ .nilIface)
    (hb : ∀ e a w S, Rel X n e ⟨S, c⟩ a w → (Op.equal t u v).run P w = .ok b w)
    (hbin : ∀ w, (binOp op t u v).run P w = ((Op.equal t u v).run P w).andThen fun b w => .ok (.bool (eqB op b)) w)
    (hg : guardA ops ⟨Si, c⟩ ⟨d, .binOp op t x y uy, ty, pos, aft, gd⟩ = some true) (hx : opd Si x = some (.v u)) (hy : opd Si y = some (.v v)) (hd : dstOK n d = true) :
    StepX X n ops p Si c c j ⟨d, .binOp op t x y uy, ty, pos, aft, gd⟩ (B (eqB op b)) :=
  StepX.val hg hd (fun e a w S r r' => by
    have h1 := opd_sound r' hx
    have h2 := opd_sound r' hy
    simp only [Rep] at h1 h2
    have hgd : (eqGuard op t x y u v).run P w = .ok () w := by
      unfold eqGuard
      rcases hop with rfl | rfl
      · cases u <;> cases v <;> first | rfl | (exact absurd rfl (hu _)) | (exact absurd rfl hun)
      · cases u <;> cases v <;> first | rfl | (exact absurd rfl (hu _)) | (exact absurd rfl hun)
    have hbb := hb e a w S r
    refine ⟨.bool (eqB op b), w, e, ?_, r, by simp [Rep]⟩
    simp only [execOp, h1, h2, Sem.run_bind, hgd, Result.andThen_ok, hbin, hbb, Sem.run_pure])

theorem run_equalIn_ptr0 {t el : TypeId} (h : P.underlying t = some (.pointer el)) (po : Option Addr) (w : World) (d : Nat) : (Op.equalIn (d + 1) t (.pointer po) (.pointer none)).run P w = .ok po.isNone w := by
  cases po <;> simp [Op.equalIn, run_underlying h]
theorem run_equal_ptr0 {t el : TypeId} (h : P.underlying t = some (.pointer el)) (po : Option Addr) (w : World) : (Op.equal t (.pointer po) (.pointer none)).run P w = .ok po.isNone w := run_equalIn_ptr0 h po w 9999

theorem binOp_eq_ptr {t : TypeId} {m : Option Addr} {v : Value} (w : World) : (binOp .eql t (.pointer m) v).run P w = ((Op.equal t (.pointer m) v).run P w).andThen fun b w => .ok (.bool (eqB .eql b)) w := by
  simp [binOp, Sem.run_bind, eqB]
theorem binOp_neq_ptr {t : TypeId} {m : Option Addr} {v : Value} (w : World) : (binOp .neq t (.pointer m) v).run P w = ((Op.equal t (.pointer m) v).run P w).andThen fun b w => .ok (.bool (eqB .neq b)) w := by
  simp [binOp, Sem.run_bind, eqB]

theorem X_ptrnil {p : Pl} {t el : TypeId} {x : Operand} {po : Option Addr} {d : Option Nat} {uy ty : TypeId} {pos : String} {aft : Array Edge} {gd : Option (Nat × Bool)} {j : Nat} {Si : List (Nat × AV)} {c : List Ch} (hm : P.underlying t = some (.pointer el))
    (hg : guardA ops ⟨Si, c⟩ ⟨d, .binOp .eql t x (.const (.pointer none)) uy, ty, pos, aft, gd⟩ = some true) (hx : opd Si x = some (.v (.pointer po))) (hd : dstOK n d = true) :
    StepX X n ops p Si c c j ⟨d, .binOp .eql t x (.const (.pointer none)) uy, ty, pos, aft, gd⟩ (B po.isNone) :=
  X_eq (op := .eql) (u := .pointer po) (v := .pointer none) (.inl rfl) (by intro cs h; cases h) (by intro h; cases h) (fun e a w S r => run_equal_ptr0 hm po w) (fun w => binOp_eq_ptr w) hg hx rfl hd
theorem X_ptrnnil {p : Pl} {t el : TypeId} {x : Operand} {po : Option Addr} {d : Option Nat} {uy ty : TypeId} {pos : String} {aft : Array Edge} {gd : Option (Nat × Bool)} {j : Nat} {Si : List (Nat × AV)} {c : List Ch} (hm : P.underlying t = some (.pointer el))
    (hg : guardA ops ⟨Si, c⟩ ⟨d, .binOp .neq t x (.const (.pointer none)) uy, ty, pos, aft, gd⟩ = some true) (hx : opd Si x = some (.v (.pointer po))) (hd : dstOK n d = true) :
    StepX X n ops p Si c c j ⟨d, .binOp .neq t x (.const (.pointer none)) uy, ty, pos, aft, gd⟩ (B (!po.isNone)) :=
  X_eq (op := .neq) (u := .pointer po) (v := .pointer none) (.inr rfl) (by intro cs h; cases h) (by intro h; cases h) (fun e a w S r => run_equal_ptr0 hm po w) (fun w => binOp_neq_ptr w) hg hx rfl hd

theorem Le.absPerm {As As' : List Abs} {s : List (Nat × AV)} {c cr : List Ch} (hp : c.Perm (As.map Ch.abs ++ cr)) (hbs : (blocks As').Perm (blocks As)) (hok : ∀ G w, (∀ A ∈ As, A.ok G w) → ∀ A ∈ As', A.ok G w) : Le X n ⟨s, c⟩ ⟨s, As'.map Ch.abs ++ cr⟩ := fun e a w r => by
  have hh := (r.heap.perm hp).absOK
  refine ⟨e, r.swapAbs (st := ⟨s, c⟩) (As' := As') (G' := e.G) (w' := w) hp (IM.le_refl _) ⟨r.im, r.mz⟩ ⟨fun b o v h => .inl h, fun b x h => .inl h⟩ ⟨hok _ _ hh.1.1, hbs.nodup_iff.2 hh.1.2.1, fun b hb => hh.1.2.2 b (hbs.mem_iff.1 hb)⟩ (fun b hb => .inr (hbs.mem_iff.1 hb)) ⟨rfl, rfl, rfl⟩ (Nat.le_refl _) (fun _ _ _ _ => rfl)⟩

theorem O_know {l : List Oper} {s : List (Nat × AV)} {c cr : List Ch} (q : Nat) {A : Abs} (φ : Prop) (hp : nthA q c = some (A, cr)) (hφ : ∀ G w, A.ok G w → A.bs.Nodup → φ) (k : φ → SymO X n ops l ⟨s, c⟩ K) : SymO X n ops l ⟨s, c⟩ K := fun e a w Q r => by
  obtain ⟨h1, _, h2⟩ := r.heap.nth hp
  exact k (hφ _ _ h1 h2) e a w Q r
end
end Go.Sy

namespace Go.Sy
open Go.RowKit

section
variable {P : Program} {T : Tab} {X : Ctx P T} {n : Nat} {e : Env} {st : St} {a : Act} {w : World} {ops : Array Oper} {K : St → Prop}

def bndA (s : List (Nat × AV)) (o : Option Operand) (d : Int) : Option Int := match o with
  | none => some d
  | some x => match opd s x with
    | some (.v (.int _ i)) => some i
    | _ => none

theorem bndA_sound {s : List (Nat × AV)} {c : List Ch} (r : Rel X n e ⟨s, c⟩ a w) {o : Option Operand} {d i : Int} (h : bndA s o d = some i) : (o.map a.eval = none ∧ i = d) ∨ ∃ k, o.map a.eval = some (.int k i) := by
  cases o with
  | none => simp only [bndA, Option.some.injEq] at h; exact .inl ⟨rfl, h.symm⟩
  | some x =>
    simp only [bndA] at h
    split at h
    · rename_i k i' hx
      simp only [Option.some.injEq] at h
      subst h
      have := opd_sound r hx
      simp only [Rep] at this
      exact .inr ⟨k, by simp [this]⟩
    · cases h

theorem X_slice {p : Pl} {t el sz0 b0 : Nat} {ag0 : Bool} {z0 : List Value} {ti : TI} {x : Operand} {lo hi : Option Operand} {g o m c : Nat} {i j : Int} {d : Option Nat} {ty : TypeId} {pos : String} {aft : Array Edge} {gd : Option (Nat × Bool)} {q : Nat} {Si : List (Nat × AV)} {cs : List Ch}
    (hTs : T t = some ⟨sz0, b0, ag0, z0, .slice el⟩) (hTe : T el = some ti) (hg : guardA ops ⟨Si, cs⟩ ⟨d, .slice t x lo hi none, ty, pos, aft, gd⟩ = some true) (hx : opd Si x = some (.v (HO g o m c))) (hlo : bndA Si lo 0 = some i) (hhi : bndA Si hi m = some j) (hd : dstOK n d = true)
    (h0 : 0 ≤ i) (hij : i ≤ j) (hj : j ≤ m) (hc : m ≤ c) :
    StepX X n ops p Si cs cs q ⟨d, .slice t x lo hi none, ty, pos, aft, gd⟩ (.v (HO g (if c - i.toNat = 0 then o else o + i.toNat * ti.size) (j.toNat - i.toNat) (c - i.toNat))) :=
  StepX.val hg hd (fun e a w S r r' => by
    have h1 := opd_sound r' hx
    simp only [Rep] at h1
    obtain ⟨dd, e4, _, e5⟩ := (X.ok _ _ hTs).desc
    simp only [TDOK] at e5
    subst e5
    have hb := fun w : World => run_bounds (P := P) (w := w) true m c _ _ i j h0 hij hj hc (bndA_sound r' hlo) (bndA_sound r' hhi)
    refine ⟨HO g (if c - i.toNat = 0 then o else o + i.toNat * ti.size) (j.toNat - i.toNat) (c - i.toNat), w, e, ?_, r, by simp only [Rep]⟩
    simp only [execOp, h1, Instr.sliceAt, Instr.slice, Sem.run_bind, run_underlying e4, Result.andThen_ok]
    simp only [run_underlying e4, Option.map_none, hb, X.ok.size hTe, Sem.run_bind, Result.andThen_ok, Sem.run_pure, HO]
    by_cases hz : c = i.toNat
    · rw [if_pos hz, if_pos (by omega)]
    · rw [if_neg hz, if_neg (by omega), Option.map_some, add_addr])

end
end Go.Sy

namespace Go.Sy
open Go.RowKit

section
variable {P : Program} {T : Tab} {X : Ctx P T} {n : Nat} {e : Env} {st : St} {a : Act} {w : World} {ops : Array Oper} {K : St → Prop}

end
end Go.Sy

namespace Go.Sy
open Go.RowKit

section
variable {P : Program} {T : Tab} {X : Ctx P T} {n : Nat} {e : Env} {st : St} {a : Act} {w : World} {ops : Array Oper} {K : St → Prop}

theorem Le.addAbs (A : Abs) {s : List (Nat × AV)} {c : List Ch} (hbs : A.bs = []) (hok : ∀ G w, A.ok G w) : Le X n ⟨s, c⟩ ⟨s, .abs A :: c⟩ :=
  Le.absPerm (As := []) (As' := [A]) (.refl _) (by simp [blocks, hbs]) (fun G w _ B hB => by simp only [List.mem_singleton] at hB; subst hB; exact hok G w)

theorem D_callA (is : List Nat) {base : List (Nat × AV)} {c : List Ch} {done : Done} {f : FuncId} {dst : Nat} {args : Array Operand} {tys : Array TypeId} {ty : TypeId} {pos : String} {aft : Array Edge} {gd : Option (Nat × Bool)} {rest : List Oper} {avs : List AV} {x : AV} {cs : List Abs} {cr : List Ch}
    (hf : FnA P f avs cs (fun r cs' => r = x ∧ cs' = cs)) (hg : guardA ops ⟨availL done aft.toList base, c⟩ ⟨some dst, .call ⟨.value (.func f), args, tys⟩, ty, pos, aft, gd⟩ = some true) (ha : opds (availL done aft.toList base) args.toList = some avs) (himm : AV.imm.immL avs = true) (hp : pickA is c = some (cs, cr)) (hd : Nat.blt dst n = true)
    (k : SymD X n ops base c K rest (done ++ [(some dst, x)])) :
    SymD X n ops base c K (⟨some dst, .call ⟨.value (.func f), args, tys⟩, ty, pos, aft, gd⟩ :: rest) done := by
  refine ⟨x, fun e a w S K' Q r hS hk => ?_, k⟩
  have r' : Rel X n e ⟨availL done aft.toList base, c⟩ a w := r.less hS (fun h => h)
  rw [if_pos (guardA_sound r' hg)]
  refine .inl ?_
  unfold Oper.wp
  rw [run_call hf.1 a.eval rfl w, Oper.upon_enter]
  have h1 := RepT.toI avs himm (opds_sound r' ha)
  rw [map_eval]
  have hpp := pickA_perm hp
  have hd2 := (r.heap.perm hpp).absOK
  refine (hf.2 e.G w _ ⟨r.im, r.mz⟩ h1 hd2.1).mono ?_
  rintro en w' ⟨rv, cv, cs', G', ⟨rfl, rfl⟩, rfl, g1, g2, g3, g4, g5, g6, o1, o2, o3, o4, o5⟩
  have r2 := r.swapAbs (st := ⟨S, c⟩) hpp g2 g4 g3 g5 g6 ⟨o1, o2, o3⟩ o4 o5
  have r3 : Rel X n ⟨G', e.μ, e.hd⟩ ⟨S, c⟩ a w' := { r2 with heap := r2.heap.perm hpp.symm }
  exact hk _ _ _ (r3.put hd (RepI.toRep (e := ⟨G', e.μ, e.hd⟩) rv g1))

def writeAt (cur : Array Value) : Nat → List Value → Array Value
  | _, [] => cur
  | o, v :: vs => writeAt (cur.setIfInBounds o v) (o + 1) vs
theorem writeAt_size : ∀ (vs : List Value) (cur : Array Value) (o : Nat), (writeAt cur o vs).size = cur.size
  | [], cur, o => rfl
  | v :: vs, cur, o => by simp only [writeAt]; rw [writeAt_size vs]; simp
theorem writeAt_get : ∀ (vs : List Value) (cur : Array Value) (o j : Nat), o + vs.length ≤ cur.size → (writeAt cur o vs)[j]? = if o ≤ j ∧ j < o + vs.length then vs[j - o]? else cur[j]?
  | [], cur, o, j, _ => by simp only [writeAt, List.length_nil]; rw [if_neg (by omega)]
  | v :: vs, cur, o, j, h => by
    simp only [List.length_cons] at h
    simp only [writeAt]
    rw [writeAt_get vs _ (o + 1) j (by simp; omega)]
    simp only [List.length_cons]
    by_cases h1 : j = o
    · subst h1
      rw [if_neg (by omega), if_pos (by omega), Nat.sub_self, List.getElem?_cons_zero, Array.getElem?_setIfInBounds_self_of_lt (by omega)]
    · by_cases h2 : o + 1 ≤ j ∧ j < o + 1 + vs.length
      · rw [if_pos h2, if_pos (by omega)]
        obtain ⟨q, rfl⟩ : ∃ q, j = o + 1 + q := ⟨j - (o + 1), by omega⟩
        rw [show o + 1 + q - (o + 1) = q by omega, show o + 1 + q - o = q + 1 by omega]
        simp
      · rw [if_neg h2, if_neg (by omega)]
        rw [Array.getElem?_setIfInBounds_ne (Ne.symm h1)]

theorem setCells_heap : ∀ (vs : List Value) (b o : Nat) (w : World) (cur : Array Value) (t : TypeId) (fz : Nat × Nat), w.heap[b]? = some (.cells cur t fz) → (w.setCells b o vs).heap[b]? = some (.cells (writeAt cur o vs) t fz)
  | [], b, o, w, cur, t, fz, h => h
  | v :: vs, b, o, w, cur, t, fz, h => by
    simp only [World.setCells, writeAt]
    exact setCells_heap vs b (o + 1) _ _ t fz (setCell_heap h)
theorem setCells_other : ∀ (vs : List Value) (b o k : Nat) (w : World), k ≠ b → (w.setCells b o vs).heap[k]? = w.heap[k]?
  | [], b, o, k, w, h => rfl
  | v :: vs, b, o, k, w, h => by
    simp only [World.setCells]
    rw [setCells_other vs b (o + 1) k _ h, setCell_other h]
theorem setCells_misc : ∀ (vs : List Value) (b o : Nat) (w : World), (w.setCells b o vs).heap.size = w.heap.size ∧ (w.setCells b o vs).os = w.os ∧ (w.setCells b o vs).tape = w.tape ∧ (w.setCells b o vs).output = w.output
  | [], b, o, w => ⟨rfl, rfl, rfl, rfl⟩
  | v :: vs, b, o, w => by
    simp only [World.setCells]
    obtain ⟨h1, h2, h3, h4⟩ := setCells_misc vs b (o + 1) (w.setCell ⟨b, o, none⟩ v)
    exact ⟨by rw [h1, setCell_size], h2, h3, h4⟩

end
end Go.Sy

namespace Go.Sy
open Go.RowKit

section
variable {P : Program} {T : Tab} {X : Ctx P T} {n : Nat} {e : Env} {st : St} {a : Act} {w : World} {ops : Array Oper} {K : St → Prop}

theorem D_X {base : List (Nat × AV)} {c : List Ch} {o : Oper} {rest : List Oper} {done : Done} (x : AV) (h : StepX X n ops pl0 (availL done o.after.toList base) c c 0 o x) (k : SymD X n ops base c K rest (done ++ [(o.dst, x)])) : SymD X n ops base c K (o :: rest) done := by
  refine ⟨x, fun e a w S K' Q r hS hk => ?_, k⟩
  exact h e a w S K' Q r hS (fun _ _ _ q hq => by cases hq) (fun e' a' w' S' r' hu => hk e' a' w' (r'.less (fun i y hy => by
    cases hd : o.dst with
    | none =>
      rw [hd] at hy
      exact hu.2.1 i y (by rw [hd]; intro h; cases h) hy (fun q hq => by cases hq)
    | some d =>
      rw [hd] at hy
      simp only [putS] at hy
      rw [get_cons] at hy
      by_cases hdi : d = i
      · rw [if_pos hdi] at hy; cases hy; subst hdi; exact hu.1 d hd
      · rw [if_neg hdi] at hy
        exact hu.2.1 i y (by rw [hd]; intro h; cases h; exact hdi rfl) hy (fun q hq => by cases hq)) (fun h => h)))

theorem X_sliceTo {p : Pl} {t el sz0 b0 : Nat} {ag0 : Bool} {z0 : List Value} {ti : TI} {x hi : Operand} {g o m c j : Nat} {kk : IntKind} {d : Option Nat} {ty : TypeId} {pos : String} {aft : Array Edge} {gd : Option (Nat × Bool)} {q : Nat} {Si : List (Nat × AV)} {cs : List Ch}
    (hTs : T t = some ⟨sz0, b0, ag0, z0, .slice el⟩) (hTe : T el = some ti) (hg : guardA ops ⟨Si, cs⟩ ⟨d, .slice t x none (some hi) none, ty, pos, aft, gd⟩ = some true) (hx : opd Si x = some (.v (HO g o m c))) (hhi : opd Si hi = some (.v (.int kk (j : Nat)))) (hd : dstOK n d = true)
    (hj : j ≤ m) (hc : m ≤ c) : StepX X n ops p Si cs cs q ⟨d, .slice t x none (some hi) none, ty, pos, aft, gd⟩ (.v (HO g o j c)) := by
  have h := X_slice (X := X) (p := p) (q := q) (i := 0) (j := (j : Int)) hTs hTe hg hx rfl (by simp only [bndA, hhi]) hd (by omega) (by omega) (by omega) hc
  have e : (if c - (0 : Int).toNat = 0 then o else o + (0 : Int).toNat * ti.size) = o := by split <;> simp
  rw [e] at h
  simpa using h
theorem X_sliceFrom {p : Pl} {t el sz0 b0 : Nat} {ag0 : Bool} {z0 : List Value} {ti : TI} {x lo : Operand} {g o m c i : Nat} {kk : IntKind} {d : Option Nat} {ty : TypeId} {pos : String} {aft : Array Edge} {gd : Option (Nat × Bool)} {q : Nat} {Si : List (Nat × AV)} {cs : List Ch}
    (hTs : T t = some ⟨sz0, b0, ag0, z0, .slice el⟩) (hTe : T el = some ti) (hg : guardA ops ⟨Si, cs⟩ ⟨d, .slice t x (some lo) none none, ty, pos, aft, gd⟩ = some true) (hx : opd Si x = some (.v (HO g o m c))) (hlo : opd Si lo = some (.v (.int kk (i : Nat)))) (hd : dstOK n d = true)
    {r : Nat} (hi : i ≤ m) (hc : m ≤ c) (hr : m - i = r) : StepX X n ops p Si cs cs q ⟨d, .slice t x (some lo) none none, ty, pos, aft, gd⟩ (.v (HO g (if c - i = 0 then o else o + i * ti.size) r (c - i))) := by
  subst hr
  have h := X_slice (X := X) (p := p) (q := q) (i := (i : Int)) (j := (m : Int)) hTs hTe hg hx (by simp only [bndA, hlo]) rfl hd (by omega) (by omega) (by omega) hc
  simpa using h
def nthN : Nat → List Ch → Option (Ch × List Ch)
  | 0, x :: r => some (x, r)
  | i + 1, c :: r => match nthN i r with
    | some (A, r') => some (A, c :: r')
    | none => none
  | _, [] => none
def pickN : List Nat → List Ch → Option (List Ch × List Ch)
  | [], c => some ([], c)
  | i :: is, c => match nthN i c with
    | some (A, c') => (match pickN is c' with
      | some (As, r) => some (A :: As, r)
      | none => none)
    | none => none
theorem nthN_perm : ∀ {i : Nat} {c r : List Ch} {A : Ch}, nthN i c = some (A, r) → c.Perm (A :: r)
  | 0, [], r, A, h => by simp [nthN] at h
  | 0, x :: c, r, A, h => by
    simp only [nthN, Option.some.injEq, Prod.mk.injEq] at h
    obtain ⟨rfl, rfl⟩ := h
    exact .refl _
  | i + 1, [], r, A, h => by simp [nthN] at h
  | i + 1, x :: c, r, A, h => by
    simp only [nthN] at h
    split at h
    · rename_i A' r' hh
      simp only [Option.some.injEq, Prod.mk.injEq] at h
      obtain ⟨rfl, rfl⟩ := h
      exact ((nthN_perm hh).cons x).trans (.swap _ _ _)
    · cases h
theorem pickN_perm : ∀ {is : List Nat} {c r : List Ch} {As : List Ch}, pickN is c = some (As, r) → c.Perm (As ++ r)
  | [], c, r, As, h => by
    simp only [pickN, Option.some.injEq, Prod.mk.injEq] at h
    obtain ⟨rfl, rfl⟩ := h
    exact .refl _
  | i :: is, c, r, As, h => by
    simp only [pickN] at h
    split at h
    · rename_i A c' hh
      split at h
      · rename_i As' r' hh2
        simp only [Option.some.injEq, Prod.mk.injEq] at h
        obtain ⟨rfl, rfl⟩ := h
        exact (nthN_perm hh).trans ((pickN_perm hh2).cons A)
      · cases h
    · cases h
theorem Le.pick (is : List Nat) {s s2 : List (Nat × AV)} {c c2 cr : List Ch} (hs : subS s2 s) (h : pickN is c = some (c2, cr)) : Le X n ⟨s, c⟩ ⟨s2, c2⟩ :=
  Le.perm cr hs ((pickN_perm h).trans List.perm_append_comm)
theorem any_of_DU {base : List (Nat × AV)} {c : List Ch} {D : Done} {Q : QX X} {m f : Nat} (ht : tailB ops f m = true) (hD : D.length = m)
    (hstep : ∀ i o, i < m → ops[i]? = some o → ∃ x, D[i]? = some (o.dst, x) ∧ StepD X n ops (availL (D.take i) o.after.toList base) c o x)
    (hedge : ∀ i o, ops[i]? = some o → ∀ e ∈ o.after, Region.binds .any e = true → e.on < i)
    (hdist : ∀ (i j : Nat) o o' d, i < m → j < m → ops[i]? = some o → ops[j]? = some o' → o.dst = some d → o'.dst = some d → i = j)
    (hbase : ∀ (i : Nat) o d, i < m → ops[i]? = some o → o.dst = some d → get base d = none)
    (hfin : ∀ e a w, Rel X n e ⟨finS base D, c⟩ a w → wpList P ops Q (ops.toList.drop m) a w) :
    ∀ (fuel : Nat) (listed : Array Bool) (a : Act) (w : World) (e : Env) (S : List (Nat × AV)), listed.size = ops.size → listed.toList.count false = fuel → Rel X n e ⟨S, c⟩ a w →
      (∀ j, m ≤ j → listed.getD j false = false) → ClosedL ops listed →
      (∀ k y, get base k = some y → get S k = some y) → (∀ (i : Nat) d x, listed.getD i false = true → D[i]? = some (some d, x) → get S d = some x) →
      wpAny P .any ops Q fuel listed a w := by
  have ht' := ht
  unfold tailB at ht'
  simp only [Bool.and_eq_true, List.all_eq_true, List.mem_range, Array.length_toList] at ht'
  obtain ⟨⟨hm, hcov⟩, hch⟩ := ht'
  have hm' : m < ops.size := by have h := hm; simp [Nat.blt] at h; omega
  have cnt : ∀ (l : List Bool) (k : Nat), k ≤ l.length → (∀ j, j < l.length → (l[j]? = some true ↔ j < k)) → l.count false + k = l.length := by
    intro l
    induction l with
    | nil => intro k hk _; simp at hk; simp [hk]
    | cons b l ih =>
      intro k hk h
      cases k with
      | zero =>
        have hb : b = false := by
          have := h 0 (by simp)
          cases b
          · rfl
          · simp at this
        subst hb
        have := ih 0 (Nat.zero_le _) (fun j hj => by have := h (j + 1) (by simpa using hj); simpa using this)
        simp at this ⊢; omega
      | succ k =>
        have hb : b = true := by
          have := h 0 (by simp)
          simpa using this
        subst hb
        have := ih k (by simpa using hk) (fun j hj => by have := h (j + 1) (by simpa using hj); simpa using this)
        simp at this ⊢; omega
  intro fuel
  induction fuel with
  | zero =>
    intro listed a w e S hsz hc r hge hcl hb hs
    exfalso
    have h1 := hge m (Nat.le_refl _)
    have hls : m < listed.size := by omega
    have : false ∈ listed.toList := by
      simp [hls] at h1
      exact List.mem_iff_getElem.2 ⟨m, by simpa using hls, by simpa using h1⟩
    have := List.count_pos_iff.2 this
    omega
  | succ fuel ih =>
    intro listed a w e S hsz hc r hge hcl hb hs
    by_cases hall : ∀ j, j < m → listed.getD j false = true
    · -- all that is drawn is done
      have hlt : ∀ j, j < ops.size → (listed.getD j false = true ↔ j < m) := fun j hj => by
        constructor
        · intro h
          rcases Nat.lt_or_ge j m with h1 | h1
          · exact h1
          · rw [hge j h1] at h; cases h
        · exact hall j
      have hcount : listed.toList.count false + m = ops.size := by
        have := cnt listed.toList m (by simp; omega) (fun j hj => by
          have hjl : j < listed.size := by simpa using hj
          have := hlt j (by omega)
          simp [hjl] at this ⊢
          exact this)
        simpa [hsz] using this
      refine any_tail ht hedge (fuel + 1) m listed a w (by omega) (Nat.le_refl _) hsz hlt ?_
      refine hfin e a w (r.less (fun k y hk => ?_) id)
      rcases finS_get hk with ⟨i, hi⟩ | h
      · have hil : i < D.length := by
          rcases Nat.lt_or_ge i D.length with h | h
          · exact h
          · rw [List.getElem?_eq_none h] at hi; cases hi
        exact hs i k y (hall i (by omega)) hi
      · exact hb k y h
    -- what may come up now is drawn
    have hlow : ∀ i ∈ Region.ready .any ops listed, i < m := by
      intro i hi
      rw [mem_ready] at hi
      obtain ⟨h0, o, ho, hpre⟩ := hi
      rcases Nat.lt_or_ge i m with h | h
      · exact h
      · exfalso
        have hlt : i < ops.size := (Array.getElem?_eq_some_iff.1 ho).1
        rcases Nat.eq_or_lt_of_le h with h | h
        · subst h
          refine hall (fun j hj => ?_)
          have hc := hcov j hj
          rw [List.contains_iff_mem] at hc
          refine ancs_listed hcl f m (fun q hq => ?_) j hc
          obtain ⟨o', ho', ed, he, hbb, rfl⟩ := mem_preds hq
          rw [ho] at ho'; cases ho'
          exact hpre ed he hbb
        · have hc := hch (i - m - 1) (by omega)
          rw [show m + 1 + (i - m - 1) = i by omega, show m + (i - m - 1) = i - 1 by omega, List.contains_iff_mem] at hc
          obtain ⟨o', ho', ed, he, hbb, hon⟩ := mem_preds hc
          rw [ho] at ho'; cases ho'
          have := hpre ed he hbb
          rw [hon, hge (i - 1) (by omega)] at this
          cases this
    refine ⟨fun hr => ?_, fun i hi => ?_⟩
    · exfalso
      refine hall (fun j => ?_)
      induction j using Nat.strongRecOn with
      | ind j ihj =>
        intro hj
        cases hl : listed.getD j true with
        | true =>
          have : j < listed.size := by omega
          simp [this] at hl ⊢
          exact hl
        | false =>
          exfalso
          have hmem : j ∈ Region.ready .any ops listed := by
            rw [mem_ready]
            refine ⟨hl, ops[j], by simp [show j < ops.size by omega], fun e he hbb => ?_⟩
            have h1 := hedge j ops[j] (by simp [show j < ops.size by omega]) e he hbb
            exact ihj e.on h1 (by omega)
          rw [hr] at hmem; cases hmem
    · have him := hlow i hi
      rw [mem_ready] at hi
      obtain ⟨h0, o, ho, hpre⟩ := hi
      have hlt : i < ops.size := (Array.getElem?_eq_some_iff.1 ho).1
      have hlf : listed.toList[i]? = some false := by
        have : i < listed.size := by omega
        simp [this] at h0 ⊢
        exact h0
      obtain ⟨x, hx, hst⟩ := hstep i o him ho
      unfold wpOp
      simp only [ho]
      refine hst e a w S _ Q r (fun k y hk => ?_) (fun e' a' w' r' => ?_)
      · rcases availL_get hk with ⟨ed, h1, h2, h3⟩ | h
        · have h4 : D[ed.on]? = some (some k, y) := by
            rw [List.getElem?_take] at h3
            split at h3
            · exact h3
            · cases h3
          exact hs ed.on k y (hpre ed (by simpa using h1) h2) h4
        · exact hb k y h
      · refine ih (listed.setIfInBounds i true) a' w' e' _ (by simpa using hsz) ?_ r' (fun j hj => ?_) (fun j oj hj hoj ed he hbb => ?_) (fun k y hk => ?_) (fun j d y hj hy => ?_)
        · rw [Array.toList_setIfInBounds]
          have hlt' : i < listed.toList.length := by simpa using (by omega : i < listed.size)
          have hg : listed.toList[i] = false := by
            have := List.getElem?_eq_getElem hlt'
            rw [hlf] at this
            simpa using this.symm
          rw [List.count_set hlt', hg, hc]
          simp
        · rw [getD_set_ne false (by omega : i ≠ j)]
          exact hge j hj
        · by_cases hei : ed.on = i
          · have hls : i < listed.size := by omega
            rw [hei]; simp [hls]
          · rw [getD_set_ne false (Ne.symm hei)]
            by_cases hji : j = i
            · subst hji
              rw [ho] at hoj; cases hoj
              exact hpre ed he hbb
            · rw [getD_set_ne false (Ne.symm hji)] at hj
              exact hcl j oj hj hoj ed he hbb
        · cases hd : o.dst with
          | none => exact hb k y hk
          | some d =>
            simp only [putS]
            rw [get_cons]
            by_cases h : d = k
            · subst h
              rw [hbase i o d him ho hd] at hk
              cases hk
            · rw [if_neg h]; exact hb k y hk
        · by_cases hji : j = i
          · subst hji
            rw [hx] at hy
            simp only [Option.some.injEq, Prod.mk.injEq] at hy
            rw [hy.1, hy.2]
            simp only [putS]
            rw [get_cons, if_pos rfl]
          · rw [getD_set_ne false (Ne.symm hji)] at hj
            have hold := hs j d y hj hy
            cases hd : o.dst with
            | none => exact hold
            | some d' =>
              simp only [putS]
              rw [get_cons]
              by_cases h : d' = d
              · exfalso
                subst h
                have hjl : j < m := by
                  rw [← hD]
                  rcases Nat.lt_or_ge j D.length with h | h
                  · exact h
                  · rw [List.getElem?_eq_none h] at hy; cases hy
                obtain ⟨x', hx', _⟩ := hstep j ops[j] hjl (by simp [show j < ops.size by omega])
                rw [hx'] at hy
                simp only [Option.some.injEq, Prod.mk.injEq] at hy
                exact hji (hdist j i ops[j] o d' hjl him (by simp [show j < ops.size by omega]) ho hy.1 hd)
              · rw [if_neg h]; exact hold

def edgesB (ops : Array Oper) : Bool := (List.range ops.toList.length).all fun i => (predsB ops i).all fun j => Nat.blt j i
theorem C_drawU (f m : Nat) {id : Nat} {Q : Exit → St → Prop} {s base : List (Nat × AV)} {c : List Ch} (hb : eraseD (ops.toList.take m) s = some base) (hchk : chkD base 0 [] (ops.toList.take m) = true) (hed : edgesB ops = true)
    (ht : tailB ops f m = true) (h : SymD X n ops base c (fun s => SymO X n ops (ops.toList.drop m) s (fun s => Q .normal s)) (ops.toList.take m) []) : SymC X n (.region id ops true) ⟨s, c⟩ Q := by
  intro e a w r
  have hbs : ∀ k y, get base k = some y → get s k = some y := fun k y hk => eraseD_get hb hk
  obtain ⟨D, _, hl, hK, hs⟩ := h.plan
  obtain ⟨c1, c2⟩ := chkD_spec hchk
  have hbel : Below w.heap.size w { w with drawn := w.drawn + 1 } := ⟨rfl, rfl, rfl, Nat.le_refl _, fun _ _ => rfl⟩
  have hm : m < ops.size := by
    unfold tailB at ht
    simp only [Bool.and_eq_true] at ht
    have h1 := ht.1.1
    simp [Nat.blt] at h1; omega
  have htk : ∀ (i : Nat) (o : Oper), i < m → ops[i]? = some o → (ops.toList.take m)[i]? = some o := fun i o him ho => by rw [List.getElem?_take, if_pos him]; simpa using ho
  refine wp_region_any X.wide ?_
  refine any_of_DU (X := X) (Q := concX X n Q) (n := n) (base := base) (c := c) (D := D) (f := f) (m := m) ht (by simp at hl; omega) (fun i o him ho => ?_) (fun i o ho => ?_) (fun i j o o' d him hjm hi hj => c2 i j o o' d (htk i o him hi) (htk j o' hjm hj)) (fun i o d him ho hd => ((c1 i o (htk i o him ho)).2 d hd).1)
    (fun e a w r => hK e a w (concX X n Q) r fun e' st' _ _ hk hr => ⟨e', st', hr, hk⟩) _ _ a _ e base (by simp) (by simp) ((r.below hbel).less hbs (fun h => h)) (fun j hj => ?_) (fun j o hj => ?_) (fun k y hk => hk) (fun i d x hi => ?_)
  · have := hs i o (htk i o him ho)
    simpa using this
  · intro ed he hb'
    have hi : i < ops.toList.length := by
      have := (Array.getElem?_eq_some_iff.1 ho).1
      simpa using this
    have h1 := List.all_eq_true.1 hed i (List.mem_range.2 hi)
    have h2 := List.all_eq_true.1 h1 ed.on (by
      unfold predsB
      rw [show ops.toList[i]? = some o by simpa using ho]
      exact List.mem_map.2 ⟨ed, List.mem_filter.2 ⟨by simpa using he, hb'⟩, rfl⟩)
    simp [Nat.blt] at h2; omega
  · rcases Nat.lt_or_ge j ops.size with h | h
    · simp [h]
    · simp [Nat.not_lt.2 h]
  · rcases Nat.lt_or_ge j ops.size with h | h
    · simp [h] at hj
    · simp [Nat.not_lt.2 h] at hj
  · rcases Nat.lt_or_ge i ops.size with h | h
    · simp [h] at hi
    · simp [Nat.not_lt.2 h] at hi
end
end Go.Sy

namespace Go.Sy
open Go.RowKit

section
variable {P : Program} {T : Tab} {X : Ctx P T} {n : Nat} {e : Env} {st : St} {a : Act} {w : World} {ops : Array Oper} {K : St → Prop}

end
end Go.Sy

namespace Go.Sy
open Go.RowKit Go.MapKept

section
variable {P : Program} {T : Tab} {X : Ctx P T} {n : Nat} {e : Env} {st : St} {a : Act} {w : World} {ops : Array Oper} {K : St → Prop}

def repA (x : AV) (v : Value) : Abs := ⟨[], fun G _ => RepI G x v, fun hG _ h => RepI.mono hG x h⟩

theorem Le.fr (q : Nat) {A A' : Abs} {s : List (Nat × AV)} {c cr : List Ch} (hp : nthA q c = some (A, cr)) (hbs : A'.bs = [])
    (h : ∀ (G : IM) (w : World), A.ok G w → (∀ b ∈ A.bs, b < w.heap.size ∧ G.free b) → ∃ G' : IM, IM.le G G' ∧ (∀ b o v, G' b o = some v → G b o = some v ∨ (b ∈ A.bs ∧ w.cell? ⟨b, o, none⟩ = some v)) ∧ (∀ b x, G'.m b = some x → G.m b = some x ∨ (b ∈ A.bs ∧ MzOK G' w b x)) ∧ A'.ok G' w) :
    Le X n ⟨s, c⟩ ⟨s, .abs A' :: cr⟩ := fun e a w r => by
  have hh := (r.heap.perm (by simpa using nthA_perm hp : c.Perm ([A].map Ch.abs ++ cr))).absOK
  have hb1 : blocks [A] = A.bs := by simp [blocks]
  have hb2 : blocks [A'] = [] := by simp [blocks, hbs]
  obtain ⟨⟨k1, k2, k3⟩, k4⟩ := hh
  rw [hb1] at k2 k3 k4
  obtain ⟨G', g1, g2, g3, g4⟩ := h e.G w (k1 A (by simp)) k3
  refine ⟨⟨G', e.μ, e.hd⟩, r.swapAbs (st := ⟨s, c⟩) (As := [A]) (As' := [A']) (G' := G') (w' := w) (by simpa using nthA_perm hp) g1 ⟨?_, ?_⟩ ⟨?_, ?_⟩ ⟨?_, by rw [hb2]; simp, by rw [hb2]; simp⟩ (by rw [hb2]; simp) ⟨rfl, rfl, rfl⟩ (Nat.le_refl _) (fun _ _ _ _ => rfl)⟩
  · intro b o v hv
    rcases g2 b o v hv with h | h
    · exact r.im b o v h
    · exact h.2
  · intro b x hx
    rcases g3 b x hx with h | h
    · refine (r.mz b x h).keep g1 rfl (fun o v hv => ?_)
      rcases g2 b o v hv with k | k
      · exact ⟨v, k⟩
      · have := (k3 b k.1).2.2; rw [this] at h; cases h
    · exact h.2
  · intro b o v hv
    rcases g2 b o v hv with h | h
    · exact .inl h
    · exact .inr (.inr (by rw [hb1]; exact h.1))
  · intro b x hx
    rcases g3 b x hx with h | h
    · exact .inl h
    · exact .inr (.inr (by rw [hb1]; exact h.1))
  · intro B hB
    simp only [List.mem_singleton] at hB
    subst hB; exact g4

theorem Le.frSlO (q : Nat) {h : Value} {t : TypeId} {esz m : Nat} {cells : List AV} {s : List (Nat × AV)} {c cr : List Ch} (row : Nat → List AV) (hp : nthA q c = some (slO h t esz cells, cr)) (hlen : cells.length = m * esz) (hpos : 0 < esz)
    (hrow : ∀ i, i < m → row i = (cells.drop (i * esz)).take esz) : Le X n ⟨s, c⟩ ⟨s, .abs (repA (.sl m esz row) h) :: cr⟩ := by
  refine Le.fr q hp rfl ?_
  rintro G w ⟨m', h1, h2⟩ hb
  obtain rfl : m' = m := by
    rw [h1] at hlen
    exact Nat.eq_of_mul_eq_mul_right hpos hlen
  rcases h2 with ⟨rfl, rfl⟩ | ⟨g, o, cc, cur, rfl, k1, k2, k3, k4, k5⟩
  · refine ⟨G, IM.le_refl _, fun _ _ _ h => .inl h, fun _ _ h => .inl h, ?_⟩
    simp only [repA, RepI]
    exact ⟨none, 0, rfl, Nat.le_refl _, .inl trivial⟩
  · have hf := hb g (by simp [slO, Value.ownBlock])
    let G' : IM := ⟨fun b' o' => if b' = g then cur[o']? else G b' o', G.m⟩
    have hle : IM.le G G' := by
      refine ⟨?_, fun _ _ h => h⟩
      intro b' o' v hv
      show (if b' = g then cur[o']? else G b' o') = some v
      rw [if_neg]
      · exact hv
      · rintro rfl; rw [hf.2.1 o'] at hv; cases hv
    refine ⟨G', hle, ?_, fun _ _ h => .inl h, ?_⟩
    · intro b' o' v hv
      have hv' : (if b' = g then cur[o']? else G b' o') = some v := hv
      split at hv'
      · rename_i hbb; subst hbb
        refine .inr ⟨by simp [slO, Value.ownBlock], ?_⟩
        rw [cell_of_row w b' o' cur t (0, 0) k3]; exact hv'
      · exact .inl hv'
    · simp only [repA, RepI]
      refine ⟨some ⟨g, o, none⟩, cc, rfl, k1, .inr ⟨g, o, rfl, fun i hi => CellsAt.mk (fun j c hc => ?_)⟩⟩
      rw [hrow i hi] at hc
      have hj : j < esz := by
        rcases Nat.lt_or_ge j esz with h | h
        · exact h
        · rw [List.getElem?_eq_none (by simp; omega)] at hc; cases hc
      rw [List.getElem?_take, if_pos hj, List.getElem?_drop] at hc
      obtain ⟨z, z1, z2, z3⟩ := k5.get _ c hc
      have hlt : i * esz + j < m' * esz := by
        have : (i + 1) * esz ≤ m' * esz := Nat.mul_le_mul_right _ hi
        rw [Nat.add_mul] at this; omega
      rw [List.getElem?_take, if_pos hlt, List.getElem?_drop] at z1
      refine ⟨z, ?_, RepI.mono hle _ z2, z3⟩
      show (if g = g then cur[o + i * esz + j]? else G g (o + i * esz + j)) = some z
      rw [if_pos rfl, Nat.add_assoc]; simpa using z1

theorem Le.slotA (q i : Nat) {x : AV} {v : Value} {s : List (Nat × AV)} {c cr : List Ch} (hi : get s i = some (.v v)) (hp : nthA q c = some (repA x v, cr)) : Le X n ⟨s, c⟩ ⟨(i, x) :: s, c⟩ := fun e a w r => by
  obtain ⟨hok, _⟩ := r.heap.nth hp
  obtain ⟨u, h1, h2⟩ := r.slots i _ hi
  simp only [Rep] at h2
  subst h2
  refine ⟨e, { r with slots := fun j y hy => ?_ }⟩
  rw [get_cons] at hy
  by_cases hj : i = j
  · subst hj
    rw [if_pos rfl] at hy; cases hy
    exact ⟨_, h1, RepI.toRep x hok⟩
  · rw [if_neg hj] at hy
    exact r.slots j y hy

abbrev mapE {α : Type} (kv : α → Value) (es : List (α × AV)) : AV := .mapI (es.map fun q => kv q.1) (es.map (·.2))

end
end Go.Sy

namespace Go.Sy
open Go.RowKit

section
variable {P : Program} {T : Tab} {X : Ctx P T} {n : Nat} {e : Env} {st : St} {a : Act} {w : World} {ops : Array Oper} {K : St → Prop}

theorem O_makeN {t el : TypeId} {by_ sz0 b0 : Nat} {ag0 ag1 : Bool} {z0 : List Value} {zc : Value} {d1 : TD} {lo co : Operand} {d m : Nat} {ty : TypeId} {pos : String} {aft : Array Edge} {rest : List Oper} {s : List (Nat × AV)} {c : List Ch}
    (hTs : T t = some ⟨sz0, b0, ag0, z0, .slice el⟩) (hTe : T el = some ⟨1, by_, ag1, [zc], d1⟩) (hlo : opd s lo = some (I64 (m : Nat))) (hco : opd s co = some (I64 (m : Nat))) (hd : Nat.blt d n = true)
    (hb : by_ * m ≤ 281474976710656) (hm : m ≤ maxLen)
    (k : ∀ b, SymO X n ops rest ⟨(d, .v (HO b 0 m m)) :: s, .abs (slO (HO b 0 m m) el 1 (List.replicate m (.v zc))) :: c⟩ K) : SymO X n ops (⟨some d, .makeSlice t lo co, ty, pos, aft, none⟩ :: rest) ⟨s, c⟩ K := by
  intro e a w Q r hq
  unfold wpList
  rw [if_pos (guardA_sound r (o := ⟨some d, .makeSlice t lo co, ty, pos, aft, none⟩) (b := true) rfl)]
  refine .inl ?_
  have h1 := opd_sound r hlo
  have h2 := opd_sound r hco
  simp only [Rep] at h1 h2
  obtain ⟨pi, z, i1, i2, i3, i4, i5, i6, i7⟩ := (X.ok _ _ hTe).info
  obtain ⟨dd, e1, _, e3⟩ := (X.ok _ _ hTs).desc
  simp only [TDOK] at e3
  subst e3
  have hm63 : (m : Int) ≤ 9223372036854775807 := by simp [maxLen] at hm; omega
  have hbb : (pi.bytes : Int) * (m : Int) ≤ 281474976710656 := by
    have h : ((by_ * m : Nat) : Int) ≤ 281474976710656 := by omega
    rw [i3]; rwa [Int.natCast_mul] at h
  have hrun := run_make (P := P) w t el pi z e1 i1 i4 .i64 .i64 m m (by omega) (Int.le_refl _) hbb hm63
  simp only [Int.toNat_natCast] at hrun
  unfold Oper.wp
  have hrun2 : (execOp a.eval ⟨some d, .makeSlice t lo co, ty, pos, aft, none⟩).run P w = .ok (.value (HO w.heap.size 0 m m)) (w.alloc (.cells (madeCells z.cells (m * pi.size)) el)) := by
    simp only [execOp, h1, h2, Sem.run_bind, hrun, Result.andThen_ok, Sem.run_pure]
  rw [hrun2]
  have hz : z.cells = #[zc] := by apply Array.ext'; simpa using i5
  have hzc : zc.oneCell' = true := by simpa using i6
  have hmc : madeCells z.cells (m * pi.size) = Array.replicate m zc := by
    rw [hz, i2, Nat.mul_one]
    apply Array.ext
    · simp [madeCells]
    · intro i hi1 hi2
      simp [madeCells, Nat.mod_one]
  rw [hmc]
  have r2 := r.allocAbs (A := slO (HO w.heap.size 0 m m) el 1 (List.replicate m (.v zc))) (o := .cells (Array.replicate m zc) el) rfl (by
    refine ⟨m, by simp, .inr ⟨w.heap.size, 0, m, Array.replicate m zc, rfl, Nat.le_refl _, hm, Go.heap_alloc_new w _, by simp, ?_⟩⟩
    refine RepIL.mk (by simp) (fun j cc hcc => ?_)
    rw [List.getElem?_replicate] at hcc
    split at hcc
    · rename_i hj
      simp only [Option.some.injEq] at hcc
      subst hcc
      exact ⟨zc, by simp [List.getElem?_replicate, hj], by simp only [RepI], hzc⟩
    · cases hcc)
  exact k w.heap.size _ _ _ Q (r2.put (x := .v (HO w.heap.size 0 m m)) hd (by simp only [Rep])) hq

end
end Go.Sy

namespace Go.Sy
open Go.RowKit

section
variable {P : Program} {T : Tab} {X : Ctx P T} {n : Nat} {e : Env} {st : St} {a : Act} {w : World} {ops : Array Oper} {K : St → Prop}

theorem O_appendV (q : Nat) {dst : Nat} {so_ xo : Operand} {t ty : TypeId} {pos : String} {aft : Array Edge} {rest : List Oper} {s : List (Nat × AV)} {c cr : List Ch} {h : Value} {el esz m m2 m3 : Nat} {row row2 row3 : Nat → List AV} {by_ : Nat} {sz0 b0 : Nat} {ag0 ag1 : Bool} {z0 z1 : List Value} {d1 : TD}
    (hTs : T t = some ⟨sz0, b0, ag0, z0, .slice el⟩) (hTe : T el = some ⟨esz, by_, ag1, z1, d1⟩) (hpos : Nat.blt 0 esz = true)
    (hso : opd s so_ = some (.v h)) (hp : nthA q c = some (vecA h el esz m row, cr)) (hxo : opd s xo = some (.sl m2 esz row2)) (hr2 : ∀ i, i < m2 → (row2 i).length = esz)
    (hd : Nat.blt dst n = true) (hlen : (m + m2) * by_ ≤ 140737488355328) (hlen2 : m + m2 ≤ maxLen)
    (hm3 : m3 = m + m2) (hrow3 : ∀ i, i < m3 → appRow m row row2 i = row3 i)
    (k : ∀ v', (m3 = 0 ∧ v' = .slice none 0 0) ∨ (∃ g cc, v' = HD g m3 cc) → SymO X n ops rest ⟨(dst, .v v') :: s, .abs (vecA v' el esz m3 row3) :: cr⟩ K) :
    SymO X n ops (⟨some dst, .call ⟨.builtin .append, #[so_, xo], #[t, t]⟩, ty, pos, aft, none⟩ :: rest) ⟨s, c⟩ K := by
  subst hm3
  intro e a w Q r hq
  obtain ⟨pi, z, i1, i2, i3, i4, i5, i6, i7⟩ := (X.ok _ _ hTe).info
  obtain ⟨dd, e1, _, e3⟩ := (X.ok _ _ hTs).desc
  simp only [TDOK] at e3
  subst e3
  have hso' := opd_sound r hso
  simp only [Rep] at hso'
  have hzs : z.cells.size = esz := by
    have : z.cells.toList.length = esz := by rw [i5]; exact i7
    simpa using this
  have hpos' : 0 < esz := by have := hpos; simp [Nat.blt] at this; omega
  obtain ⟨⟨xs, g1, g2⟩, hgood, hnd⟩ := r.heap.nth hp
  have hperm : c.Perm ([vecA h el esz m row].map Ch.abs ++ cr) := by simpa using nthA_perm hp
  have hbl : ∀ B : Abs, blocks [B] = B.bs := fun B => by simp [blocks]
  have fin : ∀ (v' : Value) (w' : World) (xs' : List Value), (execOp a.eval ⟨some dst, .call ⟨.builtin .append, #[so_, xo], #[t, t]⟩, ty, pos, aft, none⟩).run P w = .ok (.value v') w' →
      w'.ownsRow 0 el esz v' (m + m2) xs' → RowsL e.G esz (m + m2) row3 xs' →
      (∀ b, b < w.heap.size → b ∉ (vecA h el esz m row).bs → w'.heap[b]? = w.heap[b]?) → (∀ b, v'.ownBlock = some b → b < w'.heap.size ∧ (some b = h.ownBlock ∨ w.heap.size ≤ b)) →
      w'.os = w.os ∧ w'.tape = w.tape ∧ w'.output = w.output → w.heap.size ≤ w'.heap.size → wpList P ops Q (⟨some dst, .call ⟨.builtin .append, #[so_, xo], #[t, t]⟩, ty, pos, aft, none⟩ :: rest) a w := by
    intro v' w' xs' hrun hown hrows hoth hbs' ho hsz
    unfold wpList
    rw [if_pos (by simp [Region.wanted])]
    refine .inl ?_
    unfold Oper.wp
    rw [hrun]
    have hmem : ∀ b ∈ (vecA v' el esz (m + m2) row3).bs, v'.ownBlock = some b := fun b hb => by simpa [vecA] using hb
    have hin : ∀ b, some b = h.ownBlock → b ∈ (vecA h el esz m row).bs := fun b hb => by simp [vecA, ← hb]
    have r2 := r.swapAbs (st := ⟨s, c⟩) (As := [vecA h el esz m row]) (As' := [vecA v' el esz (m + m2) row3]) (G' := e.G) (w' := w') hperm (IM.le_refl _) ⟨?_, ?_⟩ ⟨fun b o v h => .inl h, fun b x h => .inl h⟩ ⟨?_, ?_, ?_⟩ ?_ ho hsz ?_
    · have hsh : (m + m2 = 0 ∧ v' = .slice none 0 0) ∨ (∃ g cc, v' = HD g (m + m2) cc) := by
        rcases hown.2 with ⟨h1, h2⟩ | ⟨g, cap, cur, h1, _⟩
        · exact .inl ⟨h2, h1⟩
        · exact .inr ⟨g, cap, h1⟩
      exact k v' hsh _ _ _ Q (r2.put (x := .v v') (v := v') hd (by simp only [Rep])) hq
    · intro b o v hv
      have h1 := r.im b o v hv
      simp only [World.cell?] at h1 ⊢
      rw [hoth b (r.glt0 _ _ _ hv) (fun hin => by rw [(hgood b hin).2.2.1 o] at hv; cases hv)]
      exact h1
    · exact r.mzKeep (fun b hb hf => hoth b hb (fun hin => hf (hgood b hin).2.2))
    · intro B hB
      simp only [List.mem_singleton] at hB
      subst hB; exact ⟨xs', hown, hrows⟩
    · rw [hbl]
      show (v'.ownBlock.toList).Nodup
      cases v'.ownBlock <;> simp
    · intro b hb
      rw [hbl] at hb
      obtain ⟨h1, h2⟩ := hbs' b (hmem b hb)
      refine ⟨h1, ?_⟩
      rcases h2 with h2 | h2
      · exact (hgood b (hin b h2)).2.2
      · exact r.free h2
    · intro b hb
      rw [hbl] at hb ⊢
      rcases (hbs' b (hmem b hb)).2 with h2 | h2
      · exact .inr (hin b h2)
      · exact .inl h2
    · intro b hb hnin _
      rw [hbl] at hnin
      exact hoth b hb hnin
  have hrowsOut : ∀ {news : List Value}, RowsL e.G esz m2 row2 news → RowsL e.G esz (m + m2) row3 (xs ++ news) := fun hn i hi => by
    rw [← hrow3 i hi]; exact rows_app g1.1 g2 hn i hi
  have hno : ∀ b, b ∉ (vecA h el esz m row).bs → some b ≠ h.ownBlock := fun b hb he => hb (by simp [vecA, ← he])
  rcases src_sl hxo hr2 e a w r with ⟨ad, cc, news, hx, hl, hnews, h1, hrn⟩ | ⟨hm2, cc, hx⟩
  · obtain ⟨v', w', hr, q2, q3, q4⟩ := run_append_own (P := P) w 0 t ty el pi z esz by_ e1 i1 i4 i2 i3 hzs hpos' h m xs g1 ad m2 cc news hl hnews h1 hlen2 hlen (Nat.zero_le _)
    have hrun : (execOp a.eval ⟨some dst, .call ⟨.builtin .append, #[so_, xo], #[t, t]⟩, ty, pos, aft, none⟩).run P w = .ok (.value v') w' := by
      simp only [execOp, resolve, invoke, builtin, Sem.run_bind, Sem.run_pure, Result.andThen_ok, List.map_toArray, List.map_cons, List.map_nil, hso', hx, hr]
    refine fin v' w' (xs ++ news) hrun q2 (hrowsOut hrn) (fun b hb hn => q3.block b hb (fun he => hno b hn he)) (fun b hb => ?_) ⟨q3.os, q3.tape, q3.output⟩ q3.size
    refine ⟨(q2.lt b hb).2, ?_⟩
    simp only at i2 i3
    subst i2 i3
    exact append_block t ty el pi z e1 i1 i4 h m xs g1 ad m2 cc news hl hnews h1 hlen2 hlen hr b hb
  · subst hm2
    have hrun0 := append_none t ty el pi e1 i1 h m xs g1 cc
    have hrun : (execOp a.eval ⟨some dst, .call ⟨.builtin .append, #[so_, xo], #[t, t]⟩, ty, pos, aft, none⟩).run P w = .ok (.value h) w := by
      simp only [execOp, resolve, invoke, builtin, Sem.run_bind, Sem.run_pure, Result.andThen_ok, List.map_toArray, List.map_cons, List.map_nil, hso', hx, hrun0]
    have hrn : RowsL e.G esz 0 row2 ([] : List Value) := fun i hi => by omega
    refine fin h w (xs ++ []) hrun (by simpa using g1) (hrowsOut hrn) (fun _ _ _ => rfl) (fun b hb => ⟨(hgood b (by simp [vecA, hb])).1, .inl hb.symm⟩) ⟨rfl, rfl, rfl⟩ (Nat.le_refl _)

theorem Le.frVec (q : Nat) {h : Value} {t : TypeId} {esz m : Nat} {row : Nat → List AV} {s : List (Nat × AV)} {c cr : List Ch} (row' : Nat → List AV) (hp : nthA q c = some (vecA h t esz m row, cr)) (hrow : ∀ i, i < m → row' i = row i) :
    Le X n ⟨s, c⟩ ⟨s, .abs (repA (.sl m esz row') h) :: cr⟩ := by
  refine Le.fr q hp rfl ?_
  rintro G w ⟨xs, g1, g2⟩ hb
  rcases g1.2 with ⟨rfl, rfl⟩ | ⟨g, cap, cur, rfl, _, hg, hcap, hmax, hcs, htake⟩
  · refine ⟨G, IM.le_refl _, fun _ _ _ h => .inl h, fun _ _ h => .inl h, ?_⟩
    simp only [repA, RepI]
    exact ⟨none, 0, rfl, Nat.le_refl _, .inl trivial⟩
  · have hf := hb g (by simp [vecA, Value.ownBlock])
    let G' : IM := ⟨fun b' o' => if b' = g then cur[o']? else G b' o', G.m⟩
    have hle : IM.le G G' := by
      refine ⟨?_, fun _ _ h => h⟩
      intro b' o' v hv
      show (if b' = g then cur[o']? else G b' o') = some v
      rw [if_neg]
      · exact hv
      · rintro rfl; rw [hf.2.1 o'] at hv; cases hv
    refine ⟨G', hle, ?_, fun _ _ h => .inl h, ?_⟩
    · intro b' o' v hv
      have hv' : (if b' = g then cur[o']? else G b' o') = some v := hv
      split at hv'
      · rename_i hbb; subst hbb
        refine .inr ⟨by simp [vecA, Value.ownBlock], ?_⟩
        rw [cell_of_row w b' o' cur t (0, 0) hg]; exact hv'
      · exact .inl hv'
    · simp only [repA, RepI]
      refine ⟨some ⟨g, 0, none⟩, cap, rfl, hcap, .inr ⟨g, 0, rfl, fun i hi => CellsAt.mk (fun j c hc => ?_)⟩⟩
      rw [hrow i hi] at hc
      obtain ⟨z, z1, z2, z3⟩ := (g2 i hi).get j c hc
      have hj : j < esz := by
        rcases Nat.lt_or_ge j esz with h | h
        · exact h
        · rw [List.getElem?_eq_none (by simp; omega)] at z1; cases z1
      have hlt : i * esz + j < m * esz := by
        have : (i + 1) * esz ≤ m * esz := Nat.mul_le_mul_right _ hi
        rw [Nat.add_mul] at this; omega
      rw [List.getElem?_take, if_pos hj, List.getElem?_drop, ← htake, List.getElem?_take, if_pos hlt] at z1
      refine ⟨z, ?_, RepI.mono hle _ z2, z3⟩
      show (if g = g then cur[0 + i * esz + j]? else G g (0 + i * esz + j)) = some z
      rw [if_pos rfl, Nat.zero_add]; simpa using z1
theorem Le.addVec (t : TypeId) (esz : Nat) (row : Nat → List AV) {s : List (Nat × AV)} {c : List Ch} : Le X n ⟨s, c⟩ ⟨s, .abs (vecA (.slice none 0 0) t esz 0 row) :: c⟩ :=
  Le.addAbs _ rfl (fun _ _ => ⟨[], ⟨by simp, .inl ⟨rfl, rfl⟩⟩, fun i hi => absurd hi (Nat.not_lt_zero _)⟩)
end
end Go.Sy

namespace Go.Sy
open Go.RowKit

section
variable {P : Program} {T : Tab} {X : Ctx P T} {n : Nat} {e : Env} {st : St} {a : Act} {w : World} {ops : Array Oper} {K : St → Prop}

end
end Go.Sy

namespace Go.Sy
open Go.RowKit

section
variable {P : Program} {T : Tab} {X : Ctx P T} {n : Nat} {e : Env} {st : St} {a : Act} {w : World} {ops : Array Oper} {K : St → Prop}

theorem run_ext {f : FuncId} {dst : Option Tmp} {args : Array Operand} {tys : Array TypeId} {ty : TypeId} {pos : String} {aft : Array Edge} {gd : Option (Nat × Bool)} (ρ : Operand → Value) (hρ : ρ (.func f) = .func (.func f) #[] #[]) (w w' : World) {v : Value}
    (h : (callFunc f (args.map ρ)).run P w = .ok (.value v) w') : (execOp ρ ⟨dst, .call ⟨.value (.func f), args, tys⟩, ty, pos, aft, gd⟩).run P w = .ok (.value v) w' := by
  simp only [execOp, resolve, hρ, Deferred.ofValue, Sem.run_bind, Sem.run_pure, Result.andThen_ok, invoke]
  simp [h]

theorem box_cell {G : IM} {b o : Nat} {t : TypeId} {cells : List AV} {v : Value} (hok : (boxA b t cells).ok G w) (hj : cells[o]? = some (.v v)) : w.cell? ⟨b, o, none⟩ = some v ∧ w.frozen? ⟨b, o, none⟩ = false := by
  obtain ⟨arr, h1, h2⟩ := hok
  obtain ⟨z, z1, z2, z3⟩ := h2.get o _ hj
  simp only [RepI] at z2
  subst z2
  exact ⟨by rw [cell_of_row w b o arr t (0, 0) h1]; simpa using z1, by simp [World.frozen?, h1]⟩

theorem X_unsafe (q : Nat) {p : Pl} {src dst' t : TypeId} (hs : P.underlying src = some (.pointer t)) (hdd : P.underlying dst' = some .unsafePointer) (hsz : (P.info? t).map (fun i => decide (i.size = 0)) = some false)
    {x : Operand} {b o : Nat} {T' : TypeId} {cells : List AV} {v : Value} {d : Option Nat} {ty : TypeId} {pos : String} {aft : Array Edge} {gd : Option (Nat × Bool)} {j : Nat} {Si : List (Nat × AV)} {c cr : List Ch}
    (hg : guardA ops ⟨Si, c⟩ ⟨d, .convert src dst' x, ty, pos, aft, gd⟩ = some true) (hx : opd Si x = some (PT b o)) (hp : nthA q c = some (boxA b T' cells, cr)) (hj : cells[o]? = some (.v v)) (hd : dstOK n d = true) :
    StepX X n ops p Si c c j ⟨d, .convert src dst' x, ty, pos, aft, gd⟩ (PT b o) :=
  StepX.val hg hd (fun e a w S r r' => by
    have h1 := opd_sound r' hx
    simp only [Rep] at h1
    have hc := box_cell (r.heap.nth hp).1 hj
    refine ⟨.pointer (some ⟨b, o, none⟩), w, e, ?_, r, by simp only [Rep]⟩
    have := run_convert_to_unsafe (P := P) hs hdd hsz hc.1
    simp only [execOp, h1, Sem.run_bind, this, Result.andThen_ok, Sem.run_pure])
theorem X_aload (q : Nat) {p : Pl} {f : FuncId} {fn : Func} (hf : P.funcs[f]? = some fn) (hname : (fn.name == "runtime.NumGoroutine") = false) (hb : fn.body.isNone = true) (hn : Extern.findNext fn = none) (k : IntKind)
    (he : Extern.find fn = some (Extern.Atomic.loadT (.int k))) {x : Operand} {b o : Nat} {T' : TypeId} {cells : List AV} {y : Int} {d : Option Nat} {tys : Array TypeId} {ty : TypeId} {pos : String} {aft : Array Edge} {gd : Option (Nat × Bool)} {j : Nat} {Si : List (Nat × AV)} {c cr : List Ch}
    (hg : guardA ops ⟨Si, c⟩ ⟨d, .call ⟨.value (.func f), #[x], tys⟩, ty, pos, aft, gd⟩ = some true) (hx : opd Si x = some (PT b o)) (hp : nthA q c = some (boxA b T' cells, cr)) (hj : cells[o]? = some (.v (.int k y))) (hd : dstOK n d = true) :
    StepX X n ops p Si c c j ⟨d, .call ⟨.value (.func f), #[x], tys⟩, ty, pos, aft, gd⟩ (.v (.int k y)) :=
  StepX.val hg hd (fun e a w S r r' => by
    have h1 := opd_sound r' hx
    simp only [Rep] at h1
    have hc := box_cell (r.heap.nth hp).1 hj
    refine ⟨.int k y, w, e, run_ext a.eval rfl w w ?_, r, by simp only [Rep]⟩
    have := run_call_load (P := P) hf hname hb hn k he hc.1
    simpa [h1] using this)
theorem box_write (r : Rel X n e ⟨st.s, st.c⟩ a w) {q b o : Nat} {T' : TypeId} {cells : List AV} {u v : Value} {cr : List Ch} (hp : nthA q st.c = some (boxA b T' cells, cr)) (hj : cells[o]? = some (.v u)) (hv : v.oneCell' = true) :
    Rel X n e ⟨st.s, .abs (boxA b T' (cells.set o (.v v))) :: cr⟩ a (w.setCell ⟨b, o, none⟩ v) := by
  have hlt : o < cells.length := by
    rcases Nat.lt_or_ge o cells.length with h | h
    · exact h
    · rw [List.getElem?_eq_none h] at hj; cases hj
  have hW := writes_box (b := b) (t := T') (cells := cells) (o := o) (x := .v v) hlt
  exact r.absWrite (st := st) hp hW.1 hW.2.1 (hW.2.2 _ _ _ (r.heap.nth hp).1 (by simp only [RepI]) hv).2.2
theorem X_aadd (q : Nat) {p : Pl} {f : FuncId} {fn : Func} (hf : P.funcs[f]? = some fn) (hname : (fn.name == "runtime.NumGoroutine") = false) (hb : fn.body.isNone = true) (hn : Extern.findNext fn = none) (k : IntKind)
    (he : Extern.find fn = some (Extern.Atomic.update (Op.intArith .add) k true)) {x xn : Operand} {b o : Nat} {T' : TypeId} {cells : List AV} {y z s : Int} (hs : ∀ w, (Op.intArith .add k y z).run P w = .ok (.int k s) w) {d : Option Nat} {tys : Array TypeId} {ty : TypeId} {pos : String} {aft : Array Edge} {gd : Option (Nat × Bool)} {j : Nat} {Si : List (Nat × AV)} {c cr : List Ch}
    (hg : guardA ops ⟨Si, c⟩ ⟨d, .call ⟨.value (.func f), #[x, xn], tys⟩, ty, pos, aft, gd⟩ = some true) (hx : opd Si x = some (PT b o)) (hxn : opd Si xn = some (.v (.int k z))) (hp : nthA q c = some (boxA b T' cells, cr)) (hj : cells[o]? = some (.v (.int k y))) (hd : dstOK n d = true) :
    StepX X n ops p Si c (.abs (boxA b T' (cells.set o (.v (.int k s)))) :: cr) j ⟨d, .call ⟨.value (.func f), #[x, xn], tys⟩, ty, pos, aft, gd⟩ (.v (.int k s)) :=
  StepX.val hg hd (fun e a w S r r' => by
    have h1 := opd_sound r' hx
    have h3 := opd_sound r' hxn
    simp only [Rep] at h1 h3
    have hc := box_cell (r.heap.nth hp).1 hj
    refine ⟨.int k s, _, e, run_ext a.eval rfl w _ ?_, box_write (st := ⟨S, c⟩) r hp hj rfl, by simp only [Rep]⟩
    have := run_call_add (P := P) hf hname hb hn k he (y := z) hc.1 hc.2 (hs w)
    simpa [h1, h3] using this)

end
end Go.Sy

namespace Go.Sy
open Go.RowKit

end Go.Sy

namespace Go.Sy
open Go.RowKit

section
variable {P : Program} {T : Tab} {X : Ctx P T} {n : Nat} {e : Env} {st : St} {a : Act} {w : World} {ops : Array Oper} {K : St → Prop}

end
end Go.Sy

namespace Go.Sy
open Go.RowKit

end Go.Sy

namespace Go.Sy
open Go.RowKit

section
variable {P : Program} {T : Tab} {X : Ctx P T} {n : Nat} {e : Env} {st : St} {a : Act} {w : World} {ops : Array Oper} {K : St → Prop}

end
end Go.Sy
