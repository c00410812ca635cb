/- The symbolic walk, part 3: the types' table, and the operations that leave memory alone. -/
import Derived.Test.YtgdlhcaidfokkaaSy2
set_option linter.unusedSimpArgs false
set_option linter.unusedVariables false
namespace Go.Sy
open Go.RowKit

theorem TabOK.size {P : Program} {T : Tab} (h : TabOK P T) {t : Nat} {i : TI} (ht : T t = some i) (w : World) : (sizeOf t).run P w = .ok i.size w := by
  obtain ⟨pi, z, h1, h2, _⟩ := (h t i ht).info
  simp [sizeOf, typeInfo, h1, h2]

theorem TabOK.isAgg {P : Program} {T : Tab} (h : TabOK P T) {t : Nat} {i : TI} (ht : T t = some i) (w : World) : (isAgg t).run P w = .ok i.agg w := by
  obtain ⟨d, h1, h2, _⟩ := (h t i ht).desc
  rw [h2]
  unfold Go.isAgg
  rw [Sem.run_bind, run_underlying h1 w]
  cases d <;> simp

def bitsV (op : BinOp) (k : IntKind) (a b : Int) : Int :=
  match op with
  | .and => k.wrap (BitVec.ofInt k.bits a &&& BitVec.ofInt k.bits b).toNat
  | .or => k.wrap (BitVec.ofInt k.bits a ||| BitVec.ofInt k.bits b).toNat
  | .xor => k.wrap (BitVec.ofInt k.bits a ^^^ BitVec.ofInt k.bits b).toNat
  | _ => k.wrap (BitVec.ofInt k.bits a &&& ~~~ BitVec.ofInt k.bits b).toNat

def binI (op : BinOp) (k : IntKind) (a b : Int) : Option AV :=
  match op with
  | .add => some (.v (.int k (k.wrap (a + b))))
  | .sub => some (.v (.int k (k.wrap (a - b))))
  | .mul => some (.v (.int k (k.wrap (a * b))))
  | .eql => some (.v (.bool (a == b)))
  | .neq => some (.v (.bool (a != b)))
  | .lss => some (.v (.bool (decide (a < b))))
  | .leq => some (.v (.bool (decide (a ≤ b))))
  | .gtr => some (.v (.bool (decide (b < a))))
  | .geq => some (.v (.bool (decide (b ≤ a))))
  | .and => some (.v (.int k (bitsV .and k a b)))
  | .or => some (.v (.int k (bitsV .or k a b)))
  | .xor => some (.v (.int k (bitsV .xor k a b)))
  | .andNot => some (.v (.int k (bitsV .andNot k a b)))
  | _ => none

def binS (op : BinOp) (a b : List UInt8) : Option AV :=
  match op with
  | .eql => some (.v (.bool (a == b)))
  | .neq => some (.v (.bool (!(a == b))))
  | .lss => some (.v (.bool (Op.bytesLess a b)))
  | .leq => some (.v (.bool (Op.bytesLess a b || a == b)))
  | .gtr => some (.v (.bool !(Op.bytesLess a b || a == b)))
  | .geq => some (.v (.bool !(Op.bytesLess a b)))
  | _ => none

def kindEq : IntKind → IntKind → Bool
  | .i8, .i8 | .i16, .i16 | .i32, .i32 | .i64, .i64 | .u8, .u8 | .u16, .u16 | .u32, .u32 | .u64, .u64 => true
  | _, _ => false
theorem kindEq_eq {j k : IntKind} (h : kindEq j k = true) : j = k := by cases j <;> cases k <;> simp [kindEq] at h <;> rfl

def bin (T : Tab) (t : Nat) (op : BinOp) (x y : AV) : Option AV :=
  match x, y with
  | .v (.int k a), .v (.int j b) => (match kindEq k j with
    | true => binI op k a b
    | false => none)
  | .s a, .s b => binS op a b
  | .v (.bool a), .v (.bool b) => (match T t with
    | some ⟨_, _, _, _, .bool⟩ => (match op with
      | .eql => some (.v (.bool (a == b)))
      | .neq => some (.v (.bool (a != b)))
      | _ => none)
    | _ => none)
  | _, _ => none

def loadA (i : TI) (cells : List AV) : Option AV :=
  match i.agg with
  | true => (match Nat.ble i.size cells.length with
    | true => some (.agg (cells.take i.size))
    | false => none)
  | false => cells.head?

def boxCells (k : Nat) (cs : List Ch) : Option (List AV) :=
  match takeCh k cs with
  | some (.box _ _ cells, _) => some cells
  | _ => none

def cellsA : AV → List AV
  | .agg cs => cs
  | x => [x]

def AV.cellB : AV → Bool
  | .v x => x.oneCell'
  | .bad => false
  | .agg _ => false
  | .tup _ => false
  | _ => true

def still (T : Tab) (st : St) : Op → Option AV
  | .move x => opd st.s x
  | .assign x => opd st.s x
  | .pick c a b => (match opd st.s c with
    | some (.v (.bool true)) => opd st.s a
    | some (.v (.bool false)) => opd st.s b
    | _ => none)
  | .binOp op t x y _ => (match opd st.s x, opd st.s y with
    | some p, some q => bin T t op p q
    | _, _ => none)
  | .unOp op _ x => (match op, opd st.s x with
    | .not, some (.v (.bool b)) => some (.v (.bool (!b)))
    | .neg, some (.v (.int k a)) => some (.v (.int k (k.wrap (0 - a))))
    | _, _ => none)
  | .convert src dst x => (match T src, T dst, opd st.s x with
    | some _, some ⟨_, _, _, _, .int k⟩, some (.v (.int _ a)) => some (.v (.int k (k.wrap a)))
    | some ⟨_, _, _, _, .str⟩, some ⟨_, _, _, _, .str⟩, some (.s l) => some (.s l)
    | _, _, _ => none)
  | .fieldAddr t x f => (match T t with
    | some ⟨_, _, _, _, .struct fs⟩ => (match fs[f]? with
      | some (off, _ + 1) => (match opd st.s x with
        | some (.bp k o) => some (.bp k (o + off))
        | some (.cp cells) => some (.cp (cells.drop off))
        | some (.ep k i esz j) => some (.ep k i esz (j + off))
        | some (.v (.pointer (some ⟨b, o, none⟩))) => some (.v (.pointer (some ⟨b, o + off, none⟩)))
        | _ => none)
      | _ => none)
    | _ => none)
  | .load t x => (match T t with
    | some i => (match opd st.s x with
      | some (.bp k o) => (match boxCells k st.c with
        | some cells => loadA i (cells.drop o)
        | none => none)
      | some (.cp cells) => loadA i cells
      | _ => none)
    | none => none)
  | .extract x i => (match opd st.s x with
    | some (.tup cs) => cs[i]?
    | _ => none)
  | .nilCheck x => (match opd st.s x with
    | some (.bp k o) => some (.bp k o)
    | _ => none)
  | .field t x f => (match T t with
    | some ⟨_, _, _, _, .struct fs⟩ => (match fs[f]?, opd st.s x with
      | some (_, _), some (.agg _) => none
      | _, _ => none)
    | _ => none)
  | .call { callee := .builtin b, args, argTypes } => (match b, args.toList, argTypes.toList with
    | .len, [x], [t] => (match T t, opd st.s x with
      | some ⟨_, _, _, _, .str⟩, some (.s l) => some (.v (.int .i64 l.length))
      | some ⟨_, _, _, _, .slice _⟩, some (.sl n _ _) => some (.v (.int .i64 n))
      | some ⟨_, _, _, _, .slice _⟩, some (.v (.slice _ n _)) => some (.v (.int .i64 n))
      | some ⟨_, _, _, _, .slice _⟩, some (.own k) => (match takeCh k st.c with
        | some (.vec _ _ _ n _, _) => some (.v (.int .i64 n))
        | _ => none)
      | _, _ => none)
    | .min, [x, y], _ => (match opd st.s x, opd st.s y with
      | some (.v (.int k a)), some (.v (.int _ b)) => some (.v (.int k (min a b)))
      | _, _ => none)
    | .max, [x, y], _ => (match opd st.s x, opd st.s y with
      | some (.v (.int k a)), some (.v (.int _ b)) => some (.v (.int k (max a b)))
      | _, _ => none)
    | _, _, _ => none)
  | _ => none

/-! ### soundness -/
def Readable (e : Env) (w : World) (b o : Nat) (cells : List AV) : Prop :=
  ∀ (j : Nat) (c : AV), cells[j]? = some c → ∃ z, w.cell? ⟨b, o + j, none⟩ = some z ∧ Rep e c z ∧ z.oneCell' = true

theorem CellsAt.get {G : IM} : ∀ {cells : List AV} {b o : Nat}, CellsAt G cells b o → ∀ (j : Nat) (c : AV), cells[j]? = some c → ∃ z, G b (o + j) = some z ∧ RepI G c z ∧ z.oneCell' = true
  | [], _, _, _, j, c, h => by simp at h
  | d :: cs, b, o, r, j, c, h => by
    simp only [CellsAt] at r
    cases j with
    | zero => simp at h; subst h; simpa using r.1
    | succ j =>
      have := CellsAt.get r.2 j c (by simpa using h)
      rwa [show o + (j + 1) = o + 1 + j by omega]

theorem CellsAt.drop {G : IM} : ∀ (k : Nat) {cells : List AV} {b o : Nat}, CellsAt G cells b o → CellsAt G (cells.drop k) b (o + k)
  | 0, cells, b, o, r => by simpa using r
  | k + 1, [], b, o, r => by simp [CellsAt]
  | k + 1, c :: cs, b, o, r => by
    simp only [CellsAt] at r
    have := CellsAt.drop k r.2
    rwa [show o + (k + 1) = o + 1 + k by omega]

theorem RepL.get {e : Env} : ∀ {cs : List AV} {ys : List Value}, RepL e cs ys → ∀ (j : Nat) (c : AV), cs[j]? = some c → ∃ z, ys[j]? = some z ∧ Rep e c z ∧ z.oneCell' = true
  | [], ys, _, j, c, h => by simp at h
  | d :: cs, ys, r, j, c, h => by
    simp only [RepL] at r
    obtain ⟨z, zs, rfl, r1, r2, r3⟩ := r
    cases j with
    | zero => simp at h; subst h; exact ⟨z, by simp, r1, r2⟩
    | succ j => simpa using RepL.get r3 j c (by simpa using h)

theorem RepL.len {e : Env} : ∀ {cs : List AV} {ys : List Value}, RepL e cs ys → ys.length = cs.length
  | [], ys, r => by simp only [RepL] at r; subst r; rfl
  | d :: cs, ys, r => by
    simp only [RepL] at r
    obtain ⟨z, zs, rfl, r1, r2, r3⟩ := r
    simp [RepL.len r3]

theorem RepL.mk {e : Env} : ∀ {cs : List AV} {ys : List Value}, ys.length = cs.length → (∀ (j : Nat) (c : AV), cs[j]? = some c → ∃ z, ys[j]? = some z ∧ Rep e c z ∧ z.oneCell' = true) → RepL e cs ys
  | [], ys, hl, _ => by simp only [RepL]; exact List.eq_nil_of_length_eq_zero hl
  | d :: cs, [], hl, _ => by simp at hl
  | d :: cs, y :: ys, hl, h => by
    simp only [RepL]
    obtain ⟨z, h1, h2, h3⟩ := h 0 d (by simp)
    simp at h1; subst h1
    exact ⟨y, ys, rfl, h2, h3, RepL.mk (by simpa using hl) fun j c hc => by simpa using h (j + 1) c (by simpa using hc)⟩

theorem boxCells_sound {P : Program} {T : Tab} {X : Ctx P T} {e : Env} {w : World} {cs : List Ch} (h : HeapOK X e w cs) {k : Nat} {cells : List AV} (hb : boxCells k cs = some cells) :
    ∃ arr T, w.heap[e.μ k]? = some (.cells arr T (0, 0)) ∧ RepL e cells arr.toList := by
  unfold boxCells at hb
  split at hb
  · rename_i k' T cells' rest ht
    simp only [Option.some.injEq] at hb
    subst hb
    have hid : k' = k := by
      have : ∀ {cs : List Ch} {c r}, takeCh k cs = some (c, r) → c.id = k := by
        intro cs
        induction cs with
        | nil => intro c r h; simp [takeCh] at h
        | cons d cs ih =>
          intro c r h
          simp only [takeCh] at h
          split at h
          · rename_i hbq
            simp only [Option.some.injEq, Prod.mk.injEq] at h
            obtain ⟨rfl, rfl⟩ := h
            exact Nat.eq_of_beq_eq_true hbq
          · split at h
            · rename_i hh
              simp only [Option.some.injEq, Prod.mk.injEq] at h
              obtain ⟨rfl, rfl⟩ := h
              exact ih hh
            · cases h
      exact this ht
    subst hid
    obtain ⟨pl, h1, h2, _⟩ := h.perm (takeCh_perm ht)
    cases pl with
    | nil => simp at h1
    | cons p pl =>
      simp only [List.map_cons, List.cons.injEq] at h1
      have := h2 p (List.mem_cons_self ..)
      rw [h1.1] at this
      obtain ⟨_, arr, h3, h4⟩ := this
      exact ⟨arr, T, h3, h4⟩
  · cases hb

theorem readable_cp {P : Program} {T : Tab} {X : Ctx P T} {n : Nat} {e : Env} {st : St} {a : Act} {w : World} (r : Rel X n e st a w) {cells : List AV} {b o : Nat} (h : CellsAt e.G cells b o) : Readable e w b o cells := by
  intro j c hc
  obtain ⟨z, h1, h2, h3⟩ := h.get j c hc
  exact ⟨z, r.im _ _ _ h1, RepI.toRep c h2, h3⟩

theorem readable_bp {e : Env} {w : World} {b : Nat} {arr : Array Value} {T : TypeId} {cells : List AV} (h1 : w.heap[b]? = some (.cells arr T (0, 0))) (h2 : RepL e cells arr.toList) (o : Nat) :
    Readable e w b o (cells.drop o) := by
  intro j c hc
  rw [List.getElem?_drop] at hc
  obtain ⟨z, h3, h4, h5⟩ := h2.get _ c hc
  refine ⟨z, ?_, h4, h5⟩
  rw [cell_of_row w b (o + j) arr T (0, 0) h1]
  simpa using h3

def SameAs (w w' : World) : Prop := ∀ b, b < w.heap.size → w'.heap[b]? = w.heap[b]?
theorem SameAs.refl (w : World) : SameAs w w := fun _ _ => rfl
theorem SameAs.cell {w w' : World} (h : SameAs w w') {b o : Nat} {z : Value} (hc : w.cell? ⟨b, o, none⟩ = some z) : w'.cell? ⟨b, o, none⟩ = some z := by
  have hb := block_lt_of_cell hc
  simp only [World.cell?] at hc ⊢
  rw [h b hb]
  exact hc

theorem load_sound {P : Program} {T : Tab} (hT : TabOK P T) {t : Nat} {i : TI} (ht : T t = some i) {e : Env} {w : World} {b o : Nat} {cells : List AV} (hr : Readable e w b o cells) {av : AV}
    (h : loadA i cells = some av) : ∃ v, Rep e av v ∧ ∀ w', SameAs w w' → (loadVar t ⟨b, o, none⟩).run P w' = .ok v w' := by
  unfold loadA at h
  unfold loadVar
  split at h
  · rename_i hagg
    split at h
    · rename_i hle
      simp only [Option.some.injEq] at h
      subst h
      have hle' : i.size ≤ cells.length := Nat.le_of_ble_eq_true hle
      have hz : ∀ j, j < i.size → ∃ z c, cells[j]? = some c ∧ w.cell? ⟨b, o + j, none⟩ = some z ∧ Rep e c z ∧ z.oneCell' = true := by
        intro j hj
        obtain ⟨z, h1, h2, h3⟩ := hr j cells[j] (by simp)
        exact ⟨z, cells[j], by simp, h1, h2, h3⟩
      have hc := fun (w' : World) (hs : SameAs w w') => run_loadCells (P := P) w' ⟨b, o, none⟩ i.size (fun j => (w.cell? ⟨b, o + j, none⟩).getD undef) (fun j hj => by
        have hadd : (⟨b, o, none⟩ : Addr).add j = ⟨b, o + j, none⟩ := by unfold Addr.add; split <;> simp_all
        obtain ⟨z, c, _, h2, _⟩ := hz j hj
        rw [hadd, hs.cell h2, h2]; rfl)
      refine ⟨.agg ((List.range i.size).map fun j => (w.cell? ⟨b, o + j, none⟩).getD undef).toArray, ?_, fun w' hs => ?_⟩
      case refine_2 => simp only [Sem.run_bind, hT.isAgg ht w', hT.size ht w', Result.andThen_ok, hagg, if_true, hc w' hs, Sem.run_pure]
      · simp only [Rep]
        refine ⟨_, rfl, RepL.mk (by simp; omega) ?_⟩
        intro j c hc
        have hj : j < i.size := by
          rcases Nat.lt_or_ge j i.size with h | h
          · exact h
          · rw [List.getElem?_eq_none (by simp; omega)] at hc; cases hc
        rw [List.getElem?_take, if_pos hj] at hc
        obtain ⟨z, c', h1, h2, h3, h4⟩ := hz j hj
        rw [h1] at hc; cases hc
        exact ⟨z, by simp [hj, h2], h3, h4⟩
    · cases h
  · rename_i hagg
    cases cells with
    | nil => simp at h
    | cons c cs =>
      simp at h; subst h
      obtain ⟨z, h1, h2, h3⟩ := hr 0 c (by simp)
      refine ⟨z, h2, fun w' hs => ?_⟩
      simp only [Nat.add_zero] at h1
      simp [hT.isAgg ht w', hagg, run_load, hs.cell h1]


theorem Rep_v {e : Env} {x : Value} : Rep e (.v x) x := by simp only [Rep]
theorem Rep_s {e : Env} {l : List UInt8} : Rep e (.s l) (S l) := by simp only [Rep]
theorem Rep_bp {e : Env} {k o : Nat} : Rep e (.bp k o) (.pointer (some ⟨e.μ k, o, none⟩)) := by simp only [Rep]

theorem toList_mk (l : List UInt8) : (ByteArray.mk l.toArray).toList = l := by rw [ByteArray.toList_eq]

theorem len_S (l : List UInt8) : (ByteArray.mk l.toArray).size = l.length := by simp [ByteArray.size]

theorem run_equalIn_bool {P : Program} {t : Nat} (h : P.underlying t = some .bool) (a b : Bool) (w : World) (d : Nat) : (Op.equalIn (d + 1) t (.bool a) (.bool b)).run P w = .ok (a == b) w := by
  simp [Op.equalIn, run_underlying h]
theorem run_equal_bool {P : Program} {t : Nat} (h : P.underlying t = some .bool) (a b : Bool) (w : World) : (Op.equal t (.bool a) (.bool b)).run P w = .ok (a == b) w :=
  run_equalIn_bool h a b w 9999

theorem bin_sound {P : Program} {T : Tab} (hT : TabOK P T) {e : Env} {t : Nat} {op : BinOp} {x y av : AV} {p q : Value} (hx : Rep e x p) (hy : Rep e y q) (h : bin T t op x y = some av) (ox oy : Operand) :
    ∃ z, av = .v z ∧ ∀ w : World, (do eqGuard op t ox oy p q; binOp op t p q : Sem Value).run P w = .ok z w := by
  unfold bin at h
  split at h
  · -- ints
    rename_i k a j b
    simp only [Rep] at hx hy
    subst hx hy
    split at h
    · rename_i hk
      have := kindEq_eq hk
      subst this
      cases op <;> simp [binI] at h <;> subst h <;> simp [eqGuard, binOp, Op.intArith, Op.intCmp, Op.intBits, bitsV]
    · cases h
  · rename_i a b
    simp only [Rep, S] at hx hy
    subst hx hy
    cases op <;> simp [binS] at h <;> subst h <;> simp [eqGuard, binOp, Op.stringOp, toList_mk]
  · rename_i a b
    simp only [Rep] at hx hy
    subst hx hy
    split at h
    · rename_i hTt
      obtain ⟨d, h1, _, h3⟩ := (hT t _ hTt).desc
      simp only [TDOK] at h3
      subst h3
      have he := fun w => run_equal_bool h1 a b w
      cases op <;> simp at h <;> subst h <;> simp [eqGuard, binOp, he] <;> cases a <;> cases b <;> rfl
    · cases h
  · cases h

theorem kid_of_take {k : Nat} : ∀ {cs : List Ch} {c : Ch} {r : List Ch}, takeCh k cs = some (c, r) → c.id = k
  | [], c, r, h => by simp [takeCh] at h
  | d :: cs, c, r, h => by
    simp only [takeCh] at h
    split at h
    · rename_i hbq
      simp only [Option.some.injEq, Prod.mk.injEq] at h
      obtain ⟨rfl, rfl⟩ := h
      exact Nat.eq_of_beq_eq_true hbq
    · split at h
      · rename_i hh
        simp only [Option.some.injEq, Prod.mk.injEq] at h
        obtain ⟨rfl, rfl⟩ := h
        exact kid_of_take hh
      · cases h

theorem HeapOK.head {P : Program} {T : Tab} {X : Ctx P T} {e : Env} {w : World} {c : Ch} {cs : List Ch} (h : HeapOK X e w (c :: cs)) : ∃ bs, ChOK e w c bs ∧ bs.Nodup ∧ ∀ b ∈ bs, b < w.heap.size ∧ (X.w0.heap.size ≤ b ∨ b ∈ X.bs) ∧ ∀ o, e.G b o = none := by
  obtain ⟨pl, h1, h2, h3, h4⟩ := h
  cases pl with
  | nil => simp at h1
  | cons p pl =>
    simp only [List.map_cons, List.cons.injEq] at h1
    obtain ⟨rfl, _⟩ := h1
    simp only [List.flatMap_cons] at h3 h4
    exact ⟨p.2, h2 p (List.mem_cons_self ..), (List.nodup_append.1 h3).1, fun b hb => h4 b (List.mem_append.2 (.inl hb))⟩

theorem add_addr (b o n : Nat) : (⟨b, o, none⟩ : Addr).add n = ⟨b, o + n, none⟩ := by unfold Addr.add; split <;> simp_all

theorem still_sound {P : Program} {T : Tab} {X : Ctx P T} {n : Nat} {e : Env} {st : St} {a : Act} {w : World} (r : Rel X n e st a w) {o : Oper} {av : AV} (h : still T st o.op = some av) :
    ∃ v, Rep e av v ∧ ∀ w', SameAs w w' → (execOp a.eval o).run P w' = .ok (.value v) w' := by
  have hT := X.ok
  obtain ⟨dst, op, ty, pos, aft, gd⟩ := o
  simp only at h
  cases op with
  | move x => exact ⟨_, opd_sound r h, fun w' _ => rfl⟩
  | assign x => exact ⟨_, opd_sound r h, fun w' _ => rfl⟩
  | pick c p q =>
    simp only [still] at h
    split at h
    · rename_i hc
      have := opd_sound r hc
      simp only [Rep] at this
      exact ⟨_, opd_sound r h, fun w' _ => by simp [execOp, this, asBool]⟩
    · rename_i hc
      have := opd_sound r hc
      simp only [Rep] at this
      exact ⟨_, opd_sound r h, fun w' _ => by simp [execOp, this, asBool]⟩
    · cases h
  | binOp op t x y u =>
    simp only [still] at h
    split at h
    · rename_i p q hx hy
      obtain ⟨z, rfl, h1⟩ := bin_sound hT (opd_sound r hx) (opd_sound r hy) h x y
      refine ⟨z, by simp [Rep], fun w' _ => ?_⟩
      simp only [execOp]
      rw [Sem.run_bind, h1 w']
      rfl
    · cases h
  | unOp op t x =>
    simp only [still] at h
    split at h
    · rename_i hx
      have := opd_sound r hx
      simp only [Rep] at this
      simp only [Option.some.injEq] at h
      subst h
      exact ⟨_, Rep_v, fun w' _ => by simp only [execOp, this]; rfl⟩
    · rename_i hx
      have := opd_sound r hx
      simp only [Rep] at this
      simp only [Option.some.injEq] at h
      subst h
      exact ⟨_, Rep_v, fun w' _ => by simp only [execOp, this]; rfl⟩
    · cases h
  | convert src dst x =>
    simp only [still] at h
    split at h
    · rename_i i1 s b ag z k k' m h1 h2 h3
      have := opd_sound r h3
      simp only [Rep] at this
      simp only [Option.some.injEq] at h
      subst h
      obtain ⟨d1, e1, _, _⟩ := (hT _ _ h1).desc
      obtain ⟨d2, e2, _, e3⟩ := (hT _ _ h2).desc
      simp only [TDOK] at e3
      subst e3
      refine ⟨.int k (k.wrap m), by simp [Rep], fun w' _ => ?_⟩
      simp only [execOp, this, Go.convert, Sem.run_bind, run_underlying e1, run_underlying e2, Result.andThen_ok]
      rfl
    · rename_i l h1 h2 h3
      have := opd_sound r h3
      simp only [Rep] at this
      simp only [Option.some.injEq] at h
      subst h
      obtain ⟨d1, e1, _, e4⟩ := (hT _ _ h1).desc
      obtain ⟨d2, e2, _, e3⟩ := (hT _ _ h2).desc
      simp only [TDOK] at e3 e4
      subst e3 e4
      refine ⟨S l, by simp [Rep], fun w' _ => ?_⟩
      simp only [execOp, this, Go.convert, Sem.run_bind, run_underlying e1, run_underlying e2, Result.andThen_ok]
      rfl
    · cases h
  | fieldAddr t x f =>
    simp only [still] at h
    split at h
    · rename_i s b ag z fs hTt
      split at h
      · rename_i off sz hf
        obtain ⟨d, e1, _, e3⟩ := (hT _ _ hTt).desc
        simp only [TDOK] at e3
        obtain ⟨fields, rfl, e4, e5⟩ := e3
        have hfield : ∃ fl, fields[f]? = some fl ∧ fl.offset = off ∧ P.cellsOf fl.type = sz + 1 := by
          rw [← e4] at hf
          simp only [List.getElem?_map, Array.getElem?_toList, Option.map_eq_some_iff, Prod.mk.injEq] at hf
          obtain ⟨fl, g1, g2, g3⟩ := hf
          exact ⟨fl, g1, g2, g3⟩
        obtain ⟨fl, g1, g2, g3⟩ := hfield
        have g4 : ∃ pi, P.info? fl.type = some pi ∧ pi.size = sz + 1 := by
          cases hq : P.info? fl.type with
          | none => simp [Program.cellsOf, hq] at g3
          | some pi => exact ⟨pi, rfl, by simpa [Program.cellsOf, hq] using g3⟩
        obtain ⟨pi, g5, g6⟩ := g4
        have key : ∀ b o (w : World), a.eval x = .pointer (some ⟨b, o, none⟩) →
            (execOp a.eval ⟨dst, .fieldAddr t x f, ty, pos, aft, gd⟩).run P w = .ok (.value (.pointer (some ⟨b, o + off, none⟩))) w := by
          intro b o w hx
          simp only [execOp, hx, Instr.fieldAt, Sem.run_bind, run_underlying e1, Result.andThen_ok, g1, Instr.sureAddr, Sem.run_pure, fieldPlace, sizeOf, typeInfo, run_program, g5, g6]
          simp [g2, add_addr]
        split at h
        · rename_i k o hx
          simp only [Option.some.injEq] at h
          subst h
          have := opd_sound r hx
          simp only [Rep] at this
          exact ⟨_, Rep_bp, fun w' _ => key _ _ w' this⟩
        · rename_i cells hx
          simp only [Option.some.injEq] at h
          subst h
          have := opd_sound r hx
          simp only [Rep, RepI] at this
          obtain ⟨b, o, h1, h2⟩ := this
          exact ⟨_, by simp only [Rep, RepI]; exact ⟨b, o + off, rfl, h2.drop off⟩, fun w' _ => key _ _ w' h1⟩
        · rename_i k i esz j hx
          simp only [Option.some.injEq] at h
          subst h
          have := opd_sound r hx
          simp only [Rep] at this
          exact ⟨_, by simp only [Rep]; rfl, fun w' _ => by rw [← Nat.add_assoc]; exact key _ _ w' this⟩
        · rename_i b o hx
          simp only [Option.some.injEq] at h
          subst h
          have := opd_sound r hx
          simp only [Rep] at this
          exact ⟨_, by simp only [Rep], fun w' _ => key _ _ w' this⟩
        · cases h
      · cases h
    · cases h
  | load t x =>
    simp only [still] at h
    split at h
    · rename_i i hTt
      split at h
      · rename_i k o hx
        split at h
        · rename_i cells hb
          have := opd_sound r hx
          simp only [Rep] at this
          obtain ⟨arr, Tt, g1, g2⟩ := boxCells_sound r.heap hb
          obtain ⟨v, g4, g3⟩ := load_sound hT hTt (readable_bp g1 g2 o) h
          refine ⟨v, g4, fun w' hs => ?_⟩
          simp only [execOp, this, Instr.loadAt, Instr.sureAddr, Sem.run_bind, Sem.run_pure, Result.andThen_ok, g3 w' hs]
        · cases h
      · rename_i cells hx
        have := opd_sound r hx
        simp only [Rep, RepI] at this
        obtain ⟨b, o, h1, h2⟩ := this
        obtain ⟨v, g4, g3⟩ := load_sound hT hTt (readable_cp r h2) h
        refine ⟨v, g4, fun w' hs => ?_⟩
        simp only [execOp, h1, Instr.loadAt, Instr.sureAddr, Sem.run_bind, Sem.run_pure, Result.andThen_ok, g3 w' hs]
      · cases h
    · cases h
  | extract x i =>
    simp only [still] at h
    split at h
    · rename_i cs hx
      have := opd_sound r hx
      simp only [Rep] at this
      obtain ⟨ys, h1, h2⟩ := this
      have : ∀ {cs : List AV} {ys : List Value}, RepT e cs ys → ∀ (j : Nat) (c : AV), cs[j]? = some c → ∃ z, ys[j]? = some z ∧ Rep e c z := by
        intro cs
        induction cs with
        | nil => intro ys _ j c h; simp at h
        | cons d cs ih =>
          intro ys r j c h
          simp only [RepT] at r
          obtain ⟨z, zs, rfl, r1, r3⟩ := r
          cases j with
          | zero => simp at h; subst h; exact ⟨z, by simp, r1⟩
          | succ j => simpa using ih r3 j c (by simpa using h)
      obtain ⟨z, h3, h4⟩ := this h2 i av h
      refine ⟨z, h4, fun w' _ => ?_⟩
      have h5 : ys[i]? = some z := by simpa using h3
      simp [execOp, h1, Instr.extract, h5]
    · cases h
  | field t x f =>
    simp only [still] at h
    split at h
    · split at h <;> cases h
    · cases h
  | nilCheck x =>
    simp only [still] at h
    split at h
    · rename_i k o hx
      have := opd_sound r hx
      simp only [Rep] at this
      simp only [Option.some.injEq] at h
      subst h
      exact ⟨_, Rep_bp, fun w' _ => by simp only [execOp, this]; rfl⟩
    · cases h
  | call c =>
    obtain ⟨cal, args, atys⟩ := c
    cases cal with
    | value f => simp [still] at h
    | invoke f m => simp [still] at h
    | builtin b =>
      simp only [still] at h
      split at h
      · rename_i x t ha ht
        have ha' : args = #[x] := by cases args; simpa using ha
        have ht' : atys = #[t] := by cases atys; simpa using ht
        subst ha' ht'
        have key : ∀ (m : Nat) (w : World), (Builtin.len_ #[t] ty #[a.eval x]).run P w = .ok (.int .i64 m) w → (execOp a.eval ⟨dst, .call ⟨.builtin .len, #[x], #[t]⟩, ty, pos, aft, gd⟩).run P w = .ok (.value (.int .i64 m)) w := by
          intro m w hm
          simp only [execOp, resolve, invoke, builtin, Sem.run_bind, Sem.run_pure, Result.andThen_ok, List.map_toArray, List.map_cons, List.map_nil, hm]
        split at h
        · rename_i l h1 h2
          simp only [Option.some.injEq] at h
          subst h
          obtain ⟨d, e1, _, e3⟩ := (hT _ _ h1).desc
          simp only [TDOK] at e3
          subst e3
          have := opd_sound r h2
          simp only [Rep] at this
          exact ⟨_, Rep_v, fun w' _ => key l.length w' (by simp [Builtin.len_, this, S, run_underlying e1, goInt, len_S])⟩
        · rename_i m esz row h1 h2
          simp only [Option.some.injEq] at h
          subst h
          obtain ⟨d, e1, _, e3⟩ := (hT _ _ h1).desc
          simp only [TDOK] at e3
          subst e3
          have := opd_sound r h2
          simp only [Rep, RepI] at this
          obtain ⟨aa, cc, e5, _, _⟩ := this
          exact ⟨_, Rep_v, fun w' _ => key m w' (by simp [Builtin.len_, e5, run_underlying e1, goInt])⟩
        · rename_i aa m cc h1 h2
          simp only [Option.some.injEq] at h
          subst h
          obtain ⟨d, e1, _, e3⟩ := (hT _ _ h1).desc
          simp only [TDOK] at e3
          subst e3
          have := opd_sound r h2
          simp only [Rep] at this
          exact ⟨_, Rep_v, fun w' _ => key m w' (by simp [Builtin.len_, this, run_underlying e1, goInt])⟩
        · rename_i k h1 h2
          split at h
          · rename_i k' T' esz m row rest htk
            simp only [Option.some.injEq] at h
            subst h
            obtain ⟨d, e1, _, e3⟩ := (hT _ _ h1).desc
            simp only [TDOK] at e3
            subst e3
            have := opd_sound r h2
            simp only [Rep] at this
            have hkk : k' = k := kid_of_take htk
            subst hkk
            obtain ⟨bs, ⟨_, xs, g1, g2⟩, _⟩ := (r.heap.perm (takeCh_perm htk)).head
            have : ∃ aa cc, a.eval x = .slice aa m cc := by
              rcases g1.2 with ⟨g3, g4⟩ | ⟨g, cap, cur, g3, _⟩
              · exact ⟨none, 0, by rw [this.1, g3, g4]⟩
              · exact ⟨_, _, by rw [this.1, g3]⟩
            obtain ⟨aa, cc, g5⟩ := this
            exact ⟨_, Rep_v, fun w' _ => key m w' (by simp [Builtin.len_, g5, run_underlying e1, goInt])⟩
          · cases h
        · cases h
      · rename_i x y ha
        have ha' : args = #[x, y] := by cases args; simpa using ha
        subst ha'
        split at h
        · rename_i k p k' q h1 h2
          simp only [Option.some.injEq] at h
          subst h
          have e1 := opd_sound r h1
          have e2 := opd_sound r h2
          simp only [Rep] at e1 e2
          have : (if q < p then q else p) = min p q := by simp only [Int.min_def]; split <;> split <;> omega
          refine ⟨.int k (min p q), by simp [Rep], fun w' _ => ?_⟩
          simp [execOp, resolve, invoke, builtin, Builtin.min_, Builtin.min2, e1, e2, this]
        · cases h
      · rename_i x y ha
        have ha' : args = #[x, y] := by cases args; simpa using ha
        subst ha'
        split at h
        · rename_i k p k' q h1 h2
          simp only [Option.some.injEq] at h
          subst h
          have e1 := opd_sound r h1
          have e2 := opd_sound r h2
          simp only [Rep] at e1 e2
          have : (if q > p then q else p) = max p q := by simp only [Int.max_def]; split <;> split <;> omega
          refine ⟨.int k (max p q), by simp [Rep], fun w' _ => ?_⟩
          simp [execOp, resolve, invoke, builtin, Builtin.max_, Builtin.max2, e1, e2, this]
        · cases h
      · cases h
  | _ => simp [still] at h

end Go.Sy
