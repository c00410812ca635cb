/- The walk anew, part 21: numbers that stay in their range. -/
import Derived.Test.YtkmjkicjlkchcaaGreatDoorE2
import Derived.KernelRfl
import Derived.MapKept
import Derived.Laws.MakeOwn
import Derived.Scope
import Derived.Laws.BytesArg
import Derived.Laws.Slices
import Derived.ProofKit
import Derived.OpenShut
import Derived.ShutString
import Derived.ChangeOld
import Derived.Below
import Derived.WalkKit
import Derived.HandedShaped
import Derived.SizedLaws
import Derived.PinnedBridge
import Derived.Lay
import Derived.Shelf.Vars
import Derived.Test.YtkmjkicjlkchcaaGreatDoorRows
import Derived.Test.YtkmjkicjlkchcaaGreatDoorCards
import Derived.Test.YtkmjkicjlkchcaaGreatDoorTie
set_option linter.unusedSimpArgs false
set_option linter.unusedVariables false
namespace Go.E
open Go.RowKit

def rng (k : IntKind) (x : Int) {β : Type} (f : Prop → Option β) : Option β :=
  match k with
  | .i64 => f (-9223372036854775808 ≤ x ∧ x ≤ 9223372036854775807)
  | .u64 => f (0 ≤ x ∧ x ≤ 18446744073709551615)
  | .u8 => f (0 ≤ x ∧ x ≤ 255)
  | .i32 => f (-2147483648 ≤ x ∧ x ≤ 2147483647)
  | .u32 => f (0 ≤ x ∧ x ≤ 4294967295)
  | .u16 => f (0 ≤ x ∧ x ≤ 65535)
  | .i16 => f (-32768 ≤ x ∧ x ≤ 32767)
  | .i8 => f (-128 ≤ x ∧ x ≤ 127)
theorem rng_spec {k : IntKind} {x : Int} {β : Type} {f : Prop → Option β} {p : β} (h : rng k x f = some p) : ∃ g, f g = some p ∧ (g → k.wrap x = x) := by
  cases k <;> refine ⟨_, h, fun hg => ?_⟩ <;> simp only [IntKind.wrap, IntKind.bits, IntKind.signed, Bool.true_and, Bool.false_and] <;> (try split) <;> (try rename_i h3) <;> (try simp at h3) <;> (try simp) <;> omega
theorem w64 {x : Int} (h : -9223372036854775808 ≤ x) (h2 : x ≤ 9223372036854775807) : IntKind.i64.wrap x = x := by
  simp only [IntKind.wrap, IntKind.bits, IntKind.signed, Bool.true_and]
  split <;> rename_i h3 <;> simp at h3 <;> omega

/-- What an operation on numbers gives, if it stays in range. -/
def arA (T : Tab) (rd : List (Nat × AV)) (op : Op) {β : Type} (f : Prop → AV → Option β) : Option β :=
  match op with
  | .binOp bo _ x y _ => (match opd rd x, opd rd y with
    | some (.v (.int k a)), some (.v (.int j b)) => (match kindEq k j with
      | true => (match bo with
        | .add => rng k (a + b) fun g => f g (.v (.int k (a + b)))
        | .sub => rng k (a - b) fun g => f g (.v (.int k (a - b)))
        | .mul => rng k (a * b) fun g => f g (.v (.int k (a * b)))
        | .quo => rng k a fun g => f (g ∧ 0 ≤ a ∧ 0 < b) (.v (.int k (a / b)))
        | .rem => f (0 ≤ a ∧ 0 < b) (.v (.int k (a % b)))
        | _ => none)
      | false => none)
    | _, _ => none)
  | .convert src dst x => (match T src, T dst, opd rd x with
    | some _, some ⟨_, _, _, _, .int k⟩, some (.v (.int _ a)) => rng k a fun g => f g (.v (.int k a))
    | _, _, _ => none)
  | _ => none

theorem wrap_div {k : IntKind} {a b : Int} (h : k.wrap a = a) (h0 : 0 ≤ a) (hb : 0 < b) : k.wrap (a / b) = a / b := by
  have h1 : 0 ≤ a / b := Int.ediv_nonneg h0 (by omega)
  have h2 : a / b ≤ a := Int.ediv_le_self _ h0
  generalize a / b = q at *
  cases k <;> simp only [IntKind.wrap, IntKind.bits, IntKind.signed, Bool.true_and, Bool.false_and] at h ⊢ <;> (try split at h) <;> (try split) <;> (try rename_i h3 h4) <;> (try simp at h3) <;> (try simp at h4) <;> (try simp at h) <;> (try simp) <;> omega

theorem arA_spec {T : Tab} {rd : List (Nat × AV)} {c : List Ch} {dst : Option Nat} {op : Op} {β : Type} {f : Prop → AV → Option β} {p : β} (h : arA T rd op f = some p) :
    ∃ g x, f g x = some p ∧ (g → ∃ g', g' ∧ eff T rd c dst op = some ⟨g', x, [], [], [], [], c⟩) := by
  unfold arA at h
  split at h
  · split at h
    · rename_i bo t x y u k a j b hx hy
      split at h
      · rename_i hk
        have hkj := kindEq_eq hk
        subst hkj
        split at h
        · obtain ⟨g, h1, h2⟩ := rng_spec h
          exact ⟨g, _, h1, fun hg => ⟨True, trivial, by simp [eff, val, hx, hy, bin, hk, binI, roOf, h2 hg]⟩⟩
        · obtain ⟨g, h1, h2⟩ := rng_spec h
          exact ⟨g, _, h1, fun hg => ⟨True, trivial, by simp [eff, val, hx, hy, bin, hk, binI, roOf, h2 hg]⟩⟩
        · obtain ⟨g, h1, h2⟩ := rng_spec h
          exact ⟨g, _, h1, fun hg => ⟨True, trivial, by simp [eff, val, hx, hy, bin, hk, binI, roOf, h2 hg]⟩⟩
        · obtain ⟨g, h1, h2⟩ := rng_spec h
          refine ⟨_, _, h1, fun hg => ⟨b ≠ 0, by omega, ?_⟩⟩
          have : k.wrap (a.tdiv b) = a / b := by rw [Int.tdiv_eq_ediv_of_nonneg hg.2.1]; exact wrap_div (h2 hg.1) hg.2.1 hg.2.2
          simp [eff, val, hx, hy, bin, hk, binI, roOf, this]
        · refine ⟨_, _, h, fun hg => ⟨b ≠ 0, by omega, ?_⟩⟩
          have : a.tmod b = a % b := Int.tmod_eq_emod_of_nonneg hg.1
          simp [eff, val, hx, hy, bin, hk, binI, roOf, this]
        · cases h
      · cases h
    · cases h
  · split at h
    · rename_i h1 h2 h3
      obtain ⟨g, q1, q2⟩ := rng_spec h
      refine ⟨g, _, q1, fun hg => ⟨True, trivial, ?_⟩⟩
      simp [eff, val, h1, h2, h3, roOf, q2 hg]
    · cases h
  · cases h

section
variable {P : Program} {T : Tab} {K : Ctx P T → Prop} {n : Nat} {ops : Array Oper} {draw : Bool} {α : Type} {Po : α → Prop} {S' : α → Prop} {KD : α → List (Nat × AV) → List Ch → List Nat → Prop}
def stepA (T : Tab) (n : Nat) (ops : Array Oper) (draw : Bool) (o : Oper) (hist : List FP) (s : List (Nat × AV)) {β : Type} (k : Prop → List FP → List (Nat × AV) → Option β) : Option β :=
  match guardA ops.toList s o, dstOK n o.dst with
  | some true, true => normG (rdL s (o.op.operands.toList ++ guardOp ops.toList o)) fun rd => arA T rd o.op fun g x => nextS o.dst x s fun s' => nextH draw hist o rd [] [] [] fun h' => k g h' s'
  | _, _ => none
/-- An operation on numbers that stays in range. -/
theorem dA {o : Oper} {l : List Oper} {hist : List FP} {s : List (Nat × AV)} {c : List Ch} {N : List Nat} {g : Prop}
    (h : ∀ r, stepA T n ops draw o hist s (fun g h' s' => some (g, WO K n ops draw (KD r) l h' s' c N)) = some (g, S' r)) (hg : g) (k : DE Po S') : DE Po (fun r => WO K n ops draw (KD r) (o :: l) hist s c N) := by
  refine k.imp fun r hr X hX => ?_
  have h := h r
  unfold stepA at h
  split at h
  · rename_i hgu hd
    rw [normG_eq] at h
    obtain ⟨g', x, h1, h2⟩ := arA_spec (c := c) (dst := o.dst) h
    rw [nextS_eq] at h1
    have hw' : ∀ e fr c a w, Rel X n e fr (rdL s (o.op.operands.toList ++ guardOp ops.toList o)) c a w → Region.wanted o (yielded ops a.tmps) = true := fun e fr c a w r =>
      guardA_sound r (guardA_rd hgu (fun q hq => List.mem_append.2 (.inr hq)))
    have fin : ∀ h', (draw = true → h' = hist ++ [fpOf ⟨o, rdL s (o.op.operands.toList ++ guardOp ops.toList o), [], [], [], [], x⟩]) → g' → DoR X n ops draw (KD r) l h' (putS o.dst x s) c N → DoR X n ops draw (KD r) (o :: l) hist s c N := by
      intro h' hh hgg hr'
      obtain ⟨g2, hg2, he⟩ := h2 hgg
      obtain ⟨l1, cr, l2, l3⟩ := eff_sound (X := X) (ops := ops) (o := o) (s := s) (fun p hp => rdL_mem p hp) hw' hd id he hg2
      refine ⟨s, _, c, cr, fun _ _ h => h, rfl, l1, fun p hp => rdL_mem p hp, l2, l3, by simp, .nil, ?_⟩
      cases draw with
      | true => rw [← hh rfl]; exact hr'
      | false => exact hr'.hist0
    unfold nextH at h1
    cases draw with
    | false =>
      simp only [Option.some.injEq, Prod.mk.injEq] at h1
      exact fin [] (fun h => by cases h) (h1.1 ▸ hg) ((h1.2 ▸ hr) X hX)
    | true =>
      simp only [normG_eq, Option.some.injEq, Prod.mk.injEq] at h1
      exact fin _ (fun _ => rfl) (h1.1 ▸ hg) ((h1.2 ▸ hr) X hX)
  · cases h
end
end Go.E

/- The walk anew, part 22: a step of whatever kind, found by trying. -/
set_option linter.unusedSimpArgs false
set_option linter.unusedVariables false
namespace Go.E

theorem gApp {g2 : Prop} {i p m m2 b : Nat} {R : Prop} (h1 : g2) (h2 : i + p = m) (h3 : p + m2 ≤ 1000000) (hb : Nat.ble b 1000 = true) (h4 : R) : g2 ∧ i + p = m ∧ p + m2 ≤ maxLen ∧ (p + m2) * b ≤ 140737488355328 ∧ R :=
  ⟨h1, h2, Nat.le_trans h3 (by decide), by have := Nat.le_of_ble_eq_true hb; have := Nat.mul_le_mul h3 this; omega, h4⟩
theorem gApp0 {g2 : Prop} {m2 b : Nat} {R : Prop} (h1 : g2) (h3 : m2 ≤ 1000000) (hb : Nat.ble b 1000 = true) (h4 : R) : g2 ∧ m2 ≤ maxLen ∧ m2 * b ≤ 140737488355328 ∧ R :=
  ⟨h1, Nat.le_trans h3 (by decide), by have := Nat.le_of_ble_eq_true hb; have := Nat.mul_le_mul h3 this; omega, h4⟩
theorem gRow {p : Prop} (h : p := by first | exact fun _ _ => rfl | (intro q hq; have hz : q = 0 := (by omega); subst hz; rfl)) : p := h
/-- One step, of whatever kind has one way on. -/
theorem d1 {p q : Prop} (k : q) (h : q → p := by first | exact dC (fun _ => rfl) | exact dR (fun _ => rfl) | exact dA (fun _ => rfl) (by omega) | exact dB rfl rfl rfl rfl (fun _ => rfl) | exact dG (fun _ => rfl) trivial | exact dG (fun _ => rfl) (by omega) | exact dG (fun _ => rfl) (gApp (by first | omega | exact True.intro) (by omega) (by omega) (by rfl) (by exact gRow)) | exact dG (fun _ => rfl) (gApp0 (by first | omega | exact True.intro) (by omega) (by rfl) (by exact gRow)) | exact dR1 (fun _ => rfl) | exact dZ (by kernel_rfl)) : p := h k
section
variable {P : Program} {T : Tab} {K : Ctx P T → Prop} {n : Nat} {ops : Array Oper} {draw : Bool} {α : Type} {Po : α → Prop} {KD : α → List (Nat × AV) → List Ch → List Nat → Prop} {o : Oper} {l : List Oper} {hist : List FP} {s : List (Nat × AV)} {c : List Ch} {N : List Nat}
/-- The slot that tells whether an operation is done. -/
def slotO (ops : List Oper) (o : Oper) : Option Nat := match o.guard with
  | some (j, _) => (match ops[j]? with
    | some oj => oj.dst
    | none => none)
  | none => none
/-- The ways part at an operation that is not always done. -/
theorem dSI {b : Bool} {d : Nat} (hd : slotO ops.toList o = some d) (hb : get s d = some (.v (.bool b))) (ht : b = true → DE Po fun r => WO K n ops draw (KD r) (o :: l) hist ((d, .v (.bool true)) :: s) c N)
    (hf : b = false → DE Po fun r => WO K n ops draw (KD r) (o :: l) hist ((d, .v (.bool false)) :: s) c N) : DE Po fun r => WO K n ops draw (KD r) (o :: l) hist s c N := dS _ hb ht hf
theorem dSP {p : Prop} [Decidable p] {d : Nat} (hd : slotO ops.toList o = some d) (hb : get s d = some (.v (.bool (decide p)))) (ht : p → DE Po fun r => WO K n ops draw (KD r) (o :: l) hist ((d, .v (.bool true)) :: s) c N)
    (hf : ¬ p → DE Po fun r => WO K n ops draw (KD r) (o :: l) hist ((d, .v (.bool false)) :: s) c N) : DE Po fun r => WO K n ops draw (KD r) (o :: l) hist s c N := dS _ hb (fun h => ht (of_decide_eq_true h)) (fun h => hf (of_decide_eq_false h))
theorem dSN {p : Prop} [Decidable p] {d : Nat} (hd : slotO ops.toList o = some d) (hb : get s d = some (.v (.bool (!decide p)))) (ht : ¬ p → DE Po fun r => WO K n ops draw (KD r) (o :: l) hist ((d, .v (.bool true)) :: s) c N)
    (hf : p → DE Po fun r => WO K n ops draw (KD r) (o :: l) hist ((d, .v (.bool false)) :: s) c N) : DE Po fun r => WO K n ops draw (KD r) (o :: l) hist s c N := dS _ hb (fun h => ht (by simpa using h)) (fun h => hf (by simpa using h))
end
/-- A test. -/
theorem d2 {p q1 q2 : Prop} (k1 : q1) (k2 : q2) (h : q1 → q2 → p := by first | exact fun a b => dP rfl a b | exact fun a b => dN rfl a b | exact fun a b => dI rfl a b | exact fun a b => dSP rfl rfl a b | exact fun a b => dSN rfl rfl a b | exact fun a b => dSI rfl rfl a b) : p := h k1 k2
end Go.E

/- The walk anew, part 23: a step by its local law; maps. -/
set_option linter.unusedSimpArgs false
set_option linter.unusedVariables false
namespace Go.E
open Go.RowKit Go.MapKept

/-! ### Keys, and maps as lists -/
structure Key (P : Program) (kt : TypeId) (α : Type) where
  kv : α → Value
  av : α → AV
  d : TypeDesc
  hd : P.underlying kt = some d
  ik : ∀ a, IsKey d (kv a)
  inj : ∀ a b, kv a = kv b → a = b
  rep : ∀ a e y, Rep (av a) e y → y = kv a
  sb : ∀ a, Instr.sameBits 10000 (kv a) (kv a) = true
def intKey {P : Program} {kt : TypeId} (h : P.underlying kt = some (.int .i64)) : Key P kt Int := ⟨fun i => .int .i64 i, fun i => .v (.int .i64 i), _, h, fun _ => rfl, fun a b h => by cases h; rfl, fun a e y h => by simpa only [Rep] using h, fun a => by simp [Instr.sameBits]⟩
def strKey {P : Program} {kt : TypeId} (h : P.underlying kt = some .string) : Key P kt (List UInt8) := ⟨S, .s, _, h, fun _ => trivial, fun a b h => by
  simp only [S, Value.string.injEq, ByteArray.mk.injEq] at h
  exact (List.toArray_inj h), fun a e y h => by simpa only [Rep] using h, fun a => by simp only [Instr.sameBits, S]; exact (MapKept.bytes_beq _ _).2 rfl⟩
def lk {α β : Type} [DecidableEq α] (k : α) : List (α × β) → Option β
  | [] => none
  | (j, x) :: r => if j = k then some x else lk k r
def updE {α β : Type} [DecidableEq α] (k : α) (x : β) : List (α × β) → List (α × β)
  | [] => [(k, x)]
  | (j, y) :: r => if j = k then (j, x) :: r else (j, y) :: updE k x r
def delE {α β : Type} [DecidableEq α] (k : α) : List (α × β) → List (α × β)
  | [] => []
  | (j, y) :: r => if j = k then r else (j, y) :: delE k r
def mapT {P : Program} {kt : TypeId} {α β : Type} (K : Key P kt α) (vf : β → AV) (es : List (α × β)) : List (Value × AV) := es.map fun q => (K.kv q.1, vf q.2)
theorem updE_new {α β : Type} [DecidableEq α] {k : α} {x : β} : ∀ {es : List (α × β)}, lk k es = none → updE k x es = es ++ [(k, x)]
  | [], _ => rfl
  | (j, y) :: r, h => by
    simp only [lk] at h
    split at h
    · cases h
    · rename_i hj
      simp only [updE, if_neg hj, updE_new h, List.cons_append]

section
variable {P : Program}
theorem find_map {α β : Type} [DecidableEq α] {kt : TypeId} (K : Key P kt α) (vf : β → AV) (e : Env) (k : α) : ∀ (arr : List MapEntry) (es : List (α × β)) (i : Nat), arr.map (·.key) = es.map (fun q => K.kv q.1) → RepT (es.map fun q => vf q.2) e (arr.map (·.val)) →
    (Instr.findNow K.d (K.kv k) arr i = some none ∧ lk k es = none ∧ delE k es = es) ∨
    (∃ j en x, Instr.findNow K.d (K.kv k) arr i = some (some (i + j, en.val)) ∧ arr[j]? = some en ∧ en.key = K.kv k ∧ lk k es = some x ∧ Rep (vf x) e en.val ∧
      (∀ y, (updE k y es).map (fun q => K.kv q.1) = es.map (fun q => K.kv q.1) ∧ (updE k y es).map (fun q => vf q.2) = (es.map fun q => vf q.2).set j (vf y)) ∧ delE k es = es.eraseIdx j)
  | [], [], i, _, _ => .inl ⟨rfl, rfl, rfl⟩
  | [], _ :: _, i, h, _ => by simp at h
  | _ :: _, [], i, h, _ => by simp at h
  | en :: arr, (j, x) :: es, i, h, hr => by
    simp only [List.map_cons, List.cons.injEq] at h hr
    simp only [RepT] at hr
    obtain ⟨z, zs, ⟨rfl, rfl⟩, hr1, hr2⟩ := hr
    obtain ⟨b, hb, hiff⟩ := sameNow_of_keys (K.ik k) (h.1 ▸ K.ik j)
    cases b with
    | true =>
      have hkj : K.kv k = en.key := hiff.1 rfl
      have : j = k := K.inj _ _ (by rw [← h.1, hkj])
      subst this
      refine .inr ⟨0, en, x, by simp [Instr.findNow, hb], rfl, hkj.symm, by simp [lk], hr1, fun y => ?_, by simp [delE]⟩
      simp [updE]
    | false =>
      have hkj : K.kv k ≠ en.key := fun hh => by have := hiff.2 hh; cases this
      have hne : j ≠ k := fun hh => hkj (by rw [h.1, hh])
      rcases find_map K vf e k arr es (i + 1) h.2 hr2 with ⟨h1, h2, h3⟩ | ⟨q, e', x', h1, h2, h3, h4, h5, h6, h7⟩
      · exact .inl ⟨by simp [Instr.findNow, hb, h1], by simp [lk, hne, h2], by simp [delE, hne, h3]⟩
      · refine .inr ⟨q + 1, e', x', by simp [Instr.findNow, hb, h1]; omega, by simpa using h2, h3, by simp [lk, hne, h4], h5, fun y => ?_, by simp [delE, hne, h7]⟩
        obtain ⟨g1, g2⟩ := h6 y
        simp [updE, hne, g1, g2]
theorem map_modify_val {arr : Array MapEntry} {i : Nat} {f : MapEntry → MapEntry} {en : MapEntry} (hi : arr[i]? = some en) : (arr.modify i f).toList.map (·.val) = (arr.toList.map (·.val)).set i (f en).val := by
  apply List.ext_getElem?
  intro j
  rw [List.getElem?_set]
  simp only [List.getElem?_map, Array.getElem?_toList, Array.getElem?_modify, List.length_map, Array.length_toList]
  obtain ⟨hlt, rfl⟩ := Array.getElem?_eq_some_iff.1 hi
  by_cases hij : i = j
  · subst hij; simp [hlt]
  · simp [hij]
theorem map_modify_born {arr : Array MapEntry} {i : Nat} {f : MapEntry → MapEntry} (hf : ∀ e, (f e).born = e.born) : (arr.modify i f).toList.map (·.born) = arr.toList.map (·.born) := by
  apply List.ext_getElem?
  intro j
  simp only [List.getElem?_map, Array.getElem?_toList, Array.getElem?_modify]
  by_cases hij : i = j
  · subst hij
    cases arr[i]? with
    | none => simp
    | some e => simp [hf]
  · simp [hij]
theorem repT_set {e : Env} : ∀ {xs : List AV} {vs : List Value} (j : Nat) {x : AV} {v : Value}, RepT xs e vs → Rep x e v → RepT (xs.set j x) e (vs.set j v)
  | [], vs, j, x, v, h, hx => by simp only [RepT] at h; subst h; simp [RepT]
  | y :: xs, vs, j, x, v, h, hx => by
    simp only [RepT] at h
    obtain ⟨z, zs, rfl, h1, h2⟩ := h
    cases j with
    | zero => simp only [List.set_cons_zero, RepT]; exact ⟨v, zs, rfl, hx, h2⟩
    | succ j => simp only [List.set_cons_succ, RepT]; exact ⟨z, _, rfl, h1, repT_set j h2 hx⟩
theorem map_eraseIdx' {α β : Type} (f : α → β) : ∀ (l : List α) (i : Nat), (l.eraseIdx i).map f = (l.map f).eraseIdx i
  | [], i => by simp
  | a :: l, 0 => by simp
  | a :: l, i + 1 => by simp [map_eraseIdx' f l i]
theorem repT_erase {e : Env} : ∀ {xs : List AV} {vs : List Value} (j : Nat), RepT xs e vs → RepT (xs.eraseIdx j) e (vs.eraseIdx j)
  | [], vs, j, h => by simp only [RepT] at h; subst h; simp [RepT]
  | y :: xs, vs, j, h => by
    simp only [RepT] at h
    obtain ⟨z, zs, rfl, h1, h2⟩ := h
    cases j with
    | zero => simpa using h2
    | succ j => simp only [List.eraseIdx_cons_succ, RepT]; exact ⟨z, _, rfl, h1, repT_erase j h2⟩
end

/-! ### Steps by their local law -/
def guardT (ops : List Oper) (n : Nat) (s : List (Nat × AV)) (o : Oper) : Bool := (match guardA ops s o with
  | some true => true
  | _ => false) && dstOK n o.dst
def afterL (ops : List Oper) (draw : Bool) (hist : List FP) (s : List (Nat × AV)) (o : Oper) (N : List Nat) (ro us vs : List Ch) (ns : List Nat) (x : AV) (c' : List Ch) {β : Type} (k : List FP → List (Nat × AV) → List Ch → List Nat → β) : Option β :=
  nextS o.dst x s fun s' => normG c' fun c' => normG (ns ++ N) fun N' => normG (rdL s (o.op.operands.toList ++ guardOp ops o)) fun rd => nextH draw hist o rd us vs ro fun h' => some (k h' s' c' N')

section
variable {P : Program} {T : Tab} {K : Ctx P T → Prop} {n : Nat} {ops : Array Oper} {draw : Bool} {α : Type} {Po : α → Prop} {S' : α → Prop} {KD : α → List (Nat × AV) → List Ch → List Nat → Prop}

theorem opd_rd {s : List (Nat × AV)} {l : List Operand} {q : Operand} {x : AV} (hm : q ∈ l) (h : opd s q = some x) : opd (rdL s l) q = some x := by
  have := opdL_rd (s := s) (l := [q]) (l2 := l) (xs := [x]) (by simpa using hm) (by simp [opdL, h])
  simp only [opdL] at this
  split at this
  · rename_i h1 h2; cases h2; simp only [Option.some.injEq, List.cons.injEq, and_true] at this; rw [h1, this]
  · cases this
theorem dLoc {o : Oper} {l : List Oper} {hist : List FP} {s : List (Nat × AV)} {c c' cr : List Ch} {N : List Nat} (ro us vs : List Ch) (ns : List Nat) (x : AV) (k : DE Po S') (hq : guardT ops.toList n s o = true)
    (hrun : ∀ (X : Ctx P T) e fr c a w, K X → Rel X n e fr (rdL s (o.op.operands.toList ++ guardOp ops.toList o)) (ro ++ us ++ c) a w → (∀ k ∈ ns, fr k) → ∃ v w' e', ((execOp a.eval o).run P w = .ok (.value v) w' ∨ (execOp a.eval o).run P w = .ok .skip w' ∧ o.dst = none) ∧
      Env.le e e' ∧ Rep x e' v ∧ MemOK X e' (fun k => fr k ∧ k ∉ ns) (ro ++ vs ++ c) w')
    (hc : c.Perm (ro ++ us ++ cr)) (hc' : c'.Perm (ro ++ vs ++ cr)) (hns : freshN ns N = true)
    (h : ∀ r, afterL ops.toList draw hist s o N ro us vs ns x c' (fun h' s' c' N' => WO K n ops draw (KD r) l h' s' c' N') = some (S' r)) : DE Po fun r => WO K n ops draw (KD r) (o :: l) hist s c N := by
  refine k.imp fun r hr X hX => ?_
  have hh := h r
  unfold afterL at hh
  rw [nextS_eq, normG_eq, normG_eq, normG_eq] at hh
  simp only [guardT, Bool.and_eq_true] at hq
  have hg : guardA ops.toList s o = some true := by
    have := hq.1
    split at this
    · assumption
    · cases this
  have hloc : LocOK X n ops ⟨o, rdL s (o.op.operands.toList ++ guardOp ops.toList o), ro, us, vs, ns, x⟩ :=
    LocOK.of (fun e fr c a w rel => guardA_sound rel (guardA_rd hg (fun q hq => List.mem_append.2 (.inr hq)))) hq.2 (fun e fr c a w rel hf => hrun X e fr c a w hX rel hf) (fun s' hs' => get_rd hs')
  obtain ⟨f1, f2⟩ := freshN_spec hns
  unfold nextH at hh
  cases draw with
  | false =>
    simp only [Option.some.injEq] at hh
    have hr' := hh ▸ hr
    exact ⟨s, _, _, cr, fun _ _ h => h, rfl, hloc, fun p hp => rdL_mem p hp, hc, hc', f1, f2, (hr' X hX).hist0⟩
  | true =>
    simp only [normG_eq, Option.some.injEq] at hh
    have hr' := hh ▸ hr
    exact ⟨s, _, _, cr, fun _ _ h => h, rfl, hloc, fun p hp => rdL_mem p hp, hc, hc', f1, f2, hr' X hX⟩

variable (hT : TabOK P T)
theorem TabOK.map_ {t sz by_ : Nat} {ag : Bool} {z : List Value} {kt et : Nat} (hT : TabOK P T) (h : T t = some ⟨sz, by_, ag, z, .map kt et⟩) : P.underlying t = some (.map kt et) := by
  obtain ⟨d, h1, _, h2⟩ := (hT _ _ h).desc
  simp only [TDOK] at h2
  rw [h1, h2]
def zeroA (i : TI) : Option AV := loadA i (i.zero.map constA)
theorem zeroA_sound (hT : TabOK P T) {t : Nat} {i : TI} {x : AV} (ht : T t = some i) (h : zeroA i = some x) (e : Env) (w : World) : ∃ v, (zeroValue t).run P w = .ok v w ∧ Rep x e v := by
  obtain ⟨pi, z, h1, h2, h3, h4, h5, h6, h7⟩ := (hT _ _ ht).info
  obtain ⟨dd, d1, d2, d3⟩ := (hT _ _ ht).desc
  refine ⟨z, by simp [zeroValue, typeInfo, h1, h4], ?_⟩
  have hag := (hT _ _ ht).zag _ _ h1 h4
  unfold zeroA loadA at h
  have hz := zero_sound e h6
  split at h
  · rename_i ha
    rw [ha] at hag
    split at h
    · rw [normG_eq] at h
      cases h
      rw [List.take_of_length_le (by simp [h7])]
      cases z <;> simp [isAggV] at hag
      simp only [Rep]
      refine ⟨_, rfl, ?_⟩
      simp only [Value.cells] at h5
      rw [h5]; exact hz
    · cases h
  · rename_i ha
    rw [ha] at hag
    have hc : z.cells.toList = [z] := by cases z <;> simp_all [isAggV, Value.cells]
    rw [hc] at h5
    rw [← h5] at h
    simp only [List.map_cons, List.map_nil, Option.some.injEq] at h
    subst h
    exact constA_sound e

section
variable {Kt Vt : Type} [DecidableEq Kt] {kt : TypeId}
theorem oper_eta {o : Oper} {dst : Option Nat} {op : Op} (h1 : o.dst = dst) (h2 : o.op = op) : o = ⟨dst, op, o.type, o.pos, o.after, o.guard⟩ := by
  cases o; cases h1; cases h2; rfl
/-- A map is made. -/
theorem dMm (K1 : Key P kt Kt) (vf : Vt → AV) {o : Oper} {l : List Oper} {hist : List FP} {s : List (Nat × AV)} {c : List Ch} {N : List Nat} {mt d : Nat} (k : DE Po S') (hd : o.dst = some d := by rfl) (ho : o.op = .makeMap mt none := by rfl)
    (hq : guardT ops.toList n s o = true := by rfl) (hns : freshN [d] N = true := by rfl)
    (h : ∀ r, afterL ops.toList draw hist s o N [] [] [.map d (mapT K1 vf ([] : List (Kt × Vt)))] [d] (.mp d) (.map d (mapT K1 vf ([] : List (Kt × Vt))) :: c) (fun h' s' c' N' => WO K n ops draw (KD r) l h' s' c' N') = some (S' r) := by intros; rfl) :
    DE Po fun r => WO K n ops draw (KD r) (o :: l) hist s c N := by
  have _ := (inferInstance : DecidableEq Kt)
  refine dLoc (cr := c) [] [] [.map d (mapT K1 vf [])] [d] (.mp d) k hq (fun X e fr c2 a w _ rel hf => ?_) (.refl _) (.refl _) hns h
  rw [oper_eta hd ho]
  refine ⟨.map (some w.heap.size), w.alloc (.map #[] 0), bind1 e d (w.heap.size, 0, 0), .inl rfl, bind1_le (rel.mem.free d (hf d (by simp))), by simp only [Rep]; exact ⟨_, _, _, bind1_at, rfl⟩, ?_⟩
  have := MemOK.alloc (κ := 0) (ob := .map #[] 0) (x := .map d (mapT K1 vf ([] : List (Kt × Vt)))) (F := fun b _ => b = w.heap.size) (k := d) (c := c2) rel.mem (hf d (by simp)) ⟨w.heap.size, 0, 0, bind1_at, rfl, #[], 0, (MapKept.heap_alloc w _).1, by simp, by simp, rfl, by simp [mapT, RepT]⟩ (fun _ _ h => h)
  exact this.fr_le fun k hk => ⟨hk.1, by simpa using hk.2⟩

theorem mapT_get {e : Env} {w : World} {d : Nat} {K1 : Key P kt Kt} {vf : Vt → AV} {es : List (Kt × Vt)} {F : Foot} (h : ChOK e w (.map d (mapT K1 vf es)) F) {y : Value} (hy : Rep (.mp d) e y) :
    ∃ b arr cl, y = .map (some b) ∧ (F = fun x _ => x = b) ∧ (∃ β κ, e.μ d = some (b, β, κ)) ∧ w.heap[b]? = some (.map arr cl) ∧ (arr.toList.map (·.born)).Nodup ∧ (∀ x ∈ arr.toList, x.born < cl) ∧ arr.toList.map (·.key) = es.map (fun q => K1.kv q.1) ∧ RepT (es.map fun q => vf q.2) (.bare e.G) (arr.toList.map (·.val)) := by
  have _ := (inferInstance : DecidableEq Kt)
  obtain ⟨b, β, κ, h1, h2, arr, cl, h3, h4, h5, h6, h7⟩ := h
  simp only [Rep] at hy
  obtain ⟨b', β', κ', g1, g2⟩ := hy
  rw [h1] at g1; cases g1
  refine ⟨b, arr, cl, g2, h2, ⟨β, κ, h1⟩, h3, h4, h5, by rw [h6]; simp [mapT], ?_⟩
  simpa [mapT, Function.comp_def] using h7

/-- m[k]. -/
theorem dMl (K1 : Key P kt Kt) (vf : Vt → AV) (z : Vt) (hT : TabOK P T) {o : Oper} {l : List Oper} {hist : List FP} {s : List (Nat × AV)} {c : List Ch} {N : List Nat} {es : List (Kt × Vt)} {key : Kt} {mt et d sz by_ : Nat} {ag : Bool} {zz : List Value} {ti : TI} {m xo : Operand} {cok : Bool} (k : DE Po S') (ho : o.op = .lookup mt m xo cok := by rfl)
    (hm : T mt = some ⟨sz, by_, ag, zz, .map kt et⟩ := by rfl) (he : T et = some ti := by rfl) (hz : zeroA ti = some (vf z) := by rfl) (hmo : opd s m = some (.mp d) := by rfl) (hx : opd s xo = some (K1.av key) := by rfl) (hc : getC d c = some (.map d (mapT K1 vf es)) := by rfl) (hq : guardT ops.toList n s o = true := by rfl)
    (h : ∀ r, afterL ops.toList draw hist s o N [.map d (mapT K1 vf es)] [] [] [] (bif cok then .tup [vf ((lk key es).getD z), .v (.bool (lk key es).isSome)] else vf ((lk key es).getD z)) c (fun h' s' c' N' => WO K n ops draw (KD r) l h' s' c' N') = some (S' r) := by intros; rfl) :
    DE Po fun r => WO K n ops draw (KD r) (o :: l) hist s c N := by
  have hops : m ∈ o.op.operands.toList ++ guardOp ops.toList o ∧ xo ∈ o.op.operands.toList ++ guardOp ops.toList o := by rw [ho]; simp [Op.operands]
  refine dLoc (cr := delC d c) [.map d (mapT K1 vf es)] [] [] [] _ k hq (fun X e fr c2 a w _ rel hf => ?_) (by simpa using (getC_perm hc).1) (by simpa using (getC_perm hc).1) rfl h
  obtain ⟨F, hch, _⟩ := MemOK.head (x := .map d (mapT K1 vf es)) (c := c2) rel.mem
  have h1 := opd_sound rel (opd_rd hops.1 hmo)
  have h2 := K1.rep _ _ _ (opd_sound rel (opd_rd hops.2 hx))
  obtain ⟨b, arr, cl, hy, _, _, g1, g2, g3, g4, g5⟩ := mapT_get hch h1
  obtain ⟨zv, z1, z2⟩ := zeroA_sound hT he hz e w
  have hund := TabOK.map_ hT hm
  have key1 : ∃ v, Rep (vf ((lk key es).getD z)) e v ∧ (Instr.lookup mt (.map (some b)) (K1.kv key) cok).run P w = .ok (if cok then .tuple #[v, .bool (lk key es).isSome] else v) w := by
    rcases find_map K1 vf (.bare e.G) key arr.toList es 0 g4 g5 with ⟨f1, f2, _⟩ | ⟨jj, en, xx, f1, f2, f3, f4, f5, f6, _⟩
    · have hf := run_findKey (w := w) K1.hd f1
      refine ⟨zv, by rw [f2]; exact z2, ?_⟩
      simp [Instr.lookup, run_underlying hund, MapKept.run_getObj_map g1, run_checkKey K1.hd (K1.ik key), hf, z1, f2]
    · have hf := run_findKey (w := w) K1.hd f1
      refine ⟨en.val, by rw [f4]; exact f5.ofBare, ?_⟩
      simp [Instr.lookup, run_underlying hund, MapKept.run_getObj_map g1, run_checkKey K1.hd (K1.ik key), hf, f4]
  obtain ⟨v, v1, v2⟩ := key1
  refine ⟨if cok then .tuple #[v, .bool (lk key es).isSome] else v, w, e, .inl (by rw [oper_eta rfl ho]; simp only [execOp, hy, h2, Sem.run_bind, v2, Result.andThen_ok, Sem.run_pure]), Env.le_refl e, ?_, rel.mem.fr_le fun k hk => hk.1⟩
  cases cok with
  | false => exact v1
  | true => simp only [cond_true, if_true, Rep, RepT]; exact ⟨_, rfl, _, _, rfl, v1, _, _, rfl, rfl, rfl⟩

theorem map_turn {X : Ctx P T} {e : Env} {fr : Nat → Prop} {c : List Ch} {w : World} {K1 : Key P kt Kt} {vf : Vt → AV} {es es' : List (Kt × Vt)} {d b β κ cl cl' : Nat} {arr arr' : Array MapEntry} (m : MemOK X e fr (.map d (mapT K1 vf es) :: c) w) (hb : e.μ d = some (b, β, κ)) (g1 : w.heap[b]? = some (.map arr cl))
    (k1 : arr'.toList.map (·.key) = es'.map (fun q => K1.kv q.1)) (k2 : RepT (es'.map fun q => vf q.2) (.bare e.G) (arr'.toList.map (·.val))) (k3 : (arr'.toList.map (·.born)).Nodup) (k4 : ∀ x ∈ arr'.toList, x.born < cl') :
    MemOK X e fr (.map d (mapT K1 vf es') :: c) { w with heap := w.heap.setIfInBounds b (.map arr' cl') } := by
  have _ := (inferInstance : DecidableEq Kt)
  have hlt : b < w.heap.size := (Array.getElem?_eq_some_iff.1 g1).1
  have hother : ∀ x, x ≠ b → (w.heap.setIfInBounds b (.map arr' cl'))[x]? = w.heap[x]? := fun x hx => by simp [Ne.symm hx]
  refine MemOK.upd1 (vs := [_]) m (Env.le_refl e) m.free rfl rfl rfl (by simp) fun Fu hch hFu => ?_
  obtain ⟨b', β', κ', q1, rfl, _⟩ := hch
  rw [hb] at q1; cases q1
  refine ⟨fun x o _ hx => atw_of (hother x hx) o, _, SepOK.one.2 ⟨_, ⟨b, β, κ, hb, rfl, arr', cl', by simp [hlt], k3, k4, by rw [k1]; simp [mapT], by simpa [mapT, Function.comp_def] using k2⟩, fun _ _ => .rfl⟩, ?_, fun _ _ _ h => .inl h⟩
  intro x o hx
  have := hFu x o hx
  exact ⟨.inl hx, by simpa using this.1, this.2⟩

/-- m[k] = x. -/
theorem dMu (K1 : Key P kt Kt) (vf : Vt → AV) (val : Vt) (hT : TabOK P T) {o : Oper} {l : List Oper} {hist : List FP} {s : List (Nat × AV)} {c : List Ch} {N : List Nat} {es : List (Kt × Vt)} {key : Kt} {mt et d sz by_ : Nat} {ag : Bool} {zz : List Value} {m xo yo : Operand} (k : DE Po S') (hd : o.dst = none := by rfl) (ho : o.op = .mapUpdate mt m xo yo := by rfl)
    (hm : T mt = some ⟨sz, by_, ag, zz, .map kt et⟩ := by rfl) (hmo : opd s m = some (.mp d) := by rfl) (hx : opd s xo = some (K1.av key) := by rfl) (hy : opd s yo = some (vf val) := by rfl) (hnl : (vf val).nl = true := by rfl) (hc : getC d c = some (.map d (mapT K1 vf es)) := by rfl) (hq : guardT ops.toList n s o = true := by rfl)
    (h : ∀ r, afterL ops.toList draw hist s o N [] [.map d (mapT K1 vf es)] [.map d (mapT K1 vf (updE key val es))] [] (.tup []) (setC d (.map d (mapT K1 vf (updE key val es))) c) (fun h' s' c' N' => WO K n ops draw (KD r) l h' s' c' N') = some (S' r) := by intros; rfl) :
    DE Po fun r => WO K n ops draw (KD r) (o :: l) hist s c N := by
  have hops : m ∈ o.op.operands.toList ++ guardOp ops.toList o ∧ xo ∈ o.op.operands.toList ++ guardOp ops.toList o ∧ yo ∈ o.op.operands.toList ++ guardOp ops.toList o := by rw [ho]; simp [Op.operands]
  refine dLoc (cr := delC d c) [] [.map d (mapT K1 vf es)] [.map d (mapT K1 vf (updE key val es))] [] (.tup []) k hq (fun X e fr c2 a w _ rel hf => ?_) (by simpa using (getC_perm hc).1) (by simpa using (getC_perm hc).2.1 _) rfl h
  obtain ⟨F, hch, _⟩ := MemOK.head (x := .map d (mapT K1 vf es)) (c := c2) rel.mem
  have h1 := opd_sound rel (opd_rd hops.1 hmo)
  have h2 := K1.rep _ _ _ (opd_sound rel (opd_rd hops.2.1 hx))
  have h3 := Rep.nl _ hnl (opd_sound rel (opd_rd hops.2.2 hy))
  obtain ⟨b, arr, cl, hyy, _, ⟨β, κ, hb⟩, g1, g2, g3, g4, g5⟩ := mapT_get hch h1
  have hund := TabOK.map_ hT hm
  have fin : ∀ (arr' : Array MapEntry) (cl' : Nat), (Instr.mapUpdate mt (.map (some b)) (K1.kv key) (a.eval yo)).run P w = .ok () { w with heap := w.heap.setIfInBounds b (.map arr' cl') } →
      arr'.toList.map (·.key) = (updE key val es).map (fun q => K1.kv q.1) → RepT ((updE key val es).map fun q => vf q.2) (.bare e.G) (arr'.toList.map (·.val)) → (arr'.toList.map (·.born)).Nodup → (∀ x ∈ arr'.toList, x.born < cl') →
      ∃ v w' e', ((execOp a.eval o).run P w = .ok (.value v) w' ∨ (execOp a.eval o).run P w = .ok .skip w' ∧ o.dst = none) ∧ Env.le e e' ∧ Rep (.tup []) e' v ∧ MemOK X e' (fun k => fr k ∧ k ∉ ([] : List Nat)) ([] ++ [.map d (mapT K1 vf (updE key val es))] ++ c2) w' := by
    intro arr' cl' hrun k1 k2 k3 k4
    refine ⟨.tuple #[], _, e, .inr ⟨by rw [oper_eta rfl ho]; simp only [execOp, hyy, h2, Sem.run_bind, hrun, Result.andThen_ok, Sem.run_pure]; rfl, hd⟩, Env.le_refl e, by simp [Rep, RepT], ?_⟩
    exact (map_turn (c := c2) rel.mem hb g1 k1 k2 k3 k4).fr_le fun k hk => hk.1
  rcases find_map K1 vf (.bare e.G) key arr.toList es 0 g4 g5 with ⟨f1, f2, _⟩ | ⟨jj, en, xx, f1, f2, f3, f4, f5, f6, _⟩
  · have hf := run_findKey (w := w) K1.hd f1
    refine fin (arr.push ⟨K1.kv key, a.eval yo, cl⟩) (cl + 1) ?_ ?_ ?_ ?_ ?_
    · simp [Instr.mapUpdate, run_underlying hund, MapKept.run_getObj_map g1, run_checkKey K1.hd (K1.ik key), hf, MapKept.run_setObj_map _ g1]
    · rw [updE_new f2]; simp [g4]
    · rw [updE_new f2]
      simp only [Array.toList_push, List.map_append, List.map_cons, List.map_nil]
      exact RepT.app g5 (by simp only [RepT]; exact ⟨_, [], rfl, h3, rfl⟩)
    · simp only [Array.toList_push, List.map_append, List.map_cons, List.map_nil]
      refine List.nodup_append.2 ⟨g2, by simp, ?_⟩
      intro u hu v hv
      simp only [List.mem_singleton] at hv
      subst hv
      obtain ⟨xx, hxx, rfl⟩ := List.mem_map.1 hu
      exact Nat.ne_of_lt (g3 xx hxx)
    · intro xx hxx
      simp only [Array.toList_push, List.mem_append, List.mem_singleton] at hxx
      rcases hxx with hxx | rfl
      · exact Nat.lt_succ_of_lt (g3 xx hxx)
      · exact Nat.lt_succ_self _
  · rw [Nat.zero_add] at f1
    have hf := run_findKey (w := w) K1.hd f1
    have f2' : arr[jj]? = some en := by simpa using f2
    obtain ⟨u1, u2⟩ := f6 val
    refine fin (arr.modify jj fun e => { e with key := K1.kv key, val := a.eval yo }) cl ?_ ?_ ?_ ?_ ?_
    · have hks : (Instr.keyThatStays (K1.kv key) (K1.kv key)).run P w = .ok (K1.kv key) w := by simp [Instr.keyThatStays, K1.sb key]
      simp [Instr.mapUpdate, run_underlying hund, MapKept.run_getObj_map g1, run_checkKey K1.hd (K1.ik key), hf, f2', f3, hks, MapKept.run_setObj_map _ g1]
    · rw [u1, ← g4]; exact modify_keys jj _ (fun e he => by rw [f2'] at he; cases he; exact f3.symm)
    · rw [u2, map_modify_val f2']
      exact repT_set jj g5 h3
    · rw [map_modify_born (f := fun e => { e with key := K1.kv key, val := a.eval yo }) (fun e => rfl)]; exact g2
    · intro xx hxx
      have : xx.born ∈ (arr.modify jj fun e => { e with key := K1.kv key, val := a.eval yo }).toList.map (·.born) := List.mem_map.2 ⟨xx, hxx, rfl⟩
      rw [map_modify_born (f := fun e => { e with key := K1.kv key, val := a.eval yo }) (fun e => rfl)] at this
      obtain ⟨y', hy', e'⟩ := List.mem_map.1 this
      rw [← e']; exact g3 y' hy'
end
end
end Go.E

/- The walk anew, part 24: what one state says of another; memory that nobody changes any more. -/
set_option linter.unusedSimpArgs false
set_option linter.unusedVariables false
namespace Go.E
open Go.RowKit

/-! ### Values and objects told otherwise -/
/-- New names of slices that have no room. -/
def NvOK (nv : List (Nat × Nat)) (e : Env) : Prop := ∀ p ∈ nv, e.μ p.1 = some (0, 0, 0)
def RI (nv : List (Nat × Nat)) (x y : AV) : Prop := ∀ e v, NvOK nv e → Rep x e v → Rep y e v
def CI (nv : List (Nat × Nat)) (x y : Ch) : Prop := ∀ e w F, NvOK nv e → ChOK e w x F → ChOK e w y F
section
variable {nv : List (Nat × Nat)}
theorem RI.refl {x : AV} : RI nv x x := fun _ _ _ h => h
theorem RI.own {k e i n m : Nat} (h : n = m) : RI nv (.own k e i n) (.own k e i m) := h ▸ RI.refl
theorem RI.sl {n m e : Nat} {row row' : Nat → List AV} (h : n = m) (hr : ∀ i, i < m → row i = row' i) : RI nv (.sl n e row) (.sl m e row') := by
  subst h
  intro ev v _ hv
  simp only [Rep] at hv ⊢
  obtain ⟨a, c, h1, h2, h3⟩ := hv
  exact ⟨a, c, h1, h2, h3.imp id fun ⟨b, o, q1, q2⟩ => ⟨b, o, q1, fun i hi => hr i hi ▸ q2 i hi⟩⟩
theorem RI.nil {e : Nat} {row : Nat → List AV} : RI nv (.v (.slice none 0 0)) (.sl 0 e row) := fun ev v _ hv => by
  simp only [Rep] at hv ⊢; exact ⟨none, 0, hv, Nat.le_refl _, by simp⟩
theorem RI.new {k e n : Nat} (hk : nv.any (fun p => Nat.beq p.1 k) = true) (hn : n = 0) : RI nv (.v (.slice none 0 0)) (.own k e 0 n) := fun ev v hnv hv => by
  subst hn
  simp only [Rep] at hv ⊢
  obtain ⟨p, p1, p2⟩ := List.any_eq_true.1 hk
  cases Nat.eq_of_beq_eq_true p2
  exact ⟨0, 0, 0, none, hnv p p1, by omega, hv, by omega⟩
def RIs (nv : List (Nat × Nat)) : List AV → List AV → Prop
  | [], [] => True
  | x :: xs, y :: ys => RI nv x y ∧ RIs nv xs ys
  | _, _ => False
theorem RIs.get : ∀ {xs ys : List AV}, RIs nv xs ys → xs.length = ys.length ∧ ∀ (j : Nat) y, ys[j]? = some y → ∃ x, xs[j]? = some x ∧ RI nv x y
  | [], [], _ => ⟨rfl, by simp⟩
  | x :: xs, y :: ys, ⟨h1, h2⟩ => by
    obtain ⟨g1, g2⟩ := h2.get
    refine ⟨by simp [g1], fun j z hz => ?_⟩
    cases j with
    | zero => simp only [List.getElem?_cons_zero, Option.some.injEq] at hz; subst hz; exact ⟨x, rfl, h1⟩
    | succ j => simpa using g2 j z (by simpa using hz)
  | [], _ :: _, h => h.elim
  | _ :: _, [], h => h.elim
theorem RIs.repL {e : Env} (he : NvOK nv e) : ∀ {xs ys : List AV} {vs : List Value}, RIs nv xs ys → RepL xs e vs → RepL ys e vs
  | [], [], vs, _, r => r
  | x :: xs, y :: ys, vs, ⟨h1, h2⟩, r => by
    simp only [RepL] at r ⊢
    obtain ⟨z, zs, q, r1, r2, r3⟩ := r
    exact ⟨z, zs, q, h1 _ _ he r1, r2, h2.repL he r3⟩
  | [], _ :: _, _, h, _ => h.elim
  | _ :: _, [], _, h, _ => h.elim
theorem RIs.repT {e : Env} (he : NvOK nv e) : ∀ {xs ys : List AV} {vs : List Value}, RIs nv xs ys → RepT xs e vs → RepT ys e vs
  | [], [], vs, _, r => r
  | x :: xs, y :: ys, vs, ⟨h1, h2⟩, r => by
    simp only [RepT] at r ⊢
    obtain ⟨z, zs, q, r1, r3⟩ := r
    exact ⟨z, zs, q, h1 _ _ he r1, h2.repT he r3⟩
  | [], _ :: _, _, h, _ => h.elim
  | _ :: _, [], _, h, _ => h.elim
theorem RI.agg {xs ys : List AV} (h : RIs nv xs ys) : RI nv (.agg xs) (.agg ys) := fun e v he hv => by
  simp only [Rep] at hv ⊢
  obtain ⟨vs, q, r⟩ := hv
  exact ⟨vs, q, h.repL he r⟩
theorem RI.tup {xs ys : List AV} (h : RIs nv xs ys) : RI nv (.tup xs) (.tup ys) := fun e v he hv => by
  simp only [Rep] at hv ⊢
  obtain ⟨vs, q, r⟩ := hv
  exact ⟨vs, q, h.repT he r⟩
theorem CI.refl {x : Ch} : CI nv x x := fun _ _ _ _ h => h
theorem CI.vec {k e n m : Nat} {row row' : Nat → List AV} (h : n = m) (hr : ∀ i, i < m → row i = row' i) : CI nv (.vec k e n row) (.vec k e m row') := by
  subst h
  intro ev w F _ hv
  obtain ⟨b, β, κ, h1, h2, h3, h4, h5, h6⟩ := hv
  exact ⟨b, β, κ, h1, h2, h3, h4, h5, fun i hi => hr i hi ▸ h6 i hi⟩
theorem CI.map {k : Nat} {es es' : List (Value × AV)} (h : es = es') : CI nv (.map k es) (.map k es') := h ▸ CI.refl
theorem CI.box {k : Nat} {cs ds : List AV} (h : RIs nv cs ds) : CI nv (.box k cs) (.box k ds) := by
  obtain ⟨g1, g2⟩ := h.get
  intro ev w F he hv
  obtain ⟨b, β, κ, h1, h2, h3⟩ := hv
  refine ⟨b, β, κ, h1, by rw [h2, g1], fun j d hd => ?_⟩
  obtain ⟨c, c1, c2⟩ := g2 j d hd
  obtain ⟨z, z1, z2, z3⟩ := h3 j c c1
  exact ⟨z, z1, c2 _ _ he z2, z3⟩

def SubR (nv : List (Nat × Nat)) : List (Nat × AV) → List (Nat × AV) → Prop
  | [], _ => True
  | (i, x) :: r, s => (∃ y, get s i = some y ∧ RI nv y x) ∧ SubR nv r s
def AllCI (nv : List (Nat × Nat)) : List Ch → List Ch → Prop
  | [], [] => True
  | x :: xs, y :: ys => CI nv x y ∧ AllCI nv xs ys
  | _, _ => False
theorem SubR.get : ∀ {r s : List (Nat × AV)}, SubR nv r s → ∀ i x, get r i = some x → ∃ y, E.get s i = some y ∧ RI nv y x
  | [], s, _, i, x, h => by simp [E.get] at h
  | (j, y) :: r, s, ⟨h1, h2⟩, i, x, h => by
    rw [get_cons] at h
    split at h
    · rename_i hji; cases h; subst hji; exact h1
    · exact SubR.get h2 i x h
theorem AllCI.sep {e : Env} {w : World} (he : NvOK nv e) : ∀ {cs ds : List Ch} {F : Foot}, AllCI nv cs ds → SepOK e w cs F → SepOK e w ds F
  | [], [], F, _, h => h
  | c :: cs, d :: ds, F, ⟨h1, h2⟩, ⟨F1, F2, k1, k2, k3, k4⟩ => ⟨F1, F2, h1 _ _ _ he k1, h2.sep he k2, k3, k4⟩
  | [], _ :: _, F, h, _ => h.elim
  | _ :: _, [], F, h, _ => h.elim
end
/-- Other names for some. -/
def renN : List (Nat × Nat) → Nat → Nat
  | [], k => k
  | (i, j) :: r, k => match Nat.beq i k with
    | true => j
    | false => renN r k

section
variable {P : Program} {T : Tab} {Kn : IM} {nA : Nat} {EX : Ctx P T → Prop} {K : Ctx P T → Prop} {n : Nat} {st : St} {Q : Exit → St → Prop} {ops : Array Oper} {draw : Bool} {α : Type} {Po : α → Prop} {S' : α → Prop} {QD : α → Exit → St → Prop} {KD : α → List (Nat × AV) → List Ch → List Nat → Prop}

theorem Rel.ri {X : Ctx P T} {e : Env} {fr : Nat → Prop} {a : Act} {w : World} {nv : List (Nat × Nat)} {s s2 : List (Nat × AV)} {c cs c2 r : List Ch} (he : NvOK nv e) (rel : Rel X n e fr s c a w) (hs : SubR nv s2 s) (hc : c.Perm (r ++ cs)) (hi : AllCI nv cs c2) : Rel X n e fr s2 c2 a w := by
  have m := (rel.mem.perm hc).drop
  obtain ⟨F, h1, h2⟩ := m.heap
  exact ⟨rel.defers, rel.size, fun i x hx => (by
    obtain ⟨y, y1, y2⟩ := hs.get i x hx
    obtain ⟨v, v1, v2⟩ := rel.slots i y y1
    exact ⟨v, v1, y2 _ _ he v2⟩), { m with heap := ⟨F, hi.sep he h1, h2⟩ }⟩
theorem Rel.rn {X : Ctx P T} {e : Env} {fr : Nat → Prop} {a : Act} {w : World} {s2 : List (Nat × AV)} {c2 : List Ch} {N2 : List Nat} (hX : KX Kn nA EX X) (f : Nat → Nat) (rel : Rel X n e fr (s2.map fun p => (p.1, p.2.ren f)) (c2.map (Ch.ren f)) a w)
    (hA : (List.range nA).all (fun k => N2.contains k && Nat.beq (f k) k) = true) (hn : s2.all (fun p => p.2.lt N2.contains) = true) (hcn : c2.all (Ch.lt N2.contains) = true) : ∃ e2, Rel X n e2 (· ∉ N2) s2 c2 a w := by
  let e2 : Env := ⟨e.G, fun k => if k ∈ N2 then e.μ (f k) else none⟩
  have hd : ∀ k p, N2.contains k = true → e.μ (f k) = some p → e2.μ k = some p := fun k p hk hp => by show (if k ∈ N2 then _ else _) = _; rw [if_pos (by simpa using hk)]; exact hp
  have hget : ∀ {l : List (Nat × AV)} {i x}, get l i = some x → (i, x) ∈ l := by
    intro l
    induction l with
    | nil => intro i x h; cases h
    | cons p l ih =>
      intro i x h
      obtain ⟨j, y⟩ := p
      rw [get_cons] at h
      split at h
      · rename_i hji; cases h; subst hji; simp
      · exact List.mem_cons_of_mem _ (ih h)
  have hmap : ∀ {l : List (Nat × AV)} {i x}, get l i = some x → get (l.map fun p => (p.1, p.2.ren f)) i = some (x.ren f) := by
    intro l
    induction l with
    | nil => intro i x h; cases h
    | cons p l ih =>
      intro i x h
      obtain ⟨j, y⟩ := p
      simp only [List.map_cons]
      rw [get_cons] at h ⊢
      split at h
      · rename_i hji; cases h; rw [if_pos hji]
      · rename_i hji; rw [if_neg hji]; exact ih h
  have m := rel.mem
  obtain ⟨F, h1, h2⟩ := m.heap
  refine ⟨e2, ⟨rel.defers, rel.size, fun i x hx => ?_, ?_⟩⟩
  · obtain ⟨v, v1, v2⟩ := rel.slots i _ (hmap hx)
    exact ⟨v, v1, Rep.down (e0 := e2) (e1 := e) rfl hd x (List.all_eq_true.1 hn (i, x) (hget hx)) v2⟩
  · exact { m with heap := ⟨F, SepOK.down (e0 := e2) (e1 := e) rfl hd hcn h1, h2⟩, le := ⟨m.le.1, fun k p hp => (by
      have hk : k < nA := by
        rcases Nat.lt_or_ge k nA with h | h
        · exact h
        · rw [hX.nm k h] at hp; cases hp
      have hq := List.all_eq_true.1 hA k (by simpa using hk)
      simp only [Bool.and_eq_true] at hq
      refine hd k p hq.1 ?_
      rw [Nat.eq_of_beq_eq_true hq.2]; exact m.le.2 k p hp)⟩, free := fun k hk => if_neg hk }
def nilV (nv : List (Nat × Nat)) : List Ch := nv.map fun p => .vec p.1 p.2 0 (fun _ => [])
theorem nilV_sep {e : Env} {w : World} : ∀ {nv : List (Nat × Nat)} {c : List Ch} {F : Foot}, NvOK nv e → SepOK e w c F → SepOK e w (nilV nv ++ c) F
  | [], c, F, _, h => h
  | p :: nv, c, F, hnv, h => by
    refine ⟨fun x o => x = 0 ∧ 0 ≤ o ∧ o < 0 + 0 * p.2, F, ⟨0, 0, 0, hnv p (by simp), Nat.le_refl _, Nat.zero_le _, rfl, fun o _ ho => by omega, fun i hi => by omega⟩, nilV_sep (fun q hq => hnv q (List.mem_cons_of_mem _ hq)) h, fun b o q _ => by omega, fun b o => ⟨.inr, fun q => q.resolve_left fun q => by omega⟩⟩
/-- Any of these: fewer things, other names, things told otherwise, new names of slices without room. -/
theorem Le.go {s : List (Nat × AV)} {c : List Ch} {N : List Nat} {s2 : List (Nat × AV)} {c2 cs r : List Ch} {N2 : List Nat} (nv rn : List (Nat × Nat)) (ks : List Nat)
    (hs : SubR nv (s2.map fun p => (p.1, p.2.ren (renN rn))) s) (hc : AllCI nv cs (c2.map (Ch.ren (renN rn)))) (hv : nv.all (fun p => !(N.contains p.1)) = true := by rfl) (hk : pickC ks (nilV nv ++ c) = some (cs, r) := by rfl) (hA : (List.range nA).all (fun k => N2.contains k && Nat.beq (renN rn k) k) = true := by rfl)
    (hn : s2.all (fun p => p.2.lt N2.contains) = true := by rfl) (hcn : c2.all (Ch.lt N2.contains) = true := by rfl) :
    Le (KX Kn nA EX) n ⟨s, c, N⟩ ⟨s2, c2, N2⟩ := by
  intro X e a w hX rel
  let e1 : Env := ⟨e.G, fun k => if nv.any (fun p => Nat.beq p.1 k) then some (0, 0, 0) else e.μ k⟩
  have h1 : Env.le e e1 := ⟨IM.le_refl _, fun k p hp => by
    show (if _ then _ else _) = _
    rw [if_neg]; exact hp
    intro hq
    obtain ⟨q, q1, q2⟩ := List.any_eq_true.1 hq
    cases Nat.eq_of_beq_eq_true q2
    have := List.all_eq_true.1 hv q q1
    have := rel.mem.free q.1 (by simpa using this)
    rw [this] at hp; cases hp⟩
  have h2 : NvOK nv e1 := fun p hp => by
    show (if _ then _ else _) = _
    rw [if_pos (List.any_eq_true.2 ⟨p, hp, Nat.beq_refl _⟩)]
  have rel1 : Rel X n e1 (fun k => k ∉ N ∧ k ∉ nv.map (·.1)) s (nilV nv ++ c) a w := by
    refine ⟨rel.defers, rel.size, fun i x hx => let ⟨v, v1, v2⟩ := rel.slots i x hx; ⟨v, v1, Rep.mono x h1 v2⟩, ?_⟩
    have m := rel.mem
    obtain ⟨F, k1, k2⟩ := m.heap
    exact { m with heap := ⟨F, nilV_sep h2 (SepOK.keep h1 (fun _ _ _ => rfl) k1), k2⟩, le := Env.le_trans m.le h1, free := fun k hk => (by
      show (if _ then _ else _) = _
      rw [if_neg]
      · exact m.free k hk.1
      · intro hq
        obtain ⟨q, q1, q2⟩ := List.any_eq_true.1 hq
        cases Nat.eq_of_beq_eq_true q2
        exact hk.2 (List.mem_map.2 ⟨q, q1, rfl⟩)) }
  exact Rel.rn hX (renN rn) (Rel.ri h2 rel1 hs ((pickC_perm hk).trans List.perm_append_comm) hc) hA hn hcn

/-! ### Memory that nobody changes any more -/
mutual
/-- What is asked, and the value then. -/
def frz (k e m : Nat) (row : Nat → List AV) : AV → List Prop × AV
  | .own k' e' i n => (match Nat.beq k' k && Nat.beq e' e with
    | true => ([i + n ≤ m], .sl n e (match i with
      | 0 => row
      | i + 1 => fun q => row (i + 1 + q)))
    | false => ([], .own k' e' i n))
  | .ep k' e' i j => (match Nat.beq k' k && Nat.beq e' e with
    | true => ([i < m], .cp ((row i).drop j))
    | false => ([], .ep k' e' i j))
  | .agg cs => ((frzL k e m row cs).1, .agg (frzL k e m row cs).2)
  | .tup cs => ((frzL k e m row cs).1, .tup (frzL k e m row cs).2)
  | .ifc t x => ((frz k e m row x).1, .ifc t (frz k e m row x).2)
  | x => ([], x)
def frzL (k e m : Nat) (row : Nat → List AV) : List AV → List Prop × List AV
  | [] => ([], [])
  | x :: l => ((frz k e m row x).1 ++ (frzL k e m row l).1, (frz k e m row x).2 :: (frzL k e m row l).2)
end
def FzOK (k e m : Nat) (row : Nat → List AV) (v : Env) : Prop := ∃ b β κ, v.μ k = some (b, β, κ) ∧ m ≤ κ ∧ ∀ i, i < m → CellsAt (row i) v.G b (β + i * e)
mutual
theorem frz_sound {k e m : Nat} {row : Nat → List AV} {v : Env} (h : FzOK k e m row v) : ∀ (x : AV) {y : Value}, (∀ p ∈ (frz k e m row x).1, p) → Rep x v y → Rep (frz k e m row x).2 v y
  | .own k' e' i n, y, hp, r => by
    simp only [frz] at hp ⊢
    split at hp
    · rename_i hb
      simp only [Bool.and_eq_true] at hb
      cases Nat.eq_of_beq_eq_true hb.1
      cases Nat.eq_of_beq_eq_true hb.2
      have hle : i + n ≤ m := hp _ (by simp)
      obtain ⟨b, β, κ, h1, h2, h3⟩ := h
      simp only [Rep] at r ⊢
      obtain ⟨b', β', κ', a, g1, g2, rfl, g3⟩ := r
      rw [h1] at g1; cases g1
      refine ⟨a, κ - i, rfl, by omega, ?_⟩
      by_cases hn : n = 0
      · exact .inl hn
      · refine .inr ⟨b, β + i * e, g3 (by omega), fun q hq => ?_⟩
        have := h3 (i + q) (by omega)
        rw [show β + (i + q) * e = β + i * e + q * e by rw [Nat.add_mul, Nat.add_assoc]] at this
        cases i with
        | zero => simpa using this
        | succ i => exact this
    · exact r
  | .ep k' e' i j, y, hp, r => by
    simp only [frz] at hp ⊢
    split at hp
    · rename_i hb
      simp only [Bool.and_eq_true] at hb
      cases Nat.eq_of_beq_eq_true hb.1
      cases Nat.eq_of_beq_eq_true hb.2
      have hle : i < m := hp _ (by simp)
      obtain ⟨b, β, κ, h1, h2, h3⟩ := h
      simp only [Rep] at r ⊢
      obtain ⟨b', β', κ', g1, rfl⟩ := r
      rw [h1] at g1; cases g1
      exact ⟨b, _, rfl, (h3 i hle).drop j⟩
    · exact r
  | .agg cs, y, hp, r => by
    simp only [frz] at hp ⊢
    simp only [Rep] at r ⊢
    obtain ⟨ys, q, r⟩ := r
    exact ⟨ys, q, frzL_sound h cs hp r⟩
  | .tup cs, y, hp, r => by
    simp only [frz] at hp ⊢
    simp only [Rep] at r ⊢
    obtain ⟨ys, q, r⟩ := r
    exact ⟨ys, q, frzT_sound h cs hp r⟩
  | .ifc t x, y, hp, r => by
    simp only [frz] at hp ⊢
    simp only [Rep] at r ⊢
    obtain ⟨z, q, r⟩ := r
    exact ⟨z, q, frz_sound h x hp r⟩
  | .v x, y, hp, r => r
  | .s l, y, hp, r => r
  | .sl _ _ _, y, hp, r => r
  | .cp _, y, hp, r => r
  | .bp _ _, y, hp, r => r
  | .mp _, y, hp, r => r
  | .arr _ _ _ _, y, hp, r => r
  | .clo _ _ _, y, hp, r => r
theorem frzL_sound {k e m : Nat} {row : Nat → List AV} {v : Env} (h : FzOK k e m row v) : ∀ (l : List AV) {ys : List Value}, (∀ p ∈ (frzL k e m row l).1, p) → RepL l v ys → RepL (frzL k e m row l).2 v ys
  | [], ys, _, r => by simpa only [frzL, RepL] using r
  | c :: cs, ys, hp, r => by
    simp only [frzL, List.mem_append] at hp ⊢
    simp only [RepL] at r ⊢
    obtain ⟨z, zs, q, r1, r2, r3⟩ := r
    exact ⟨z, zs, q, frz_sound h c (fun p hh => hp p (.inl hh)) r1, r2, frzL_sound h cs (fun p hh => hp p (.inr hh)) r3⟩
theorem frzT_sound {k e m : Nat} {row : Nat → List AV} {v : Env} (h : FzOK k e m row v) : ∀ (l : List AV) {ys : List Value}, (∀ p ∈ (frzL k e m row l).1, p) → RepT l v ys → RepT (frzL k e m row l).2 v ys
  | [], ys, _, r => by simpa only [frzL, RepT] using r
  | c :: cs, ys, hp, r => by
    simp only [frzL, List.mem_append] at hp ⊢
    simp only [RepT] at r ⊢
    obtain ⟨z, zs, q, r1, r3⟩ := r
    exact ⟨z, zs, q, frz_sound h c (fun p hh => hp p (.inl hh)) r1, frzT_sound h cs (fun p hh => hp p (.inr hh)) r3⟩
end
def frzS (k e m : Nat) (row : Nat → List AV) : List (Nat × AV) → List Prop × List (Nat × AV)
  | [] => ([], [])
  | (i, x) :: l => ((frz k e m row x).1 ++ (frzS k e m row l).1, (i, (frz k e m row x).2) :: (frzS k e m row l).2)
def frzCs (k e m : Nat) (row : Nat → List AV) : List Ch → List Prop × List Ch
  | [] => ([], [])
  | .box j cells :: l => ((frzL k e m row cells).1 ++ (frzCs k e m row l).1, .box j (frzL k e m row cells).2 :: (frzCs k e m row l).2)
  | c :: l => ((frzCs k e m row l).1, c :: (frzCs k e m row l).2)

theorem frzS_sound {k e m : Nat} {row : Nat → List AV} {v : Env} (h : FzOK k e m row v) : ∀ {s : List (Nat × AV)}, (∀ p ∈ (frzS k e m row s).1, p) → ∀ i x, get (frzS k e m row s).2 i = some x → ∃ y, get s i = some y ∧ ∀ z, Rep y v z → Rep x v z
  | [], _, i, x, hx => by cases hx
  | (j, y) :: s, hp, i, x, hx => by
    simp only [frzS, List.mem_append] at hp hx
    rw [get_cons] at hx ⊢
    split at hx
    · rename_i hji; cases hx; rw [if_pos hji]; exact ⟨y, rfl, fun z hz => frz_sound h y (fun p hh => hp p (.inl hh)) hz⟩
    · rename_i hji; rw [if_neg hji]; exact frzS_sound h (fun p hh => hp p (.inr hh)) i x hx
theorem frzL_len {k e m : Nat} {row : Nat → List AV} : ∀ (l : List AV), (frzL k e m row l).2.length = l.length
  | [] => rfl
  | x :: l => by simp only [frzL, List.length_cons]; rw [frzL_len]
theorem frzL_get {k e m : Nat} {row : Nat → List AV} : ∀ {l : List AV} {j : Nat} {y : AV}, (frzL k e m row l).2[j]? = some y → ∃ x, l[j]? = some x ∧ y = (frz k e m row x).2 ∧ ∀ p ∈ (frz k e m row x).1, p ∈ (frzL k e m row l).1
  | [], j, y, h => by simp [frzL] at h
  | x :: l, j, y, h => by
    simp only [frzL] at h ⊢
    cases j with
    | zero => simp only [List.getElem?_cons_zero, Option.some.injEq] at h; exact ⟨x, rfl, h.symm, fun p hp => by simp [hp]⟩
    | succ j =>
      obtain ⟨x', h1, h2, h3⟩ := frzL_get (by simpa using h)
      exact ⟨x', by simpa using h1, h2, fun p hp => by simp [h3 p hp]⟩
theorem frzCs_sound {k e m : Nat} {row : Nat → List AV} {v : Env} {w : World} (h : FzOK k e m row v) : ∀ {c : List Ch} {F : Foot}, (∀ p ∈ (frzCs k e m row c).1, p) → SepOK v w c F → SepOK v w (frzCs k e m row c).2 F
  | [], F, _, r => r
  | x :: c, F, hp, ⟨F1, F2, h1, h2, h3, h4⟩ => by
    have hrest : (∀ p ∈ (frzCs k e m row c).1, p) := fun p hh => hp p (by cases x <;> simp [frzCs, hh])
    cases x with
    | box j cells =>
      refine ⟨F1, F2, ?_, frzCs_sound h hrest h2, h3, h4⟩
      obtain ⟨b, β, κ, q1, q2, q3⟩ := h1
      refine ⟨b, β, κ, q1, by rw [q2, frzL_len], fun i y hy => ?_⟩
      obtain ⟨x, x1, rfl, x2⟩ := frzL_get hy
      obtain ⟨z, z1, z2, z3⟩ := q3 i x x1
      exact ⟨z, z1, frz_sound h x (fun p hh => hp p (by simp [frzCs, x2 p hh])) z2, z3⟩
    | _ => exact ⟨F1, F2, h1, frzCs_sound h hrest h2, h3, h4⟩

theorem CellsAt.of_cells {G : IM} {w : World} : ∀ {cs : List AV} {b o : Nat}, (∀ (j : Nat) c, cs[j]? = some c → ∃ z, G b (o + j) = some z ∧ Rep c (.bare G) z ∧ z.oneCell' = true) → CellsAt cs G b o
  | [], b, o, _ => by simp [CellsAt]
  | c :: cs, b, o, h => by
    simp only [CellsAt]
    refine ⟨by simpa using h 0 c rfl, CellsAt.of_cells (w := w) fun j d hd => ?_⟩
    have := h (j + 1) d (by simpa using hd)
    rwa [show o + (j + 1) = o + 1 + j by omega] at this

/-- A slice of one's own is left as it is, for good. -/
theorem Le.frz {s : List (Nat × AV)} {c : List Ch} {N : List Nat} {k k' e m : Nat} {row : Nat → List AV} (hk : getC k c = some (.vec k' e m row)) (h1 : ∀ p ∈ (frzS k e m row s).1, p) (h2 : ∀ p ∈ (frzCs k e m row (delC k c)).1, p) :
    Le K n ⟨s, c, N⟩ ⟨(frzS k e m row s).2, (frzCs k e m row (delC k c)).2, N⟩ := by
  intro X ev a w _ rel
  have hid : k' = k := (getC_perm hk).2.2
  subst hid
  have m0 := rel.mem.perm (getC_perm hk).1
  obtain ⟨Fv, ⟨b, β, κ, g1, g2, g3, g4, g5, g6⟩, g7⟩ := m0.head
  let G' : IM := fun b' o => if b' = b ∧ β ≤ o ∧ o < β + m * e then w.cell? ⟨b', o, none⟩ else ev.G b' o
  have hin : ∀ o, β ≤ o → o < β + m * e → Fv b o := fun o q1 q2 => by
    rw [g4]; exact ⟨rfl, q1, by have := Nat.mul_le_mul_right e g2; omega⟩
  have hle : Env.le ev ⟨G', ev.μ⟩ := ⟨fun b' o v hv => (by
    show (if _ then _ else _) = _
    rw [if_neg]
    · exact hv
    · rintro ⟨rfl, q1, q2⟩
      rw [(g7 _ _ (hin o q1 q2)).2] at hv; cases hv), fun _ _ h => h⟩
  have hfz : FzOK k' e m row ⟨G', ev.μ⟩ := ⟨b, β, κ, g1, g2, fun i hi => by
    refine CellsAt.of_cells (w := w) fun j c hc => ?_
    obtain ⟨hl, hcells⟩ := g6 i hi
    obtain ⟨z, z1, z2, z3⟩ := hcells j c hc
    have hj := (List.getElem?_eq_some_iff.1 hc).1
    rw [hl] at hj
    have : (i + 1) * e ≤ m * e := Nat.mul_le_mul_right _ hi
    rw [Nat.add_mul, Nat.one_mul] at this
    refine ⟨z, ?_, Rep.mono c (e := .bare ev.G) (f := .bare G') ⟨hle.1, fun _ _ h => h⟩ z2, z3⟩
    show (if _ then _ else _) = _
    rw [if_pos ⟨rfl, by omega, by omega⟩]
    exact z1.cell⟩
  have m1 : MemOK X ⟨G', ev.μ⟩ (· ∉ N) ([] ++ delC k' c) w := by
    refine MemOK.upd1 (vs := []) m0 hle m0.free rfl rfl rfl (Nat.le_refl _) fun Fu hFu hb => ⟨fun _ _ _ _ => rfl, fun _ _ => False, SepOK.nil _ _, fun _ _ h => h.elim, fun b' o v hv => ?_⟩
    by_cases hc : b' = b ∧ β ≤ o ∧ o < β + m * e
    · refine .inr ⟨.inl ?_, ?_⟩
      · obtain ⟨b2, β2, κ2, q1, q2, _, q4, _⟩ := hFu
        rw [g1] at q1; cases q1
        rw [q4]
        exact ⟨hc.1, hc.2.1, by have := Nat.mul_le_mul_right e g2; omega⟩
      · have : (if b' = b ∧ β ≤ o ∧ o < β + m * e then w.cell? ⟨b', o, none⟩ else ev.G b' o) = some v := hv
        rwa [if_pos hc] at this
    · have : (if b' = b ∧ β ≤ o ∧ o < β + m * e then w.cell? ⟨b', o, none⟩ else ev.G b' o) = some v := hv
      rw [if_neg hc] at this
      exact .inl this
  refine ⟨⟨G', ev.μ⟩, ⟨rel.defers, rel.size, fun i x hx => ?_, ?_⟩⟩
  · obtain ⟨y, y1, y2⟩ := frzS_sound hfz h1 i x hx
    obtain ⟨v, v1, v2⟩ := rel.slots i y y1
    exact ⟨v, v1, y2 v (Rep.mono y hle v2)⟩
  · obtain ⟨F, q1, q2⟩ := m1.heap
    exact { m1 with heap := ⟨F, frzCs_sound hfz h2 q1, q2⟩ }
/-- What a walk goes on with. -/
structure Fz where
  p : List Prop
  st : St
def allP : List Prop → Prop
  | [] => True
  | p :: l => p ∧ allP l
theorem allP.mem : ∀ {l : List Prop}, allP l → ∀ p ∈ l, p
  | [], _, p, h => by cases h
  | q :: l, ⟨h1, h2⟩, p, h => by
    rcases List.mem_cons.1 h with rfl | h
    · exact h1
    · exact h2.mem p h
def frzSt (k : Nat) (st : St) : Option Fz :=
  match getC k st.c with
  | some (.vec _ e m row) => (match frzS k e m row st.s, frzCs k e m row (delC k st.c) with
    | (p1, s), (p2, c) => normG s fun s => normG c fun c => normG (p1 ++ p2) fun p => some ⟨p, ⟨s, c, st.N⟩⟩)
  | _ => none
theorem Le.frzSt {k : Nat} {f : Fz} (h : frzSt k st = some f) (hp : ∀ p ∈ f.p, p) : Le K n st f.st := by
  unfold E.frzSt at h
  split at h
  · rename_i hk
    simp only [normG_eq] at h
    cases h
    obtain ⟨s, c, N⟩ := st
    exact Le.frz hk (fun p hh => hp p (List.mem_append.2 (.inl hh))) (fun p hh => hp p (List.mem_append.2 (.inr hh)))
  · cases h
theorem dF (k : Nat) {c : Code} {p : List Prop} {s2 : St} (kk : DE Po fun r => WC K n c s2 (QD r)) (h : frzSt k st = some ⟨p, s2⟩ := by rfl) (hp : allP p := by repeat' first | exact trivial | refine And.intro ?_ ?_ | omega) : DE Po fun r => WC K n c st (QD r) := dL _ (Le.frzSt h hp.mem) kk

/-! ### Ends -/
def EndL (K : Ctx P T → Prop) (n : Nat) (rs : Array ResultVar) (nA nB : Nat) (x : AV) (cs' : List Ch) (st : St) : Prop := ∃ st', Le K n st st' ∧ EndsAt T rs nA nB x cs' st'
def EndsL (K : Ctx P T → Prop) (n : Nat) (rs : Array ResultVar) (nA nB : Nat) (x : AV) (cs' : List Ch) : Exit → St → Prop
  | .normal, st => EndL K n rs nA nB x cs' st
  | .ret, st => EndL K n rs nA nB x cs' st
  | _, _ => False
theorem EndsL.conc {X : Ctx P T} (hX : K X) {rs : Array ResultVar} {nA nB : Nat} {x : AV} {cs' : List Ch} {ex : Exit} {a : Act} {w : World} (h : conc X n (EndsL K n rs nA nB x cs') ex a w) : conc X n (Ends T rs nA nB x cs') ex a w := by
  cases ex <;> first | exact h | (obtain ⟨e, st, rel, h2⟩ := h; first | exact h2.elim | (obtain ⟨st', h3, h4⟩ := h2; obtain ⟨e', rel'⟩ := h3 X e a w hX rel; exact ⟨e', st', rel', h4⟩))
theorem FnD.introL (ok : TabOK P T) (wide : P.follows .mixedOrders = true) {f : FuncId} {fn : Func} {cd : Code} {nB : Nat} {args : List AV} {cs : List Ch} {k : α → AV} {C : α → List Ch} (hf : P.funcs[f]? = some fn) (hb : fn.body = some cd)
    (hn : (fn.name == "runtime.NumGoroutine") = false) (hargs : Nat.ble args.length fn.ntmps = true)
    (h : DE Po fun r => WC (KX (P := P) (T := T) Kn nA fun _ => True) fn.ntmps cd ⟨enumA 0 args, cs, List.range nA⟩ (EndsL (P := P) (T := T) (KX (P := P) (T := T) Kn nA fun _ => True) fn.ntmps fn.results nA nB (k r) (C r))) : FnD P Kn f nA args cs nB Po k C :=
  FnD.intro ok wide hf hb hn hargs (h.imp fun r hr X hX e a w rel => Code.wp_mono (fun ex a' w' hc => EndsL.conc hX hc) (hr X hX e a w rel))
theorem dT {rs : Array ResultVar} {nB : Nat} {k : α → AV} {C : α → List Ch} (s2 : St) (hl : Le K n st s2) (h : DE Po fun r => EndL K n rs nA nB (k r) (C r) s2) : DE Po fun r => EndL K n rs nA nB (k r) (C r) st :=
  h.imp fun r ⟨st', h1, h2⟩ => ⟨st', hl.trans h1, h2⟩
theorem dFe (j : Nat) {rs : Array ResultVar} {nB : Nat} {k : α → AV} {C : α → List Ch} {p : List Prop} {s2 : St} (kk : DE Po fun r => EndL K n rs nA nB (k r) (C r) s2) (h : frzSt j st = some ⟨p, s2⟩ := by rfl) (hp : allP p := by repeat' first | exact trivial | refine And.intro ?_ ?_ | omega) : DE Po fun r => EndL K n rs nA nB (k r) (C r) st := dT _ (Le.frzSt h hp.mem) kk
theorem dEL {rs : Array ResultVar} {k : α → AV} {s : List (Nat × AV)} {c : List Ch} {N : List Nat} (r : α) (hp : Po r) (h : resA T s c rs.toList = some (k r)) (hk : (k r).nl = true) : DE Po fun r => EndL K n rs 0 0 (k r) [] ⟨s, c, N⟩ := by
  obtain ⟨r, h1, h2⟩ := dE (T := T) (rs := rs) (k := k) (s := s) (c := c) (N := N) r hp h hk
  exact ⟨r, h1, _, .refl _, h2⟩
/-- The end of a body that has objects: L tells which are meant. -/
theorem dEO {rs : Array ResultVar} {k : α → AV} {C : α → List Ch} {s : List (Nat × AV)} {c cr : List Ch} {N : List Nat} (r : α) (L : List Nat) {nB : Nat} (h : resA T s c rs.toList = some ((k r).ren (L.getD · 0)) := by rfl) (hc : pickC (idsC ((C r).map (Ch.ren (L.getD · 0)))) c = some ((C r).map (Ch.ren (L.getD · 0)), cr) := by rfl)
    (hL : Nat.beq L.length nB = true := by rfl) (hA : (List.range nA).all (fun k => match L[k]? with
      | some j => Nat.beq j k
      | none => false) = true := by rfl) (hk : (k r).lt (Nat.blt · nB) = true := by rfl) (hC : (C r).all (Ch.lt (Nat.blt · nB)) = true := by rfl) (hp : Po r := by first | exact trivial | rfl | assumption) : DE Po fun r => EndL K n rs nA nB (k r) (C r) ⟨s, c, N⟩ := by
  refine ⟨r, hp, _, .refl _, L, Nat.eq_of_beq_eq_true hL, fun j hj => ?_, h, hk, hC, cr, (pickC_perm hc).trans List.perm_append_comm⟩
  have := List.all_eq_true.1 hA j (by simpa using hj)
  split at this
  · rename_i q hq; rw [hq, Nat.eq_of_beq_eq_true this]
  · cases this
end
/-- An end. -/
theorem d0 {p : Prop} (h : p := by first | exact dEL _ trivial rfl rfl | exact dEL (_, _) trivial rfl rfl | exact dEL (_, _, _) trivial rfl rfl) : p := h
end Go.E

/- The walk anew, part 25: lists as functions; states compared by trying. -/
set_option linter.unusedSimpArgs false
set_option linter.unusedVariables false
namespace Go.E
open Go.RowKit

/-- So many things, told by number. -/
structure Arr (β : Type) where
  n : Nat
  f : Nat → β
def Arr.push {β : Type} (a : Arr β) (x : β) : Arr β := ⟨a.n + 1, fun q => if q < a.n then a.f q else x⟩
def Arr.app {β : Type} (a b : Arr β) : Arr β := ⟨a.n + b.n, fun q => if q < a.n then a.f q else b.f (q - a.n)⟩
def Arr.nil {β : Type} (x : β) : Arr β := ⟨0, fun _ => x⟩
abbrev SLA {β : Type} (esz : Nat) (cells : β → List AV) (a : Arr β) : AV := .sl a.n esz (fun i => cells (a.f i))
abbrev VEC {β : Type} (k esz : Nat) (cells : β → List AV) (a : Arr β) : Ch := .vec k esz a.n (fun i => cells (a.f i))
def Arr.upd {β : Type} (a : Arr β) (i : Nat) (x : β) : Arr β := ⟨a.n, fun q => if q = i then x else a.f q⟩
theorem upd_row {β : Type} {a : Arr β} {i j : Nat} {x : β} {cells : β → List AV} {new : List AV} (hj : j = i) (h : new = cells x) : ∀ q, q < (a.upd i x).n → (if q = j then new else cells (a.f q)) = cells ((a.upd i x).f q) := by
  intro q _
  subst hj
  simp only [Arr.upd]
  split <;> simp_all
theorem app_row {β : Type} {a : Arr β} {x : β} {cells : β → List AV} {row2 : Nat → List AV} (h : row2 0 = cells x) : ∀ i, i < (a.push x).n → appRow a.n (fun q => cells (a.f (0 + q))) row2 i = cells ((a.push x).f i) := by
  intro i hi
  simp only [Arr.push] at hi ⊢
  unfold appRow
  split
  · simp
  · have : i - a.n = 0 := by omega
    rw [this, h]
theorem ext_row {β : Type} {f : Nat → β} {n : Nat} {cells : β → List AV} {row2 : Nat → List AV} (h : row2 0 = cells (f n)) : ∀ i, i < n + 1 → appRow n (fun q => cells (f (0 + q))) row2 i = cells (f i) := by
  intro i hi
  unfold appRow
  split
  · simp
  · have : i - n = 0 := by omega
    have : i = n := by omega
    subst this
    simpa using h
theorem apps_row {β : Type} {a b : Arr β} {cells : β → List AV} {row2 : Nat → List AV} (h : ∀ q, row2 q = cells (b.f q)) : ∀ i, i < (a.app b).n → appRow a.n (fun q => cells (a.f (0 + q))) row2 i = cells ((a.app b).f i) := by
  intro i hi
  simp only [Arr.app] at hi ⊢
  unfold appRow
  split
  · simp
  · rw [h]
theorem new_row {β : Type} {x d : β} {cells : β → List AV} {row2 : Nat → List AV} (h : row2 0 = cells x) : ∀ i, i < ((Arr.nil d).push x).n → row2 i = cells (((Arr.nil d).push x).f i) := by
  intro i hi
  simp only [Arr.push, Arr.nil] at hi ⊢
  have : i = 0 := by omega
  subst this
  simp [h]
theorem two {α : Type} {f g : Nat → α} (h0 : f 0 = g 0) (h1 : f 1 = g 1) : ∀ i, i < 2 → f i = g i := fun i hi => by
  rcases i with _ | _ | i
  · exact h0
  · exact h1
  · omega
theorem one {α : Type} {f g : Nat → α} (h0 : f 0 = g 0) : ∀ i, i < 1 → f i = g i := fun i hi => by
  cases i with
  | zero => exact h0
  | succ i => omega
theorem RI.int {nv : List (Nat × Nat)} {k : IntKind} {a b : Int} (h : a = b) : RI nv (.v (.int k a)) (.v (.int k b)) := h ▸ RI.refl
theorem RI.bool {nv : List (Nat × Nat)} {a b : Bool} (h : a = b) : RI nv (.v (.bool a)) (.v (.bool b)) := h ▸ RI.refl
theorem RI.s {nv : List (Nat × Nat)} {a b : List UInt8} (h : a = b) : RI nv (.s a) (.s b) := h ▸ RI.refl
/-- By trying. -/
theorem rI {p : Prop} (h : p := by
  repeat' first | exact trivial | exact RI.refl | exact RI.new rfl rfl | exact RI.nil | exact RI.own (by first | rfl | omega) | exact RI.int (by first | omega | simp) | exact RI.sl rfl (fun _ _ => rfl) | exact RI.sl rfl (two rfl rfl) | exact RI.sl rfl (one rfl) | refine RI.agg ?_ | refine RI.tup ?_ | refine And.intro ?_ ?_
  done) : p := h
theorem cI {p : Prop} (h : p := by first | exact CI.refl | exact CI.vec rfl (app_row rfl) | exact CI.vec rfl (new_row rfl) | exact CI.vec rfl (ext_row rfl) | exact CI.vec rfl (upd_row (by first | rfl | omega) rfl) | exact CI.vec rfl (fun _ h => absurd h (Nat.not_lt_zero _)) | exact CI.vec (by first | rfl | omega) (fun _ _ => rfl) | exact CI.box rI) : p := h
theorem hS {p : Prop} (h : p := by
  repeat' first | exact trivial | refine ⟨⟨_, rfl, ?_⟩, ?_⟩ | exact rI
  done) : p := h
theorem hC {p : Prop} (h : p := by
  repeat' first | exact trivial | refine And.intro ?_ ?_ | exact cI
  done) : p := h
theorem Le.g {P : Program} {T : Tab} {Kn : IM} {nA n : Nat} {EX : Ctx P T → Prop} {s : List (Nat × AV)} {c : List Ch} {N : List Nat} {s2 : List (Nat × AV)} {c2 cs r : List Ch} {N2 : List Nat} (nv rn : List (Nat × Nat)) (ks : List Nat)
    (hv : nv.all (fun p => !(N.contains p.1)) = true := by rfl) (hk : pickC ks (nilV nv ++ c) = some (cs, r) := by rfl) (hA : (List.range nA).all (fun k => N2.contains k && Nat.beq (renN rn k) k) = true := by rfl)
    (hn : s2.all (fun p => p.2.lt N2.contains) = true := by rfl) (hcn : c2.all (Ch.lt N2.contains) = true := by rfl) (hs : SubR nv (s2.map fun p => (p.1, p.2.ren (renN rn))) s := by exact hS) (hc : AllCI nv cs (c2.map (Ch.ren (renN rn))) := by exact hC) :
    Le (KX (P := P) (T := T) Kn nA EX) n ⟨s, c, N⟩ ⟨s2, c2, N2⟩ := Le.go nv rn ks hs hc hv hk hA hn hcn
end Go.E

/- The walk anew, part 26: slices made. -/
set_option linter.unusedSimpArgs false
set_option linter.unusedVariables false
namespace Go.E
open Go.RowKit

section
variable {P : Program} {T : Tab} {K : Ctx P T → Prop} {n : Nat} {ops : Array Oper} {draw : Bool} {α : Type} {Po : α → Prop} {S' : α → Prop} {KD : α → List (Nat × AV) → List Ch → List Nat → Prop}
/-- make([]T, m). -/
theorem dMs (hT : TabOK P T) {o : Oper} {l : List Oper} {hist : List FP} {s : List (Nat × AV)} {c : List Ch} {N : List Nat} {t el d m sz by_ : Nat} {ag : Bool} {zz : List Value} {ti : TI} {lo co : Operand} (k : DE Po S') (hd : o.dst = some d := by rfl) (ho : o.op = .makeSlice t lo co := by rfl)
    (ht : T t = some ⟨sz, by_, ag, zz, .slice el⟩ := by rfl) (he : T el = some ti := by rfl) (hlo : opd s lo = some (.v (.int .i64 (m : Nat))) := by rfl) (hco : opd s co = some (.v (.int .i64 (m : Nat))) := by rfl) (hq : guardT ops.toList n s o = true := by rfl) (hns : freshN [d] N = true := by rfl)
    (hm : m ≤ 1000000 := by omega) (hb : Nat.ble ti.bytes 1000 = true := by rfl)
    (h : ∀ r, afterL ops.toList draw hist s o N [] [] [.vec d ti.size m (fun _ => ti.zero.map constA)] [d] (.own d ti.size 0 m) (.vec d ti.size m (fun _ => ti.zero.map constA) :: c) (fun h' s' c' N' => WO K n ops draw (KD r) l h' s' c' N') = some (S' r) := by intros; rfl) :
    DE Po fun r => WO K n ops draw (KD r) (o :: l) hist s c N := by
  have hops : lo ∈ o.op.operands.toList ++ guardOp ops.toList o ∧ co ∈ o.op.operands.toList ++ guardOp ops.toList o := by rw [ho]; simp [Op.operands]
  refine dLoc (cr := c) [] [] [.vec d ti.size m (fun _ => ti.zero.map constA)] [d] (.own d ti.size 0 m) k hq (fun X e fr c2 a w _ rel hf => ?_) (.refl _) (.refl _) hns h
  have h1 := opd_sound rel (opd_rd hops.1 hlo)
  have h2 := opd_sound rel (opd_rd hops.2 hco)
  simp only [Rep] at h1 h2
  obtain ⟨pi, z, i1, i2, i3, i4, i5, i6, i7⟩ := (hT _ _ he).info
  obtain ⟨dd, e1, _, e3⟩ := (hT _ _ ht).desc
  simp only [TDOK] at e3
  subst e3
  have hb := Nat.le_of_ble_eq_true hb
  have hbb : (pi.bytes : Int) * (m : Int) ≤ 281474976710656 := by
    have h0 : ti.bytes * m ≤ 1000 * 1000000 := Nat.mul_le_mul hb hm
    have h : ((ti.bytes * m : Nat) : Int) ≤ 281474976710656 := by omega
    rw [i3]; rwa [Int.natCast_mul] at h
  have hrun := Go.run_make (P := P) w t el pi z e1 i1 i4 .i64 .i64 m m (by omega) (Int.le_refl _) hbb (by omega)
  simp only [Int.toNat_natCast] at hrun
  have hfr := hf d (by simp)
  have hsz : z.cells.toList.length = ti.size := by rw [i5]; exact i7
  have hml : (Go.madeCells z.cells (m * pi.size)).size = m * ti.size := by rw [i2]; simp [Go.madeCells]
  have hcell : ∀ j, j < m * ti.size → (Go.madeCells z.cells (m * pi.size))[j]? = z.cells.toList[j % ti.size]? := by
    intro j hj
    have hpos : 0 < ti.size := Nat.pos_of_ne_zero fun h0 => by rw [h0] at hj; simp at hj
    have hlt := Nat.mod_lt j hpos
    have hzs : z.cells.size = ti.size := by simpa using hsz
    rw [i2]
    simp [Go.madeCells, hj, hzs, hlt]
  refine ⟨.slice (some ⟨w.heap.size, 0, none⟩) m m, w.alloc (.cells (Go.madeCells z.cells (m * pi.size)) el), bind1 e d (w.heap.size, 0, m), .inl ?_, bind1_le (rel.mem.free d hfr), ?_, ?_⟩
  · rw [oper_eta hd ho]
    simp only [execOp, h1, h2, Sem.run_bind, hrun, Result.andThen_ok, Sem.run_pure]
  · simp only [Rep]; exact ⟨w.heap.size, 0, m, _, bind1_at, by omega, rfl, fun _ => by simp⟩
  · have hb0 := Go.heap_alloc_new w (.cells (Go.madeCells z.cells (m * pi.size)) el)
    have hc : ∀ j, j < m * ti.size → ∃ v, z.cells.toList[j % ti.size]? = some v ∧ CellW (w.alloc (.cells (Go.madeCells z.cells (m * pi.size)) el)) w.heap.size j v := by
      intro j hj
      have hpos : 0 < ti.size := Nat.pos_of_ne_zero fun h0 => by rw [h0] at hj; simp at hj
      have hlt := Nat.mod_lt j hpos
      have h3 := hcell j hj
      refine ⟨z.cells.toList[j % ti.size]'(by omega), by simp, (Go.madeCells z.cells (m * pi.size)).size, el, ?_⟩
      unfold atw
      rw [hb0]
      simp only [h3]
      simp
    have := MemOK.alloc (κ := m) (ob := .cells (Go.madeCells z.cells (m * pi.size)) el) (x := .vec d ti.size m (fun _ => ti.zero.map constA)) (F := fun x o => x = w.heap.size ∧ 0 ≤ o ∧ o < 0 + m * ti.size) (c := c2) rel.mem hfr
      ⟨w.heap.size, 0, m, bind1_at, Nat.le_refl _, Nat.le_trans hm (by decide), rfl, fun o _ o2 => by
        obtain ⟨v, _, hv⟩ := hc o (by omega)
        exact ⟨v, hv⟩, fun i hi => ⟨by simp [i7], fun j x hx => by
          rw [List.getElem?_map, Option.map_eq_some_iff] at hx
          obtain ⟨y, hy, rfl⟩ := hx
          have hj := (List.getElem?_eq_some_iff.1 hy).1
          rw [i7] at hj
          have hle : (i + 1) * ti.size ≤ m * ti.size := Nat.mul_le_mul_right _ hi
          rw [Nat.add_mul, Nat.one_mul] at hle
          obtain ⟨v, hv1, hv2⟩ := hc (i * ti.size + j) (by omega)
          have hmod : (i * ti.size + j) % ti.size = j := by rw [Nat.mul_comm, Nat.mul_add_mod, Nat.mod_eq_of_lt hj]
          rw [hmod, i5, hy] at hv1
          cases hv1
          exact ⟨y, by simpa using hv2, constA_sound _, List.all_eq_true.1 i6 y (List.mem_of_getElem? hy)⟩⟩⟩ (fun b o hb => hb.1)
    exact this.fr_le fun k hk => ⟨hk.1, by simpa using hk.2⟩
end
end Go.E

/- The walk anew, part 27: is a slice nil? What nobody knows ahead of the run. -/
set_option linter.unusedSimpArgs false
set_option linter.unusedVariables false
namespace Go.E
open Go.RowKit

section
variable {P : Program} {T : Tab} {K : Ctx P T → Prop} {n : Nat} {st : St} {Q : Exit → St → Prop} {α : Type} {Po : α → Prop} {QD : α → Exit → St → Prop}
theorem run_equalIn_slicenil {t el : TypeId} (h : P.underlying t = some (.slice el)) (aa : Option Addr) (k cc : Nat) (w : World) (d : Nat) :
    ∃ b, (Op.equalIn (d + 1) t (.slice aa k cc) (.slice none 0 0)).run P w = .ok b w ∧ (b = true → aa = none) := by
  cases aa with
  | none => exact ⟨_, by simp [Op.equalIn, run_underlying h]; rfl, fun _ => rfl⟩
  | some x => exact ⟨false, by simp [Op.equalIn, run_underlying h], fun hb => by cases hb⟩
theorem C_nil {X : Ctx P T} {id p a b t u ty1 ty2 m esz el sz by_ : Nat} {ag : Bool} {zz : List Value} {row : Nat → List AV} {p1 p2 : String} {f1 f2 : Array Edge} (ht : T t = some ⟨sz, by_, ag, zz, .slice el⟩) (hp : get st.s p = some (.sl m esz row)) (ha : Nat.blt a n = true) (hb : Nat.blt b n = true)
    (h : ∀ v : Bool, (v = true → m = 0) → Q .normal ⟨(b, .v (.bool v)) :: (a, .sl m esz row) :: st.s, st.c, st.N⟩) :
    SymC X n (.region id #[⟨some a, .move (.tmp p), ty1, p1, f1, none⟩, ⟨some b, .binOp .eql t (.tmp a) (.const (.slice none 0 0)) u, ty2, p2, f2, none⟩] false) st Q := by
  intro e act w r
  refine wp_region_list ?_
  obtain ⟨x, x1, x2⟩ := r.slots p _ hp
  have hx : act.eval (.tmp p) = x := by simp [Act.eval, x1]
  have x2' := x2
  simp only [Rep] at x2'
  obtain ⟨aa, cc, rfl, h3, h4⟩ := x2'
  have hP : P.underlying t = some (.slice el) := by
    obtain ⟨d, h1, _, h2⟩ := (X.ok _ _ ht).desc
    simp only [TDOK] at h2
    rw [h1, h2]
  have r1 := r.put (d := some a) (x := .sl m esz row) (v := .slice aa m cc) (fun q hq => by cases hq; simp [Nat.blt] at ha; omega) x2
  obtain ⟨v, hv, hvn⟩ := run_equalIn_slicenil (P := P) hP aa m cc w 9999
  have hd : (act.put (some a) (.slice aa m cc)).eval (.tmp a) = .slice aa m cc := by
    obtain ⟨y, y1, y2⟩ := r.put (d := some a) (x := .v (.slice aa m cc)) (v := .slice aa m cc) (fun q hq => by cases hq; simp [Nat.blt] at ha; omega) (by simp only [Rep]) |>.slots a (.v (.slice aa m cc)) (by simp [putS, get_cons])
    simp only [Rep] at y2
    subst y2
    simp [Act.eval, y1]
  have r2 := r1.put (d := some b) (x := .v (.bool v)) (v := .bool v) (fun q hq => by cases hq; simp [Nat.blt] at hb; omega) (by simp only [Rep])
  have hm : v = true → m = 0 := fun hvt => by
    rcases h4 with h4 | ⟨b', o, h4, _⟩
    · exact h4
    · rw [hvn hvt] at h4; cases h4
  unfold wpList
  rw [if_pos (by simp [Region.wanted])]
  refine .inl ?_
  unfold Oper.wp
  have hr1 : (execOp act.eval ⟨some a, .move (.tmp p), ty1, p1, f1, none⟩).run P w = .ok (.value (.slice aa m cc)) w := by
    simp only [execOp, hx]; rfl
  rw [hr1]
  show wpList _ _ _ _ _ _
  unfold wpList
  rw [if_pos (by simp [Region.wanted])]
  refine .inl ?_
  unfold Oper.wp
  have hr2 : (execOp (act.put (some a) (.slice aa m cc)).eval ⟨some b, .binOp .eql t (.tmp a) (.const (.slice none 0 0)) u, ty2, p2, f2, none⟩).run P w = .ok (.value (.bool v)) w := by
    have h2 : (act.put (some a) (.slice aa m cc)).eval (.const (.slice none 0 0)) = .slice none 0 0 := rfl
    have hv' : (Op.equal t (.slice aa m cc) (.slice none 0 0)).run P w = .ok v w := hv
    simp only [execOp, hd, h2]
    simp [eqGuard, binOp, hv']
  rw [hr2]
  show wpList _ _ _ _ _ _
  unfold wpList
  exact ⟨e, ⟨(b, .v (.bool v)) :: (a, .sl m esz row) :: st.s, st.c, st.N⟩, r2, h v hm⟩
/-- Is a slice nil? Nobody knows: what comes then must give the same in either case. -/
theorem dNil {id p a b t u ty1 ty2 m esz el sz by_ : Nat} {ag : Bool} {zz : List Value} {row : Nat → List AV} {p1 p2 : String} {f1 f2 : Array Edge} (r0 : α) (k : ∀ v : Bool, (v = true → m = 0) → DE (fun r => r = r0) fun r => QD r .normal ⟨(b, .v (.bool v)) :: (a, .sl m esz row) :: st.s, st.c, st.N⟩)
    (ht : T t = some ⟨sz, by_, ag, zz, .slice el⟩ := by rfl) (hp : get st.s p = some (.sl m esz row) := by rfl) (ha : Nat.blt a n = true := by rfl) (hb : Nat.blt b n = true := by rfl) (h0 : Po r0 := by first | exact trivial | rfl | assumption) :
    DE Po fun r => WC K n (.region id #[⟨some a, .move (.tmp p), ty1, p1, f1, none⟩, ⟨some b, .binOp .eql t (.tmp a) (.const (.slice none 0 0)) u, ty2, p2, f2, none⟩] false) st (QD r) :=
  ⟨r0, h0, fun X _ => C_nil ht hp ha hb fun v hv => by
    obtain ⟨r, rfl, h⟩ := k v hv
    exact h⟩

variable {ops : Array Oper} {draw : Bool} {S' : α → Prop} {KD : α → List (Nat × AV) → List Ch → List Nat → Prop}
/-- []T{}. -/
theorem dB0 (hT : TabOK P T) {o : Oper} {l : List Oper} {hist : List FP} {s : List (Nat × AV)} {c : List Ch} {N : List Nat} {t el d sz by_ : Nat} {ag : Bool} {zz : List Value} {ti : TI} (k : DE Po S') (hd : o.dst = some d := by rfl) (ho : o.op = .buildSlice t 0 #[] := by rfl)
    (ht : T t = some ⟨sz, by_, ag, zz, .slice el⟩ := by rfl) (he : T el = some ti := by rfl) (hq : guardT ops.toList n s o = true := by rfl) (hns : freshN [d] N = true := by rfl)
    (h : ∀ r, afterL ops.toList draw hist s o N [] [] [.vec d ti.size 0 (fun _ => [])] [d] (.own d ti.size 0 0) (.vec d ti.size 0 (fun _ => []) :: c) (fun h' s' c' N' => WO K n ops draw (KD r) l h' s' c' N') = some (S' r) := by intros; rfl) :
    DE Po fun r => WO K n ops draw (KD r) (o :: l) hist s c N := by
  refine dLoc (cr := c) [] [] [.vec d ti.size 0 (fun _ => [])] [d] (.own d ti.size 0 0) k hq (fun X e fr c2 a w _ rel hf => ?_) (.refl _) (.refl _) hns h
  obtain ⟨dd, e1, _, e3⟩ := (hT _ _ ht).desc
  simp only [TDOK] at e3
  subst e3
  have hfr := hf d (by simp)
  refine ⟨.slice (some ⟨w.heap.size, 0, none⟩) 0 0, w.alloc (.cells #[] el), bind1 e d (w.heap.size, 0, 0), .inl ?_, bind1_le (rel.mem.free d hfr), ?_, ?_⟩
  · rw [oper_eta hd ho]
    simp only [execOp, Instr.buildSlice, Sem.run_bind, run_underlying e1, Result.andThen_ok, hT.size he, Sem.run_pure, Nat.zero_mul]
    have hz : Array.map (fun _ : Nat => (default : Value)) (Array.range 0) = #[] := by simp [Array.range]
    simp [Instr.fill, newRow]
    rw [hz]
  · simp only [Rep]; exact ⟨w.heap.size, 0, 0, _, bind1_at, by omega, rfl, fun h => by omega⟩
  · have := MemOK.alloc (κ := 0) (ob := .cells #[] el) (x := .vec d ti.size 0 (fun _ => [])) (F := fun x o => x = w.heap.size ∧ 0 ≤ o ∧ o < 0 + 0 * ti.size) (c := c2) rel.mem hfr ⟨w.heap.size, 0, 0, bind1_at, Nat.le_refl _, Nat.zero_le _, rfl, fun o _ o2 => by omega, fun i hi => by omega⟩ (fun b o hb => hb.1)
    exact this.fr_le fun k hk => ⟨hk.1, by simpa using hk.2⟩
end
end Go.E

/- The walk anew, part 28: contracts of the kit. -/
set_option linter.unusedSimpArgs false
set_option linter.unusedVariables false
namespace Go.E
open Go.RowKit

/-- A contract that was proved elsewhere, of numbers and texts. -/
theorem FnE.ofCalls {P : Program} {Kn : IM} {f : FuncId} {avs : List AV} {vs : List Value} {x : AV} {v : Value} (hc : Callable P f) (ha : ∀ e cargs, RepT avs e cargs → cargs = vs) (hx : ∀ e, Rep x e v)
    (h : ∀ w : World, (∀ b o u, Kn b o = some u → w.cell? ⟨b, o, none⟩ = some u) → Calls P f vs.toArray w fun e w' => e = .returned v ∧ Below w.heap.size w w') : FnE P Kn f 0 avs [] 0 x [] := by
  refine ⟨hc, fun e w cargs F hKn him hr hnm _ hsep hF => ?_⟩
  rw [ha e cargs hr]
  refine (h w fun b o u hu => him b o u (hKn b o u hu)).mono ?_
  rintro en w' ⟨rfl, hb⟩
  have hlt : ∀ b o u, e.G b o = some u → b < w.heap.size := fun b o u hu => Go.block_lt_of_cell (him b o u hu)
  refine ⟨v, e, fun _ _ => False, rfl, hx e, Env.le_refl e, hnm, ?_, fun _ _ h => h.elim, ?_⟩
  · simp [SepOK]
  · exact {
      im := fun b o u hu => by
        have h1 := him b o u hu
        simp only [World.cell?] at h1 ⊢
        rw [hb.block b (hlt b o u hu)]
        exact h1
      new := fun b o u hu => .inl hu
      os := hb.os
      tape := hb.tape
      output := hb.output
      sz := hb.size
      keep := fun b o hbl _ => by simp only [atw]; rw [hb.block b hbl] }

/-- Which function is called, with which arguments. -/
def argsV (s : List (Nat × AV)) (o : Oper) : Option (Nat × List AV) :=
  match o.op with
  | .call ⟨.value fo, aos, _⟩ => (match opd s fo, opdL s aos.toList with
    | some (.v (.func (.func g) ⟨[]⟩ ⟨[]⟩)), some xs => some (g, xs)
    | some (.clo (.func g) first caps), some xs => some (g, first ++ (xs ++ caps))
    | _, _ => none)
  | _ => none
/-- For calls of functions that have no number. -/
theorem argsW_of {s : List (Nat × AV)} {o : Oper} {f : Nat} {xs : List AV} (h : argsV s o = some (f, xs)) : argsW s o f = some xs := by
  unfold argsV at h
  unfold argsW
  split at h
  · rename_i hop
    rw [hop]
    simp only []
    split at h
    · rename_i h1 h2
      cases h
      rw [h1, h2]
      simp [Nat.beq_refl]
    · rename_i h1 h2
      cases h
      rw [h1, h2]
      simp [Nat.beq_refl]
    · cases h
  · cases h
/-- A contract of which what it gives is known (parted by cases). -/
theorem FnE.d {P : Program} {Kn : IM} {f nA nB : Nat} {args : List AV} {cs cs' : List Ch} {x : AV} (h : FnE P Kn f nA args cs nB x cs') : FnD P Kn f nA args cs nB (fun _ : Unit => True) (fun _ => x) (fun _ => cs') := ⟨(), trivial, h⟩
end Go.E

/- The walk anew, part 29: rows told otherwise. -/
set_option linter.unusedSimpArgs false
set_option linter.unusedVariables false
namespace Go.E
open Go.RowKit
section
variable {nv : List (Nat × Nat)}
theorem CI.vecR {k e n m : Nat} {row row' : Nat → List AV} (h : n = m) (hr : ∀ i, i < m → RIs [] (row i) (row' i)) : CI nv (.vec k e n row) (.vec k e m row') := by
  subst h
  intro ev w F _ hv
  obtain ⟨b, β, κ, h1, h2, h3, h4, h5, h6⟩ := hv
  refine ⟨b, β, κ, h1, h2, h3, h4, h5, fun i hi => ?_⟩
  obtain ⟨g1, g2⟩ := (hr i hi).get
  obtain ⟨k1, k2⟩ := h6 i hi
  refine ⟨by rw [← g1, k1], fun j d hd => ?_⟩
  obtain ⟨c, c1, c2⟩ := g2 j d hd
  obtain ⟨z, z1, z2, z3⟩ := k2 j c c1
  exact ⟨z, z1, c2 _ _ (fun _ h => absurd h (by simp)) z2, z3⟩
theorem RIs.refl : ∀ {l : List AV}, RIs nv l l
  | [] => trivial
  | _ :: _ => ⟨RI.refl, RIs.refl⟩
end
/-- Rows of an appended element, told otherwise. -/
theorem app_rowR {β : Type} {a : Arr β} {x : β} {cells : β → List AV} {row2 : Nat → List AV} (h : RIs [] (row2 0) (cells x)) : ∀ i, i < (a.push x).n → RIs [] (appRow a.n (fun q => cells (a.f (0 + q))) row2 i) (cells ((a.push x).f i)) := by
  intro i hi
  simp only [Arr.push] at hi ⊢
  unfold appRow
  split
  · simpa using RIs.refl
  · have : i - a.n = 0 := by omega
    rw [this]; exact h
theorem Arr.push_all {β : Type} {a : Arr β} {x : β} {p : β → Prop} (h : ∀ i, p (a.f i)) (hx : p x) : ∀ i, p ((a.push x).f i) := fun i => by
  simp only [Arr.push]
  split
  · exact h i
  · exact hx
end Go.E

/- The walk anew, part 30: slices of arrays; bytes to text. -/
set_option linter.unusedSimpArgs false
set_option linter.unusedVariables false
namespace Go.E
open Go.RowKit

section
variable {P : Program} {T : Tab} {K : Ctx P T → Prop} {n : Nat} {ops : Array Oper} {draw : Bool} {α : Type} {Po : α → Prop} {S' : α → Prop} {KD : α → List (Nat × AV) → List Ch → List Nat → Prop}

/-- A bound of a slice expression: so much if none is told. -/
def boundI (s : List (Nat × AV)) (len m : Nat) : Option Operand → Prop
  | none => m = len
  | some q => ∃ kd, opd s q = some (.v (.int kd (m : Nat)))
theorem run_sliceAt_arr {t el len : Nat} (w : World) (ht : P.underlying t = some (.array len el)) (a : Addr) (hi mx : Option Value) (n m : Nat) (hn : (hi = none ∧ n = len ∧ mx = none) ∨ ∃ kd, hi = some (.int kd (n : Nat))) (hm : (mx = none ∧ m = len) ∨ ∃ kd, mx = some (.int kd (m : Nat))) (h1 : n ≤ m) (h2 : m ≤ len) :
    (Instr.sliceAt t (.pointer (some a)) none hi mx).run P w = ((sizeOf el).run P w).andThen fun s w => .ok (slicedAt a 0 n m s) w := by
  have hl : P.arrayLen t = len := by simp [Program.arrayLen, ht]
  have he : P.elem t = el := by simp [Program.elem, ht]
  have ht' : P.underlying t = some (.array (P.arrayLen t) (P.elem t)) := by rw [hl, he]; exact ht
  rcases hn with ⟨rfl, rfl, rfl⟩ | ⟨kd, rfl⟩
  · rcases hm with ⟨_, rfl⟩ | ⟨kd, h⟩
    · rw [run_sliceAt_array_all w t a ht', hl, he]
    · cases h
  · rcases hm with ⟨rfl, rfl⟩ | ⟨kd2, rfl⟩
    · rw [run_sliceAt_array_h w t a ht' kd n (by omega) (by omega), hl, he]; rfl
    · rw [run_sliceAt_array_hm w t a ht' kd kd2 n m (by omega) (by omega) (by omega), he]; rfl

theorem dSa (m c0 : Nat) (hT : TabOK P T) {o : Oper} {l : List Oper} {hist : List FP} {s : List (Nat × AV)} {c : List Ch} {N : List Nat} {t el d b off len sz by_ : Nat} {ag : Bool} {zz : List Value} {ti : TI} {x : Operand} {hi mx : Option Operand} (k : DE Po S') (hd : o.dst = some d := by rfl) (ho : o.op = .slice t x none hi mx := by rfl)
    (ht : T t = some ⟨sz, by_, ag, zz, .arr len el⟩ := by rfl) (he : T el = some ti := by rfl) (hx : opd s x = some (.bp b off) := by rfl)
    (hh : (hi = none ∧ m = len ∧ mx = none) ∨ ∃ q kd, hi = some q ∧ opd s q = some (.v (.int kd (m : Nat))) := by first | exact .inl ⟨rfl, rfl, rfl⟩ | exact .inr ⟨_, _, rfl, rfl⟩)
    (hm : (mx = none ∧ c0 = len) ∨ ∃ q kd, mx = some q ∧ opd s q = some (.v (.int kd (c0 : Nat))) := by first | exact .inl ⟨rfl, rfl⟩ | exact .inr ⟨_, _, rfl, rfl⟩)
    (h1 : m ≤ c0 := by omega) (h2 : c0 ≤ len := by omega) (hq : guardT ops.toList n s o = true := by rfl)
    (h : ∀ r, afterL ops.toList draw hist s o N [] [] [] [] (.arr b off m c0) c (fun h' s' c' N' => WO K n ops draw (KD r) l h' s' c' N') = some (S' r) := by intros; rfl) :
    DE Po fun r => WO K n ops draw (KD r) (o :: l) hist s c N := by
  have hops : x ∈ o.op.operands.toList ++ guardOp ops.toList o ∧ (∀ q, hi = some q → q ∈ o.op.operands.toList ++ guardOp ops.toList o) ∧ ∀ q, mx = some q → q ∈ o.op.operands.toList ++ guardOp ops.toList o := by
    rw [ho]; refine ⟨by simp [Op.operands], fun q hq => ?_, fun q hq => ?_⟩ <;> subst hq <;> simp [Op.operands]
  refine dLoc (cr := c) [] [] [] [] (.arr b off m c0) k hq (fun X e fr c2 a w _ rel hf => ?_) (.refl _) (.refl _) rfl h
  have hx' := opd_sound rel (opd_rd hops.1 hx)
  simp only [Rep] at hx'
  obtain ⟨bb, β, κ, g1, g2⟩ := hx'
  obtain ⟨dd, e1, _, e3⟩ := (hT _ _ ht).desc
  simp only [TDOK] at e3
  subst e3
  have hrun := run_sliceAt_arr (P := P) w e1 ⟨bb, β + off, none⟩ (hi.map a.eval) (mx.map a.eval) m c0
    (hh.imp (fun ⟨h1, h2, h3⟩ => ⟨by rw [h1]; rfl, h2, by rw [h3]; rfl⟩) fun ⟨q, kd, h1, h2⟩ => ⟨kd, by
      have := opd_sound rel (opd_rd (hops.2.1 q h1) h2)
      simp only [Rep] at this
      rw [h1]; simp [this]⟩)
    (hm.imp (fun ⟨h1, h2⟩ => ⟨by rw [h1]; rfl, h2⟩) fun ⟨q, kd, h1, h2⟩ => ⟨kd, by
      have := opd_sound rel (opd_rd (hops.2.2 q h1) h2)
      simp only [Rep] at this
      rw [h1]; simp [this]⟩) h1 h2
  rw [hT.size he] at hrun
  refine ⟨.slice (some ⟨bb, β + off, none⟩) m c0, w, e, .inl ?_, Env.le_refl e, ?_, rel.mem.fr_le fun k hk => hk.1⟩
  · rw [oper_eta hd ho]
    simp only [execOp, g2, Sem.run_bind, Option.map_none]
    rw [hrun]
    simp [slicedAt, Addr.add]
  · simp only [Rep]; exact ⟨bb, β, κ, g1, h1, rfl⟩
/-- A step that reads one object and leaves memory alone. -/
theorem dRd {ob : Ch} {b : Nat} (av : AV) {o : Oper} {l : List Oper} {hist : List FP} {s : List (Nat × AV)} {c : List Ch} {N : List Nat} (k : DE Po S') (hc : getC b c = some ob) (hq : guardT ops.toList n s o = true)
    (hrun : ∀ (X : Ctx P T) e fr a w F, Rel X n e fr (rdL s (o.op.operands.toList ++ guardOp ops.toList o)) (ob :: []) a w ∨ True → (∀ q x, opd s q = some x → q ∈ o.op.operands.toList ++ guardOp ops.toList o → Rep x e (a.eval q)) → ChOK e w ob F → ∃ v, (execOp a.eval o).run P w = .ok (.value v) w ∧ Rep av e v)
    (h : ∀ r, afterL ops.toList draw hist s o N [ob] [] [] [] av c (fun h' s' c' N' => WO K n ops draw (KD r) l h' s' c' N') = some (S' r)) :
    DE Po fun r => WO K n ops draw (KD r) (o :: l) hist s c N := by
  refine dLoc (cr := delC b c) [ob] [] [] [] av k hq (fun X e fr c2 a w _ rel hf => ?_) (by simpa using (getC_perm hc).1) (by simpa using (getC_perm hc).1) rfl h
  obtain ⟨F, hch, _⟩ := MemOK.head (x := ob) (c := c2) rel.mem
  obtain ⟨v, h1, h2⟩ := hrun X e fr a w F (.inr trivial) (fun q x hx hm => opd_sound rel (opd_rd hm hx)) hch
  exact ⟨v, w, e, .inl h1, Env.le_refl e, h2, rel.mem.fr_le fun k hk => hk.1⟩
def txt (l : List Int) : List UInt8 := l.map fun n => UInt8.ofNat n.toNat
theorem bytes_run {src dst el : Nat} {w : World} {bb o m cap : Nat} {av : List Int} (h1 : P.underlying src = some (.slice el)) (h2 : P.underlying el = some (.int .u8)) (h3 : P.underlying dst = some .string) (hl : av.length = m)
    (hc : ∀ i, i < m → w.cell? ⟨bb, o + i, none⟩ = some (.int .u8 (av.getD i 0))) : (convert src dst (.slice (some ⟨bb, o, none⟩) m cap)).run P w = .ok (S (txt av)) w :=
  run_convert_bytes_arg w src el h1 h2 bb o m cap av hl hc dst h3
/-- string(b), of bytes of one's own. -/
theorem dBt (av : List Int) (hT : TabOK P T) {o : Oper} {l : List Oper} {hist : List FP} {s : List (Nat × AV)} {c : List Ch} {N : List Nat} {src dst el d b i m mm s1 s2 s3 b1 b2 b3 : Nat} {a1 a2 a3 : Bool} {z1 z2 z3 : List Value} {row : Nat → List AV} {x : Operand} (k : DE Po S') (hd : o.dst = some d := by rfl) (ho : o.op = .convert src dst x := by rfl)
    (h1 : T src = some ⟨s1, b1, a1, z1, .slice el⟩ := by rfl) (h2 : T el = some ⟨s2, b2, a2, z2, .int .u8⟩ := by rfl) (h3 : T dst = some ⟨s3, b3, a3, z3, .str⟩ := by rfl) (hx : opd s x = some (.own b 1 i m) := by rfl) (hc : getC b c = some (.vec b 1 mm row) := by rfl)
    (hl : av.length = m) (him : i + m ≤ mm) (hr : ∀ q, q < m → row (i + q) = [.v (.int .u8 (av.getD q 0))]) (hq : guardT ops.toList n s o = true := by rfl)
    (h : ∀ r, afterL ops.toList draw hist s o N [.vec b 1 mm row] [] [] [] (.s (txt av)) c (fun h' s' c' N' => WO K n ops draw (KD r) l h' s' c' N') = some (S' r) := by intros; rfl) :
    DE Po fun r => WO K n ops draw (KD r) (o :: l) hist s c N := by
  refine dRd (.s (txt av)) k hc hq (fun X e fr a w F _ hev hch => ?_) h
  have hx' := hev _ _ hx (by rw [ho]; simp [Op.operands])
  simp only [Rep] at hx'
  obtain ⟨bb, β, κ, aa, g1, g2, g3, g4⟩ := hx'
  obtain ⟨bB, βB, κB, k1, k2, k3, k4, k5, k6⟩ := hch
  rw [k1] at g1; cases g1
  obtain ⟨d1, e1, _, e2⟩ := (hT _ _ h1).desc
  obtain ⟨d2, e3, _, e4⟩ := (hT _ _ h2).desc
  obtain ⟨d3, e5, _, e6⟩ := (hT _ _ h3).desc
  simp only [TDOK] at e2 e4 e6
  subst e2 e4 e6
  refine ⟨S (txt av), ?_, by simp only [Rep]⟩
  rw [oper_eta hd ho]
  rcases Nat.lt_or_ge i κ with hik | hik
  · rw [g4 hik] at g3
    have := bytes_run (P := P) (w := w) (cap := κ - i) e1 e3 e5 hl (fun q hq => by
      obtain ⟨r1, r2⟩ := k6 (i + q) (by omega)
      rw [hr q hq] at r2
      obtain ⟨z, z1, z2, _⟩ := r2 0 _ rfl
      simp only [Rep] at z2
      subst z2
      have := z1.cell
      rwa [show β + (i + q) * 1 + 0 = β + i * 1 + q by omega] at this)
    simp only [execOp, g3, Sem.run_bind]
    rw [this]
    rfl
  · have hm0 : m = 0 := by omega
    subst hm0
    have : av = [] := List.eq_nil_of_length_eq_zero hl
    subst this
    cases aa with
    | none =>
      have := run_convert_bytes_nil (P := P) w src _ e1 e3 0 (κ - i) dst e5
      simp only [execOp, g3, Sem.run_bind]
      rw [this]
      rfl
    | some ad =>
      have := run_convert_bytes_string (P := P) w src dst _ (some ad) 0 (κ - i) e1 e3 e5
      have h0 := run_loadCells (P := P) w ad 0 (fun _ => undef) (fun j hj => by omega)
      simp only [List.range_zero, List.map_nil] at h0
      simp only [execOp, g3, Sem.run_bind]
      rw [this, run_bytesToString w ad 0 (κ - i) [] (by simpa using h0)]
      rfl
/-- string(a[:]), of bytes of an array. -/
theorem dBa (av : List Int) (hT : TabOK P T) {o : Oper} {l : List Oper} {hist : List FP} {s : List (Nat × AV)} {c : List Ch} {N : List Nat} {src dst el d b off m c0 s1 s2 s3 b1 b2 b3 : Nat} {a1 a2 a3 : Bool} {z1 z2 z3 : List Value} {cells : List AV} {x : Operand} (k : DE Po S') (hd : o.dst = some d := by rfl) (ho : o.op = .convert src dst x := by rfl)
    (h1 : T src = some ⟨s1, b1, a1, z1, .slice el⟩ := by rfl) (h2 : T el = some ⟨s2, b2, a2, z2, .int .u8⟩ := by rfl) (h3 : T dst = some ⟨s3, b3, a3, z3, .str⟩ := by rfl) (hx : opd s x = some (.arr b off m c0) := by rfl) (hc : getC b c = some (.box b cells) := by rfl)
    (hl : av.length = m := by rfl) (hr : ∀ q, q < m → cells[off + q]? = some (.v (.int .u8 (av.getD q 0)))) (hq : guardT ops.toList n s o = true := by rfl)
    (h : ∀ r, afterL ops.toList draw hist s o N [.box b cells] [] [] [] (.s (txt av)) c (fun h' s' c' N' => WO K n ops draw (KD r) l h' s' c' N') = some (S' r) := by intros; rfl) :
    DE Po fun r => WO K n ops draw (KD r) (o :: l) hist s c N := by
  refine dRd (.s (txt av)) k hc hq (fun X e fr a w F _ hev hch => ?_) h
  have hx' := hev _ _ hx (by rw [ho]; simp [Op.operands])
  simp only [Rep] at hx'
  obtain ⟨bb, β, κ, g1, g2, g3⟩ := hx'
  obtain ⟨bB, βB, κB, k1, k2, k3⟩ := hch
  rw [k1] at g1; cases g1
  obtain ⟨d1, e1, _, e2⟩ := (hT _ _ h1).desc
  obtain ⟨d2, e3, _, e4⟩ := (hT _ _ h2).desc
  obtain ⟨d3, e5, _, e6⟩ := (hT _ _ h3).desc
  simp only [TDOK] at e2 e4 e6
  subst e2 e4 e6
  refine ⟨S (txt av), ?_, by simp only [Rep]⟩
  rw [oper_eta hd ho]
  have := bytes_run (P := P) (w := w) (bb := bb) (o := β + off) (cap := c0) e1 e3 e5 hl (fun q hq => by
    obtain ⟨z, z1, z2, _⟩ := k3 _ _ (hr q hq)
    simp only [Rep] at z2
    subst z2
    have := z1.cell
    rwa [← Nat.add_assoc] at this)
  simp only [execOp, g3, Sem.run_bind]
  rw [this]
  rfl
end
end Go.E

/- The walk anew, part 31: append of slices of arrays. -/
set_option linter.unusedSimpArgs false
set_option linter.unusedVariables false
namespace Go.E
open Go.RowKit

theorem nlL_get : ∀ {l : List AV} {j : Nat} {x : AV}, nlL l = true → l[j]? = some x → x.nl = true
  | [], j, x, _, h => by simp at h
  | y :: l, 0, x, hn, h => by simp only [nlL, Bool.and_eq_true] at hn; simp at h; subst h; exact hn.1
  | y :: l, j + 1, x, hn, h => by simp only [nlL, Bool.and_eq_true] at hn; exact nlL_get hn.2 (by simpa using h)
/-- The rows of an array that lies in a box. -/
theorem box_rows {e : Env} {w : World} {bb β off L esz : Nat} {cells : List AV} (h : CellsW e w bb β cells) (hn : nlL ((cells.drop off).take (L * esz)) = true) (hl : ((cells.drop off).take (L * esz)).length = L * esz) {q : Nat} (hq : q < L) :
    (chunkRow esz ((cells.drop off).take (L * esz)) q).length = esz ∧ Readable (.bare e.G) w bb (β + off + q * esz) (chunkRow esz ((cells.drop off).take (L * esz)) q) := by
  have hle : q * esz + esz ≤ L * esz := by have : (q + 1) * esz ≤ L * esz := Nat.mul_le_mul_right _ hq; rwa [Nat.add_mul, Nat.one_mul] at this
  refine ⟨by simp only [chunkRow, List.length_take, List.length_drop] at hl ⊢; omega, fun j cc hc => ?_⟩
  simp only [chunkRow] at hc
  rw [List.getElem?_take] at hc
  split at hc
  · rename_i hj
    rw [List.getElem?_drop] at hc
    have hnl := nlL_get hn hc
    rw [List.getElem?_take] at hc
    split at hc
    · rw [List.getElem?_drop] at hc
      obtain ⟨z, z1, z2, z3⟩ := h _ _ hc
      refine ⟨z, ?_, Rep.nl _ hnl z2, z3⟩
      have := z1.cell
      rwa [show β + (off + (q * esz + j)) = β + off + q * esz + j by omega] at this
    · cases hc
  · cases hc
section
variable {P : Program} {T : Tab} {K : Ctx P T → Prop} {n : Nat} {ops : Array Oper} {draw : Bool} {α : Type} {Po : α → Prop} {S' : α → Prop} {KD : α → List (Nat × AV) → List Ch → List Nat → Prop}
/-- append of nothing to what has no elements. -/
theorem dAz (hT : TabOK P T) {o : Oper} {l : List Oper} {hist : List FP} {s : List (Nat × AV)} {c : List Ch} {N : List Nat} {t el d b1 o1 c1 b2 o2 c2 sz by_ : Nat} {ag : Bool} {zz : List Value} {ti : TI} {so xo : Operand} (k : DE Po S') (hd : o.dst = some d := by rfl) (ho : o.op = .call ⟨.builtin .append, #[so, xo], #[t, t]⟩ := by rfl)
    (ht : T t = some ⟨sz, by_, ag, zz, .slice el⟩ := by rfl) (he : T el = some ti := by rfl) (hs : opd s so = some (.arr b1 o1 0 c1) := by rfl) (hx : opd s xo = some (.arr b2 o2 0 c2) := by rfl) (hq : guardT ops.toList n s o = true := by rfl)
    (h : ∀ r, afterL ops.toList draw hist s o N [] [] [] [] (.sl 0 ti.size (fun _ => [])) c (fun h' s' c' N' => WO K n ops draw (KD r) l h' s' c' N') = some (S' r) := by intros; rfl) :
    DE Po fun r => WO K n ops draw (KD r) (o :: l) hist s c N := by
  have hops : so ∈ o.op.operands.toList ++ guardOp ops.toList o ∧ xo ∈ o.op.operands.toList ++ guardOp ops.toList o := by rw [ho]; simp [Op.operands, Call.operands]
  refine dLoc (cr := c) [] [] [] [] (.sl 0 ti.size (fun _ => [])) k hq (fun X e fr c9 a w _ rel hf => ?_) (.refl _) (.refl _) rfl h
  have h1 := opd_sound rel (opd_rd hops.1 hs)
  have h2 := opd_sound rel (opd_rd hops.2 hx)
  simp only [Rep] at h1 h2
  obtain ⟨bb, β, κ, g1, g2, g3⟩ := h1
  obtain ⟨bb', β', κ', k1, k2, k3⟩ := h2
  obtain ⟨dd, e1, _, e3⟩ := (hT _ _ ht).desc
  simp only [TDOK] at e3
  subst e3
  obtain ⟨pi, z, i1, _⟩ := (hT _ _ he).info
  refine ⟨.slice (some ⟨bb, β + o1, none⟩) 0 c1, w, e, .inl ?_, Env.le_refl e, by simp only [Rep]; exact ⟨_, _, rfl, g2, .inl trivial⟩, rel.mem.fr_le fun k hk => hk.1⟩
  rw [oper_eta hd ho]
  have hrun := run_append_zero (P := P) (w := w) (ty := o.type) e1 i1 (some ⟨bb, β + o1, none⟩) 0 c1 (some ⟨bb', β' + o2, none⟩) c2 (Nat.zero_le _)
  simp [execOp, resolve, invoke, builtin, g3, k3, hrun, Result.andThen]
/-- append of a part of an array to one that has no room behind it. -/
theorem dAa (L : Nat) (hT : TabOK P T) {o : Oper} {l : List Oper} {hist : List FP} {s : List (Nat × AV)} {c : List Ch} {N : List Nat} {t el d b o1 p c1 o2 m c2 sz by_ : Nat} {ag : Bool} {zz : List Value} {ti : TI} {so xo : Operand} {cells : List AV} (k : DE Po S') (hd : o.dst = some d := by rfl) (ho : o.op = .call ⟨.builtin .append, #[so, xo], #[t, t]⟩ := by rfl)
    (ht : T t = some ⟨sz, by_, ag, zz, .slice el⟩ := by rfl) (he : T el = some ti := by rfl) (hs : opd s so = some (.arr b o1 p c1) := by rfl) (hx : opd s xo = some (.arr b o2 m c2) := by rfl) (hc : getC b c = some (.box b cells) := by rfl)
    (hn1 : nlL ((cells.drop o1).take (L * ti.size)) = true := by rfl) (hl1 : ((cells.drop o1).take (L * ti.size)).length = L * ti.size := by rfl) (hn2 : nlL ((cells.drop o2).take (L * ti.size)) = true := by rfl) (hl2 : ((cells.drop o2).take (L * ti.size)).length = L * ti.size := by rfl)
    (hp : p ≤ L := by omega) (hm : m ≤ L := by omega) (hcm : c1 < p + m := by omega) (hmm : p + m ≤ 1000000 := by omega) (hb : Nat.ble ti.bytes 1000 = true := by rfl) (hz : Nat.blt 0 ti.size = true := by rfl) (hq : guardT ops.toList n s o = true := by rfl) (hns : freshN [d] N = true := by rfl)
    (h : ∀ r, afterL ops.toList draw hist s o N [.box b cells] [] [.vec d ti.size (p + m) (appRow p (chunkRow ti.size ((cells.drop o1).take (L * ti.size))) (chunkRow ti.size ((cells.drop o2).take (L * ti.size))))] [d] (.own d ti.size 0 (p + m)) (.vec d ti.size (p + m) (appRow p (chunkRow ti.size ((cells.drop o1).take (L * ti.size))) (chunkRow ti.size ((cells.drop o2).take (L * ti.size)))) :: c) (fun h' s' c' N' => WO K n ops draw (KD r) l h' s' c' N') = some (S' r) := by intros; rfl) :
    DE Po fun r => WO K n ops draw (KD r) (o :: l) hist s c N := by
  have hops : so ∈ o.op.operands.toList ++ guardOp ops.toList o ∧ xo ∈ o.op.operands.toList ++ guardOp ops.toList o := by rw [ho]; simp [Op.operands, Call.operands]
  refine dLoc (cr := delC b c) [.box b cells] [] [.vec d ti.size (p + m) (appRow p (chunkRow ti.size ((cells.drop o1).take (L * ti.size))) (chunkRow ti.size ((cells.drop o2).take (L * ti.size))))] [d] (.own d ti.size 0 (p + m)) k hq (fun X e fr c3 a w _ rel hf => ?_) (by simpa using (getC_perm hc).1)
    (by simpa using ((List.Perm.cons _ (getC_perm hc).1).trans (List.Perm.swap _ _ _))) hns h
  have h1 := opd_sound rel (opd_rd hops.1 hs)
  have h2 := opd_sound rel (opd_rd hops.2 hx)
  simp only [Rep] at h1 h2
  have M : MemOK X e fr (.box b cells :: c3) w := rel.mem
  obtain ⟨F, hch, hF⟩ := M.head
  obtain ⟨bb, β, κ, q1, q2, q3⟩ := hch
  obtain ⟨_, _, _, g1, g2, g3⟩ := h1
  rw [q1] at g1; cases g1
  obtain ⟨_, _, _, k1, k2, k3⟩ := h2
  rw [q1] at k1; cases k1
  obtain ⟨dd, e1, _, e3⟩ := (hT _ _ ht).desc
  simp only [TDOK] at e3
  subst e3
  obtain ⟨pi, z, i1, i2, i3, i4, i5, i6, i7⟩ := (hT _ _ he).info
  have hpos : 0 < ti.size := by simp [Nat.blt] at hz; omega
  have hb := Nat.le_of_ble_eq_true hb
  have hbb : (p + m) * pi.bytes ≤ 140737488355328 := by rw [i3]; have := Nat.mul_le_mul hmm hb; omega
  obtain ⟨olds, ol1, ol2, ol0, ol3⟩ := rows_read (e := .bare e.G) (w := w) (esz := ti.size) (m := p) (b := bb) (o := β + o1) (row := chunkRow ti.size ((cells.drop o1).take (L * ti.size))) (fun q hq => box_rows q3 hn1 hl1 (by omega))
  obtain ⟨news, n1, n2, n3, n4⟩ := rows_read (e := .bare e.G) (w := w) (esz := ti.size) (m := m) (b := bb) (o := β + o2) (row := chunkRow ti.size ((cells.drop o2).take (L * ti.size))) (fun q hq => box_rows q3 hn2 hl2 (by omega))
  obtain ⟨v', w', r1, ⟨r2, r3⟩, r4⟩ := run_append_arg_grows (P := P) w t o.type el pi z ti.size pi.bytes e1 i1 i4 i2 rfl (by rw [← i7, ← i5]; simp) hpos ⟨bb, β + o1, none⟩ p c1 olds ol1 ol2 ⟨bb, β + o2, none⟩ m c2 news n1 n2 hcm (Nat.le_trans hmm (by decide)) hbb
  obtain ⟨g, cap, cur, rfl, cc1, cc2, cc3, cc4, cc5, cc6⟩ := r3.resolve_left (fun h => by omega)
  have hcell : ∀ (j : Nat) x, cur[j]? = some x → CellW w' g j x := fun j x hx => ⟨cur.size, el, by unfold atw; rw [cc2]; simp [hx]⟩
  have hgs : g < w'.heap.size := (Array.getElem?_eq_some_iff.1 cc2).1
  have hfree := M.free d (hf d (by simp))
  refine ⟨.slice (some ⟨g, 0, none⟩) (p + m) cap, w', bind1 e d (g, 0, cap), .inl ?_, bind1_le hfree, ?_, ?_⟩
  · rw [oper_eta hd ho]
    simp [execOp, resolve, invoke, builtin, g3, k3, r1, Result.andThen]
  · simp only [Rep]
    exact ⟨g, 0, cap, _, bind1_at, by omega, rfl, fun _ => by simp⟩
  · refine MemOK.perm (MemOK.upd (us := []) (vs := [.vec d ti.size (p + m) (appRow p (chunkRow ti.size ((cells.drop o1).take (L * ti.size))) (chunkRow ti.size ((cells.drop o2).take (L * ti.size))))]) M (bind1_le hfree) (fun j hj => by rw [bind1_ne (by simpa using hj.2)]; exact M.free j hj.1) r4.os r4.tape r4.output r4.size fun Fu hFu _ => ⟨fun x o hx _ => atw_of (r4.block x hx (by simp)) o, fun x o => x = g ∧ 0 ≤ o ∧ o < 0 + cap * ti.size, SepOK.one.2 ⟨_, ⟨g, 0, cap, bind1_at, cc3, cc4, rfl, fun o _ o2 => ?_, fun q hq => ?_⟩, fun _ _ => .rfl⟩, ?_, fun _ _ _ h => .inl h⟩) (List.Perm.swap _ _ _)
    · exact ⟨cur[o]'(by omega), hcell o _ (by simp)⟩
    · have hrow : ∃ ys : List Value, RepL (appRow p (chunkRow ti.size ((cells.drop o1).take (L * ti.size))) (chunkRow ti.size ((cells.drop o2).take (L * ti.size))) q) (.bare e.G) ys ∧ ys = ((olds ++ news).drop (q * ti.size)).take ti.size := by
        refine ⟨_, ?_, rfl⟩
        unfold appRow
        by_cases hqp : q < p
        · rw [if_pos hqp]
          have hle2 : q * ti.size + ti.size ≤ p * ti.size := by have : (q + 1) * ti.size ≤ p * ti.size := Nat.mul_le_mul_right _ hqp; rwa [Nat.add_mul, Nat.one_mul] at this
          rw [List.drop_append_of_le_length (by omega), List.take_append_of_le_length (by simp; omega)]
          exact ol3 q hqp
        · rw [if_neg hqp]
          have := n4 (q - p) (by omega)
          have he : p * ti.size + (q - p) * ti.size = q * ti.size := by rw [← Nat.add_mul]; congr 1; omega
          rw [List.drop_append, show olds.drop (q * ti.size) = [] from List.drop_eq_nil_of_le (by omega), List.nil_append, show q * ti.size - olds.length = (q - p) * ti.size by omega]
          exact this
      obtain ⟨ys, y1, y2⟩ := hrow
      have hyl := y1.len
      have hq2 : q * ti.size + ti.size ≤ (p + m) * ti.size := by have : (q + 1) * ti.size ≤ (p + m) * ti.size := Nat.mul_le_mul_right _ hq; rwa [Nat.add_mul, Nat.one_mul] at this
      have hlen : (appRow p (chunkRow ti.size ((cells.drop o1).take (L * ti.size))) (chunkRow ti.size ((cells.drop o2).take (L * ti.size))) q).length = ti.size := by
        rw [← hyl, y2, List.length_take, List.length_drop, r2]; omega
      refine ⟨hlen, .of_repL y1 fun j y hy => ?_⟩
      have hj := (List.getElem?_eq_some_iff.1 hy).1
      rw [hyl, hlen] at hj
      rw [y2, List.getElem?_take, if_pos hj, List.getElem?_drop, ← cc6, List.getElem?_take, if_pos (by omega)] at hy
      have := hcell _ y (by simpa using hy)
      simpa using this
    · rintro x o ⟨rfl, _, _⟩
      exact ⟨.inr cc1, hgs, M.fresh cc1⟩
end
end Go.E

/- The walk anew, part 32: contracts of the kit that read objects of one's own. -/
set_option linter.unusedSimpArgs false
set_option linter.unusedVariables false
namespace Go.E
open Go.RowKit
/-- A contract that was proved elsewhere; objects that are handed in are not wanted any more. -/
theorem FnE.ofBelow {P : Program} {Kn : IM} {f : FuncId} {nA : Nat} {avs : List AV} {cs : List Ch} {x : AV} {v : Value} (hc : Callable P f) (hx : ∀ e, Rep x e v)
    (h : ∀ (e : Env) (w : World) cargs F, (∀ b o u, e.G b o = some u → w.cell? ⟨b, o, none⟩ = some u) → IM.le Kn e.G → RepT avs e cargs → SepOK e w cs F → Calls P f cargs.toArray w fun en w' => en = .returned v ∧ Below w.heap.size w w') : FnE P Kn f nA avs cs nA x [] := by
  refine ⟨hc, fun e w cargs F hKn him hr hnm _ hsep hF => ?_⟩
  refine (h e w cargs F him hKn hr hsep).mono ?_
  rintro en w' ⟨rfl, hb⟩
  have hlt : ∀ b o u, e.G b o = some u → b < w.heap.size := fun b o u hu => Go.block_lt_of_cell (him b o u hu)
  refine ⟨v, e, fun _ _ => False, rfl, hx e, Env.le_refl e, hnm, by simp [SepOK], fun _ _ h => h.elim, ?_⟩
  exact {
    im := fun b o u hu => by
      have h1 := him b o u hu
      simp only [World.cell?] at h1 ⊢
      rw [hb.block b (hlt b o u hu)]
      exact h1
    new := fun b o u hu => .inl hu
    os := hb.os
    tape := hb.tape
    output := hb.output
    sz := hb.size
    keep := fun b o hbl _ => by simp only [atw]; rw [hb.block b hbl] }
end Go.E

/- The walk anew, part 33: clear, of numbers. -/
set_option linter.unusedSimpArgs false
set_option linter.unusedVariables false
namespace Go.E
open Go.RowKit
section
variable {P : Program} {T : Tab} {K : Ctx P T → Prop} {n : Nat} {ops : Array Oper} {draw : Bool} {α : Type} {Po : α → Prop} {S' : α → Prop} {KD : α → List (Nat × AV) → List Ch → List Nat → Prop}
def clrRow (i m : Nat) (z : AV) (row : Nat → List AV) : Nat → List AV := fun q => if i ≤ q ∧ q < i + m then [z] else row q
theorem dClr (kd : IntKind) (hT : TabOK P T) {o : Oper} {l : List Oper} {hist : List FP} {s : List (Nat × AV)} {c : List Ch} {N : List Nat} {t el b i m mm sz by_ s2 b2 : Nat} {ag a2 : Bool} {zz : List Value} {row : Nat → List AV} {x : Operand} (k : DE Po S') (hd : o.dst = none := by rfl) (ho : o.op = .call ⟨.builtin .clear, #[x], #[t]⟩ := by rfl)
    (ht : T t = some ⟨sz, by_, ag, zz, .slice el⟩ := by rfl) (he : T el = some ⟨s2, b2, a2, [.int kd 0], .int kd⟩ := by rfl) (hz : zeroA ⟨s2, b2, a2, [.int kd 0], .int kd⟩ = some (.v (.int kd 0)) := by rfl) (hx : opd s x = some (.own b 1 i m) := by rfl) (hc : getC b c = some (.vec b 1 mm row) := by rfl) (him : i + m ≤ mm) (hq : guardT ops.toList n s o = true := by rfl)
    (h : ∀ r, afterL ops.toList draw hist s o N [] [.vec b 1 mm row] [.vec b 1 mm (clrRow i m (.v (.int kd 0)) row)] [] (.tup []) (setC b (.vec b 1 mm (clrRow i m (.v (.int kd 0)) row)) c) (fun h' s' c' N' => WO K n ops draw (KD r) l h' s' c' N') = some (S' r) := by intros; rfl) :
    DE Po fun r => WO K n ops draw (KD r) (o :: l) hist s c N := by
  have hops : x ∈ o.op.operands.toList ++ guardOp ops.toList o := by rw [ho]; simp [Op.operands, Call.operands]
  refine dLoc (cr := delC b c) [] [.vec b 1 mm row] [.vec b 1 mm (clrRow i m (.v (.int kd 0)) row)] [] (.tup []) k hq (fun X e fr c2 a w _ rel hf => ?_) (by simpa using (getC_perm hc).1) (by simpa using (getC_perm hc).2.1 _) rfl h
  have hx' := opd_sound rel (opd_rd hops hx)
  simp only [Rep] at hx'
  obtain ⟨bb, β, κ, aa, g1, g2, g3, g4⟩ := hx'
  have M : MemOK X e fr (.vec b 1 mm row :: c2) w := rel.mem
  obtain ⟨F, ⟨b', β', κ', h1, h2, h2', h2'', h3, h5⟩, h4⟩ := M.head
  rw [g1] at h1; cases h1
  obtain ⟨dd, e1, _, e3⟩ := (hT _ _ ht).desc
  simp only [TDOK] at e3
  subst e3
  obtain ⟨zv, z1, z2⟩ := zeroA_sound hT he hz e w
  simp only [Rep] at z2
  subst z2
  have hex : ∀ j, j < (List.replicate m (Value.int kd 0)).length → ∃ z, CellW w bb (β + i + j) z := fun j hj => by
    simp at hj
    exact h3 _ (by omega) (by omega)
  obtain ⟨f1, f2, f3, f4, f5, f6⟩ := setCells_facts bb (List.replicate m (Value.int kd 0)) (β + i) w hex
  have hst := run_storeCellsW (P := P) bb (β + i) (List.replicate m (Value.int kd 0)) hex (fun v hv => by rw [(List.mem_replicate.1 hv).2]; rfl)
  have hzc : (Builtin.zeroCells (Value.int kd 0).cells m).toList = List.replicate m (Value.int kd 0) := by
    simp only [Builtin.zeroCells, Value.cells]
    apply List.ext_getElem
    · simp
    · intro j _ _
      simp
      have : j % 1 = 0 := Nat.mod_one j
      simp [this]
  have hrun : ∃ w', (Builtin.clear_ #[t] o.type #[.slice aa m (κ - i)]).run P w = .ok (.tuple #[]) w' ∧ w' = (w.setCells bb (β + i) (List.replicate m (Value.int kd 0))) := by
    rcases Nat.eq_zero_or_pos m with hm | hm
    · subst hm
      refine ⟨w, ?_, by simp [World.setCells]⟩
      cases aa <;> simp [Builtin.clear_, run_underlying e1]
    · refine ⟨_, ?_, rfl⟩
      rw [g4 (by omega)]
      obtain ⟨m', rfl⟩ : ∃ m', m = m' + 1 := ⟨m - 1, by omega⟩
      simp [Builtin.clear_, run_underlying e1, z1, hzc, Nat.mul_one, hst]
  obtain ⟨w', hr, rfl⟩ := hrun
  refine ⟨.tuple #[], w.setCells bb (β + i) (List.replicate m (Value.int kd 0)), e, .inl ?_, Env.le_refl e, by simp [Rep, RepT], ?_⟩
  · rw [oper_eta hd ho]
    simp [execOp, resolve, invoke, builtin, g3, hr, Result.andThen]
  · refine MemOK.fr_le ?_ (fun k hk => hk.1)
    refine MemOK.upd1 (vs := [_]) M (Env.le_refl e) M.free f4 f5 f6 (Nat.le_of_eq f3.symm) fun Fu ⟨b', β', κ', k1, _, _, k2, k3, k5⟩ hFu => ?_
    rw [g1] at k1; cases k1
    subst k2
    refine ⟨fun b' o' _ hn => f1 _ _ (by rintro ⟨rfl, h⟩; rw [List.length_replicate] at h; exact hn ⟨rfl, by omega, by omega⟩), fun x q => x = bb ∧ β ≤ q ∧ q < β + κ * 1, SepOK.one.2 ⟨_, ⟨bb, β, κ, g1, h2, h2', rfl, ?_, ?_⟩, fun _ _ => .rfl⟩, ?_, fun _ _ _ h => .inl h⟩
    · intro q q1 q2
      by_cases hq : β + i ≤ q ∧ q < β + i + m
      · have := f2 (q - (β + i)) (.int kd 0) (by rw [List.getElem?_replicate, if_pos (by omega)])
        rw [show β + i + (q - (β + i)) = q by omega] at this
        exact ⟨_, this⟩
      · obtain ⟨z, hz⟩ := k3 q q1 q2
        exact ⟨z, hz.keep (f1 _ _ (by rw [List.length_replicate]; omega))⟩
    · intro q hq
      unfold clrRow
      split
      · rename_i hqi
        refine ⟨rfl, fun j cc hcc => ?_⟩
        have hj : j = 0 := by have := (List.getElem?_eq_some_iff.1 hcc).1; simp at this; omega
        subst hj
        simp at hcc
        subst hcc
        have := f2 (q - i) (.int kd 0) (by rw [List.getElem?_replicate, if_pos (by omega)])
        rw [show β + i + (q - i) = β + q * 1 + 0 by omega] at this
        exact ⟨_, this, by simp only [Rep], rfl⟩
      · rename_i hqi
        obtain ⟨r1, r2⟩ := k5 q hq
        exact ⟨r1, r2.keep (Env.le_refl _) (fun o o1 o2 => f1 _ _ (by rw [r1] at o2; simp; omega))⟩
    · rintro x q ⟨rfl, q1, q2⟩
      have := hFu x q ⟨rfl, q1, q2⟩
      exact ⟨.inl ⟨rfl, q1, q2⟩, by rw [f3]; exact this.1, this.2⟩
end
end Go.E

/- The walk anew, part 34: fewer rows. -/
set_option linter.unusedSimpArgs false
set_option linter.unusedVariables false
namespace Go.E
open Go.RowKit
theorem CI.vecLe {nv : List (Nat × Nat)} {k e n m : Nat} {row row' : Nat → List AV} (h : m ≤ n) (hr : ∀ i, i < m → row i = row' i) : CI nv (.vec k e n row) (.vec k e m row') := by
  intro ev w F _ hv
  obtain ⟨b, β, κ, h1, h2, h3, h4, h5, h6⟩ := hv
  exact ⟨b, β, κ, h1, Nat.le_trans h h2, h3, h4, h5, fun i hi => hr i hi ▸ h6 i (Nat.lt_of_lt_of_le hi h)⟩
section
variable {P : Program} {T : Tab} {K : Ctx P T → Prop} {n : Nat} {st : St} {Q : Exit → St → Prop} {α : Type} {Po : α → Prop} {QD : α → Exit → St → Prop}
theorem C_nilO {X : Ctx P T} {id p a b t u ty1 ty2 m esz el sz by_ : Nat} {ag : Bool} {zz : List Value} {k0 i0 : Nat} {p1 p2 : String} {f1 f2 : Array Edge} (ht : T t = some ⟨sz, by_, ag, zz, .slice el⟩) (hp : get st.s p = some (.own k0 esz i0 m)) (ha : Nat.blt a n = true) (hb : Nat.blt b n = true)
    (h : ∀ v : Bool, (v = true → m = 0) → Q .normal ⟨(b, .v (.bool v)) :: (a, .own k0 esz i0 m) :: st.s, st.c, st.N⟩) :
    SymC X n (.region id #[⟨some a, .move (.tmp p), ty1, p1, f1, none⟩, ⟨some b, .binOp .eql t (.tmp a) (.const (.slice none 0 0)) u, ty2, p2, f2, none⟩] false) st Q := by
  intro e act w r
  refine wp_region_list ?_
  obtain ⟨x, x1, x2⟩ := r.slots p _ hp
  have hx : act.eval (.tmp p) = x := by simp [Act.eval, x1]
  have x2' := x2
  simp only [Rep] at x2'
  obtain ⟨bO, βO, κO, aa, hO1, hO2, rfl, hO3⟩ := x2'
  generalize hcc : κO - i0 = cc at *
  have hP : P.underlying t = some (.slice el) := by
    obtain ⟨d, h1, _, h2⟩ := (X.ok _ _ ht).desc
    simp only [TDOK] at h2
    rw [h1, h2]
  have r1 := r.put (d := some a) (x := .own k0 esz i0 m) (v := .slice aa m cc) (fun q hq => by cases hq; simp [Nat.blt] at ha; omega) x2
  obtain ⟨v, hv, hvn⟩ := run_equalIn_slicenil (P := P) hP aa m cc w 9999
  have hd : (act.put (some a) (.slice aa m cc)).eval (.tmp a) = .slice aa m cc := by
    obtain ⟨y, y1, y2⟩ := r.put (d := some a) (x := .v (.slice aa m cc)) (v := .slice aa m cc) (fun q hq => by cases hq; simp [Nat.blt] at ha; omega) (by simp only [Rep]) |>.slots a (.v (.slice aa m cc)) (by simp [putS, get_cons])
    simp only [Rep] at y2
    subst y2
    simp [Act.eval, y1]
  have r2 := r1.put (d := some b) (x := .v (.bool v)) (v := .bool v) (fun q hq => by cases hq; simp [Nat.blt] at hb; omega) (by simp only [Rep])
  have hm : v = true → m = 0 := fun hvt => by
    rcases Nat.eq_zero_or_pos m with h4 | h4
    · exact h4
    · have := hO3 (by omega); rw [hvn hvt] at this; cases this
  unfold wpList
  rw [if_pos (by simp [Region.wanted])]
  refine .inl ?_
  unfold Oper.wp
  have hr1 : (execOp act.eval ⟨some a, .move (.tmp p), ty1, p1, f1, none⟩).run P w = .ok (.value (.slice aa m cc)) w := by
    simp only [execOp, hx]; rfl
  rw [hr1]
  show wpList _ _ _ _ _ _
  unfold wpList
  rw [if_pos (by simp [Region.wanted])]
  refine .inl ?_
  unfold Oper.wp
  have hr2 : (execOp (act.put (some a) (.slice aa m cc)).eval ⟨some b, .binOp .eql t (.tmp a) (.const (.slice none 0 0)) u, ty2, p2, f2, none⟩).run P w = .ok (.value (.bool v)) w := by
    have h2 : (act.put (some a) (.slice aa m cc)).eval (.const (.slice none 0 0)) = .slice none 0 0 := rfl
    have hv' : (Op.equal t (.slice aa m cc) (.slice none 0 0)).run P w = .ok v w := hv
    simp only [execOp, hd, h2]
    simp [eqGuard, binOp, hv']
  rw [hr2]
  show wpList _ _ _ _ _ _
  unfold wpList
  exact ⟨e, ⟨(b, .v (.bool v)) :: (a, .own k0 esz i0 m) :: st.s, st.c, st.N⟩, r2, h v hm⟩
/-- Is a slice nil? Nobody knows: what comes then must give the same in either case. -/
theorem dNilO {id p a b t u ty1 ty2 m esz el sz by_ : Nat} {ag : Bool} {zz : List Value} {k0 i0 : Nat} {p1 p2 : String} {f1 f2 : Array Edge} (r0 : α) (k : ∀ v : Bool, (v = true → m = 0) → DE (fun r => r = r0) fun r => QD r .normal ⟨(b, .v (.bool v)) :: (a, .own k0 esz i0 m) :: st.s, st.c, st.N⟩)
    (ht : T t = some ⟨sz, by_, ag, zz, .slice el⟩ := by rfl) (hp : get st.s p = some (.own k0 esz i0 m) := by rfl) (ha : Nat.blt a n = true := by rfl) (hb : Nat.blt b n = true := by rfl) (h0 : Po r0 := by first | exact trivial | rfl | assumption) :
    DE Po fun r => WC K n (.region id #[⟨some a, .move (.tmp p), ty1, p1, f1, none⟩, ⟨some b, .binOp .eql t (.tmp a) (.const (.slice none 0 0)) u, ty2, p2, f2, none⟩] false) st (QD r) :=
  ⟨r0, h0, fun X _ => C_nilO ht hp ha hb fun v hv => by
    obtain ⟨r, rfl, h⟩ := k v hv
    exact h⟩

end
end Go.E

/- The walk anew, part 35: arguments that can be read are typed data; from a contract to a law's row. -/
set_option linter.unusedSimpArgs false
set_option linter.unusedVariables false
namespace Go.E
open Go.RowKit Go.WideShapes Go.ChangeShapes
abbrev memE (W : World) : Env := .bare fun b o => W.cell? ⟨b, o, none⟩
theorem heap_of_atw {w w' : World} {b : Nat} (h : ∀ o, atw w' b o = atw w b o) : w'.heap[b]? = w.heap[b]? := by
  unfold atw at h
  cases hw : w.heap[b]? with
  | none =>
    simp only [hw] at h
    cases hw' : w'.heap[b]? with
    | none => rfl
    | some x => have := h 0; simp only [hw'] at this; cases x <;> simp at this
  | some x =>
    simp only [hw] at h
    cases hw' : w'.heap[b]? with
    | none => have := h 0; simp only [hw'] at this; cases x <;> simp at this
    | some y =>
      simp only [hw'] at h
      cases x <;> cases y <;> simp at h
      all_goals first
        | exact congrArg some h
        | (have h2 := h 0
           have h3 : ∀ o, _ := fun o => (h o).1
           rw [Array.ext_getElem? h3, h2.2.2.1, h2.2.2.2])
        | simp_all
/-- From the contract of a law. -/
theorem FnE.law {P : Program} {Kn : IM} {f : FuncId} {avs : List AV} (h : FnE P Kn f 0 avs [] 0 (.v (.bool true)) []) {W : World} {args : Array Value} (hK : ∀ b o v, Kn b o = some v → W.cell? ⟨b, o, none⟩ = some v) (hr : RepT avs (memE W) args.toList) :
    Calls P f args W fun e w' => e = .returned (.bool true) ∧ Below W.heap.size W w' := by
  have h1 := h.2 (memE W) W args.toList (fun _ _ => False) hK (fun _ _ _ h => h) hr (fun _ _ => rfl) (fun k hk => absurd hk (Nat.not_lt_zero _)) (by simp [SepOK]) (fun _ _ h => h.elim)
  rw [Array.toArray_toList] at h1
  refine h1.mono ?_
  rintro e w' ⟨cr, e', F', rfl, g1, g2, g3, g4, g5, g6⟩
  simp only [Rep] at g1
  exact ⟨by rw [g1], g6.os, g6.tape, g6.output, g6.sz, fun b hb => heap_of_atw fun o => g6.keep b o hb (fun h => h)⟩

/-- What reads as data of type t is such a Lean datum. -/
def OpensT (P : Program) (t : Nat) {α : Type} (cells : α → List AV) (ok : α → Prop) : Prop :=
  ∀ (H : Type) (enc : TypeId × Value → H) (W : World) (fuel : Nat) (cs : List Value) (d : DataW H) (ps : List MemPlace),
    DataW.trod enc P W 0 (fun _ => true) true fuel t cs = some (d, ps) → ∃ x : α, ok x ∧ RepL (cells x) (memE W) cs

theorem opens_int {P : Program} {t : Nat} {k : IntKind} (h : P.underlying t = some (.int k)) : OpensT P t (fun n : Int => [.v (.int k n)]) (fun n => (Lit.int k n).wf = true) := by
  intro H enc W fuel cs d ps hr
  cases fuel with
  | zero => simp [DataW.trod] at hr
  | succ fuel =>
    unfold DataW.trod at hr
    rw [h] at hr
    simp only at hr
    split at hr <;> try (simp_all; done)
    · rename_i k1 k2 n heq
      cases heq
      split at hr
      · rename_i hk
        obtain ⟨rfl, hw⟩ := hk
        exact ⟨n, hw, by simp only [RepL, Rep]; exact ⟨_, [], rfl, rfl, rfl, rfl⟩⟩
      · cases hr

theorem opens_bool {P : Program} {t : Nat} (h : P.underlying t = some .bool) : OpensT P t (fun b : Bool => [.v (.bool b)]) (fun _ => True) := by
  intro H enc W fuel cs d ps hr
  cases fuel with
  | zero => simp [DataW.trod] at hr
  | succ fuel =>
    unfold DataW.trod at hr
    rw [h] at hr
    simp only at hr
    split at hr <;> try (simp_all; done)
    · rename_i b _
      exact ⟨b, trivial, by simp only [RepL, Rep]; exact ⟨_, [], rfl, rfl, rfl, rfl⟩⟩

theorem opens_string {P : Program} {t : Nat} (h : P.underlying t = some .string) : OpensT P t (fun l : List UInt8 => [.s l]) (fun l => l.length ≤ maxLen) := by
  intro H enc W fuel cs d ps hr
  cases fuel with
  | zero => simp [DataW.trod] at hr
  | succ fuel =>
    unfold DataW.trod at hr
    rw [h] at hr
    simp only at hr
    split at hr <;> try (simp_all; done)
    · rename_i s heq
      split at hr
      · rename_i hs
        refine ⟨s.data.toList, by show s.data.toList.length ≤ maxLen; rw [Array.length_toList]; exact hs, ?_⟩
        simp only [RepL, Rep, S]
        exact ⟨_, [], rfl, by cases s; rfl, rfl, rfl⟩
      · cases hr

/-- Fields, from a place on. -/
def OpensF (P : Program) (l : List Field) (start total : Nat) {α : Type} (cells : α → List AV) (ok : α → Prop) : Prop :=
  ∀ (H : Type) (enc : TypeId × Value → H) (W : World) (fuel : Nat) (cs : List Value) (xs : List (DataW H × List MemPlace)), cs.length = total →
    l.mapM (fun f => DataW.trod enc P W 0 (fun _ => true) true fuel f.type ((cs.drop f.offset).take (P.cellsOf f.type))) = some xs → ∃ x : α, ok x ∧ RepL (cells x) (memE W) (cs.drop start)

theorem opensF_nil {P : Program} {total : Nat} : OpensF P [] total total (fun _ : Unit => []) (fun _ => True) := by
  intro H enc W fuel cs xs hl _
  exact ⟨(), trivial, by simp only [RepL]; exact List.drop_eq_nil_of_le (by omega)⟩

theorem RepL.app2 : ∀ {cs ds : List AV} {e : Env} {ys zs : List Value}, RepL cs e ys → RepL ds e zs → RepL (cs ++ ds) e (ys ++ zs)
  | [], ds, e, ys, zs, h, k => by simp only [RepL] at h; subst h; simpa using k
  | c :: cs, ds, e, ys, zs, h, k => by
    simp only [RepL] at h
    obtain ⟨z, zs', rfl, h1, h2, h3⟩ := h
    simp only [List.cons_append, RepL]
    exact ⟨z, _, rfl, h1, h2, RepL.app2 h3 k⟩

theorem opensF_cons {P : Program} {f : Field} {l : List Field} {start total sz : Nat} {α β : Type} {cells : α → List AV} {ok : α → Prop} {cells2 : β → List AV} {ok2 : β → Prop}
    (hoff : f.offset = start) (hsz : P.cellsOf f.type = sz) (h1 : OpensT P f.type cells ok) (h2 : OpensF P l (start + sz) total cells2 ok2) :
    OpensF P (f :: l) start total (fun p : α × β => cells p.1 ++ cells2 p.2) (fun p => ok p.1 ∧ ok2 p.2) := by
  intro H enc W fuel cs xs hl hm
  rw [List.mapM_cons] at hm
  cases hb : DataW.trod enc P W 0 (fun _ => true) true fuel f.type ((cs.drop f.offset).take (P.cellsOf f.type)) with
  | none => simp [hb] at hm
  | some y =>
    cases hr : l.mapM (fun f => DataW.trod enc P W 0 (fun _ => true) true fuel f.type ((cs.drop f.offset).take (P.cellsOf f.type))) with
    | none => simp [hb, hr] at hm
    | some ys =>
      obtain ⟨x, hx, hxr⟩ := h1 H enc W fuel _ y.1 y.2 hb
      obtain ⟨x2, hx2, hxr2⟩ := h2 H enc W fuel cs ys hl hr
      refine ⟨(x, x2), ⟨hx, hx2⟩, ?_⟩
      rw [hoff, hsz] at hxr
      have := hxr.app2 hxr2
      rwa [← List.drop_drop, List.take_append_drop] at this

theorem opens_struct {P : Program} {t total : Nat} {fs : Array Field} {α β : Type} {cells : α → List AV} {ok : α → Prop} {cells2 : β → List AV} (g : α → β) (h : P.underlying t = some (.struct fs)) (hsz : P.cellsOf t = total)
    (hf : OpensF P fs.toList 0 total cells ok) (hg : ∀ x, cells2 (g x) = cells x) {ok2 : β → Prop} (hok : ∀ x, ok x → ok2 (g x)) : OpensT P t cells2 ok2 := by
  intro H enc W fuel cs d ps hr
  cases fuel with
  | zero => simp [DataW.trod] at hr
  | succ fuel =>
    unfold DataW.trod at hr
    rw [h] at hr
    simp only at hr
    split at hr <;> try (simp_all; done)
    rename_i hc
    cases hm : fs.toList.mapM (fun f => DataW.trod enc P W 0 (fun _ => true) true fuel f.type ((cs.drop f.offset).take (P.cellsOf f.type))) with
    | none => rw [hm] at hr; simp at hr
    | some xs =>
      obtain ⟨x, hx, hxr⟩ := hf H enc W fuel cs xs (by rw [hc, hsz]) hm
      exact ⟨g x, hok x hx, by rw [hg]; simpa using hxr⟩

theorem opens_map {P : Program} {t : Nat} {α : Type} {cells : α → List AV} {ok ok2 : α → Prop} (h : OpensT P t cells ok) (hok : ∀ x, ok x → ok2 x) : OpensT P t cells ok2 :=
  fun H enc W fuel cs d ps hr => let ⟨x, h1, h2⟩ := h H enc W fuel cs d ps hr; ⟨x, hok x h1, h2⟩

/-- A parameter of one cell. -/
theorem opens_one {P : Program} {t : Nat} {α : Type} {cell : α → AV} {ok : α → Prop} (h : OpensT P t (fun x => [cell x]) ok) {H : Type} {enc : TypeId × Value → H} {W : World} {v : Value} {d : DataW H} {ps : List MemPlace}
    (hr : DataW.Trod enc P W 0 (fun _ => true) true t v d ps) (hv : v.cells.toList.length = 1 → v.cells.toList = [v]) : ∃ x, ok x ∧ Rep (cell x) (memE W) v := by
  obtain ⟨fuel, hf⟩ := hr
  obtain ⟨x, h1, h2⟩ := h H enc W fuel _ d ps hf
  refine ⟨x, h1, ?_⟩
  simp only [RepL] at h2
  obtain ⟨z, zs, hz, h3, h4, rfl⟩ := h2
  have := hv (by rw [hz]; rfl)
  rw [this] at hz
  cases hz
  exact h3

theorem cells_one {v : Value} (h : ∀ cs, v ≠ .agg cs) : v.cells.toList.length = 1 → v.cells.toList = [v] := by
  intro _
  cases v <;> simp_all [Value.cells]

/-- A parameter that is a struct. -/
theorem opens_agg {P : Program} {t : Nat} {α : Type} {cells : α → List AV} {ok : α → Prop} (h : OpensT P t cells ok) {H : Type} {enc : TypeId × Value → H} {W : World} {v : Value} {d : DataW H} {ps : List MemPlace}
    (hr : DataW.Trod enc P W 0 (fun _ => true) true t v d ps) (hv : ∃ cs, v = .agg cs) : ∃ x, ok x ∧ Rep (.agg (cells x)) (memE W) v := by
  obtain ⟨fuel, hf⟩ := hr
  obtain ⟨x, h1, h2⟩ := h H enc W fuel _ d ps hf
  obtain ⟨cs, rfl⟩ := hv
  exact ⟨x, h1, by simp only [Rep]; exact ⟨cs, rfl, h2⟩⟩

def OpensV (P : Program) (t : Nat) {α : Type} (av : α → AV) (ok : α → Prop) : Prop :=
  ∀ (H : Type) (enc : TypeId × Value → H) (W : World) (base : Nat) (v : Value) (d : DataW H) (ps : List MemPlace),
    Value.okWide P W .any base t v → DataW.Trod enc P W 0 (fun _ => true) true t v d ps → ∃ x : α, ok x ∧ Rep (av x) (memE W) v

theorem opensV_of {P : Program} {t : Nat} {α : Type} {cell : α → AV} {ok : α → Prop} (h : OpensT P t (fun x => [cell x]) ok) (hv : ∀ (W : World) base v, Value.okWide P W .any base t v → ∀ cs, v ≠ .agg cs) : OpensV P t cell ok :=
  fun H enc W base v d ps hw hr => opens_one h hr (cells_one (hv W base v hw))

theorem opensV_int {P : Program} {t : Nat} {k : IntKind} (h : P.underlying t = some (.int k)) : OpensV P t (fun n : Int => .v (.int k n)) (fun n => (Lit.int k n).wf = true) :=
  opensV_of (opens_int h) (fun W base v hw cs hc => by obtain ⟨n, rfl⟩ := okWide_int h hw; cases hc)

theorem opensV_bool {P : Program} {t : Nat} (h : P.underlying t = some .bool) : OpensV P t (fun b : Bool => .v (.bool b)) (fun _ => True) :=
  opensV_of (opens_bool h) (fun W base v hw cs hc => by subst hc; simp [Value.okWide, h, Cell.okWide, Cell.ok] at hw)

theorem opensV_string {P : Program} {t : Nat} (h : P.underlying t = some .string) : OpensV P t (fun l : List UInt8 => .s l) (fun l => l.length ≤ maxLen) :=
  opensV_of (opens_string h) (fun W base v hw cs hc => by obtain ⟨n, rfl⟩ := okWide_string h hw; cases hc)

theorem opensV_struct {P : Program} {t : Nat} {fs : Array Field} {α : Type} {cells : α → List AV} {ok : α → Prop} (h : P.underlying t = some (.struct fs)) (ho : OpensT P t cells ok) : OpensV P t (fun x => .agg (cells x)) ok :=
  fun H enc W base v d ps hw hr => opens_agg ho hr (by simp only [Value.okWide, h] at hw; obtain ⟨cs, h1, _⟩ := hw; exact ⟨cs, h1⟩)

def OpensA (P : Program) (ts : List Nat) {α : Type} (avs : α → List AV) (ok : α → Prop) : Prop :=
  ∀ (H : Type) (enc : TypeId × Value → H) (W : World) (base : Nat) (vs : List Value) (ds : List (DataW H)) (ps : List MemPlace),
    (∀ (j : Nat) t v, ts[j]? = some t → vs[j]? = some v → Value.okWide P W .any base t v) →
    DataW.TrodAll enc P W 0 (fun _ => true) true ts vs ds ps → ∃ x : α, ok x ∧ RepT (avs x) (memE W) vs

theorem opensA_nil {P : Program} : OpensA P [] (fun _ : Unit => []) (fun _ => True) := by
  intro H enc W base vs ds ps hv hr
  obtain ⟨rfl, _, _⟩ := trodAll_nil hr
  exact ⟨(), trivial, by simp only [RepT]⟩

theorem opensA_cons {P : Program} {t : Nat} {ts : List Nat} {α β : Type} {av : α → AV} {ok : α → Prop} {avs : β → List AV} {ok2 : β → Prop} (h : OpensV P t av ok) (k : OpensA P ts avs ok2) :
    OpensA P (t :: ts) (fun p : α × β => av p.1 :: avs p.2) (fun p => ok p.1 ∧ ok2 p.2) := by
  intro H enc W base vs ds ps hv hr
  obtain ⟨v0, vs0, d0, ds0, p0, q0, rfl, rfl, rfl, h0, r0⟩ := trodAll_cons hr
  obtain ⟨x, hx, hxr⟩ := h H enc W base v0 d0 p0 (hv 0 t v0 rfl rfl) h0
  obtain ⟨y, hy, hyr⟩ := k H enc W base vs0 ds0 q0 (fun j t v h1 h2 => hv (j + 1) t v h1 h2) r0
  exact ⟨(x, y), ⟨hx, hy⟩, by simp only [RepT]; exact ⟨v0, vs0, rfl, hxr, hyr⟩⟩

theorem trodAll_below {H : Type} {enc : TypeId × Value → H} {P : Program} (hl : laidOutB P = true) {W W' : World} (bel : Below W.heap.size W W') : ∀ {ts : List Nat} {vs : List Value} {ds : List (DataW H)} {ps : List MemPlace},
    (∀ t ∈ ts, P.readableRec t = true ∧ t < P.types.size) → DataW.TrodAll enc P W 0 (fun _ => true) true ts vs ds ps →
    DataW.TrodAll enc P W' 0 (fun b => decide (b < W.heap.size)) true ts vs ds ps
  | [], vs, ds, ps, _, h => by
    obtain ⟨rfl, rfl, rfl⟩ := trodAll_nil h
    exact trodAll_mk0
  | t :: ts, vs, ds, ps, hk, h => by
    obtain ⟨v0, vs0, d0, ds0, p0, q0, rfl, rfl, rfl, h0, r0⟩ := trodAll_cons h
    have lt0 : ∀ x ∈ p0, x.block < W.heap.size := by obtain ⟨m, hm⟩ := h0; exact DataW.trod_lt m _ _ _ hm
    exact trodAll_cons_mk (Below.trod hl (hk t (by simp)).1 (hk t (by simp)).2 h0 bel lt0) (trodAll_below hl bel (fun t ht => hk t (by simp [ht])) r0)

theorem trodAll_count {H : Type} {enc : TypeId × Value → H} {P : Program} {W : World} {base : Nat} {sp : Nat → Bool} {held : Bool} : ∀ {ts : List Nat} {vs : List Value} {ds : List (DataW H)} {ps : List MemPlace},
    DataW.TrodAll enc P W base sp held ts vs ds ps → ds.length = ts.length
  | [], vs, ds, ps, h => by
    obtain ⟨rfl, rfl, rfl⟩ := trodAll_nil h
    rfl
  | t :: ts, vs, ds, ps, h => by
    obtain ⟨v0, vs0, d0, ds0, p0, q0, rfl, rfl, rfl, h0, r0⟩ := trodAll_cons h
    simp [trodAll_count r0]

/-- What a law's row asks of the call. -/
theorem law_call {P : Program} {fn : Func} {f : FuncId} {s : ChangeSpec} {tb : Nat} {ts : List Nat} {α : Type} {avs : α → List AV} {ok : α → Prop} {C : World → Prop}
    (hts : fn.params.toList = ts) (hrt : fn.resultTypes = #[tb]) (htb : P.underlying tb = some .bool) (hvars : s.vars = [])
    (hfn : ∀ (H : Type) (ds : List (DataW H)), ds.length = ts.length → s.fn H ds = { results := [.lit (.bool true)], args := ds })
    (ho : OpensA P ts avs ok) (hl : laidOutB P = true) (hk : ∀ t ∈ ts, P.readableRec t = true ∧ t < P.types.size)
    (hc : ∀ (W : World) x, ok x → C W → ∃ Kn : IM, (∀ b o v, Kn b o = some v → W.cell? ⟨b, o, none⟩ = some v) ∧ FnE P Kn f 0 (avs x) [] 0 (.v (.bool true)) []) {H : Type} (enc : TypeId × Value → H) :
    ∀ (W : World) (base : Nat) (args : Array Value) (ds gs : List (DataW H)) (before : List MemPlace),
      (∀ (j : Nat) t v, fn.params[j]? = some t → args[j]? = some v → Value.okWide P W .any base t v) →
      DataW.Whole enc P fn.params.toList s.vars false W args.toList ds gs before → C W →
      Calls P f args W fun e W' => ∃ v, e = .returned v ∧ s.post enc P fn false true false false W args v W' := by
  intro W base args ds gs before hval hW hCW
  have hW' := hW
  obtain ⟨p, q, hA, hV, rfl, hfz, hnd⟩ := hW
  rw [hvars] at hV
  obtain ⟨rfl, rfl⟩ := trodVars_none hV
  rw [hts] at hA
  obtain ⟨x, hx, hxr⟩ := ho H enc W base args.toList ds p (fun j t v h1 h2 => hval j t v (by rw [← hts] at h1; simpa using h1) (by simpa using h2)) hA
  obtain ⟨Kn, hK, hF⟩ := hc W x hx hCW
  refine (hF.law hK hxr).mono fun e W' ⟨he, bel⟩ => ?_
  subst he
  have hlen := trodAll_count hA
  refine ⟨_, rfl, ds, [], p ++ [], [], p, [], hW', ?_, ?_, ?_, bel.frame _, fun h => by cases h⟩
  · rw [List.append_nil, hfn H ds hlen, hrt]
    exact trodAll_mk1 (shut_bool htb _)
  · rw [List.append_nil, hfn H ds hlen, hts]
    exact trodAll_below hl bel hk hA
  · rw [List.append_nil, hfn H ds hlen, hvars]
    rfl
end Go.E

/- The rows of the seat: what they share. -/
set_option linter.unusedSimpArgs false
set_option linter.unusedVariables false
set_option maxRecDepth 100000
namespace Go.Proofs.YtkmjkicjlkchcaaGreatDoor
open Go.E Go.RowKit Go.ChangeShapes Go.WideShapes Go.ChangeAt

theorem own : ownKnob Tryz.prog.godebug = none := by kernel_rfl
/-- A row that lists variables, and whose contract asks what a library's own variable holds. -/
theorem handed_laid_shaped {H : Type} {enc : TypeId × Value → H} {a : Assume} {C : Checked} {os : Os} {f : FuncId} {fn : Func} {s : ChangeSpec} {conds : List PathCond} {apart fresh handsOn again : Bool} {Y : World → Prop} (hY : ∀ w w' : World, w.heap = w'.heap → Y w → Y w')
    (own : ownKnob C.prog.godebug = none) (started : os.Started) (noInit : C.prog.inits.idxOf? f = none) (hfn : C.prog.funcs[f]? = some fn)
    (witness : ∃ (w : World) (tape : Tape) (i : Input), w.os = os ∧ (w.forCall tape i).Shaped C.prog ∧ i.vars = [] ∧ Input.okWide C.prog (w.forCall tape i) .any w.heap.size f i ∧
      ((s.pre enc C.prog fn conds apart (w.forCall tape i).memory i.args ∧ Y (w.forCall tape i).memory) ∧ sizedMet enc C.prog fn (OpenSpec.ofChange s) apart (w.forCall tape i).memory i.args) ∧ a.holds C.prog (lone (Frame.enter C.prog f i.args .normal) [] (w.forCall tape i)))
    (k : ∀ (W : World) (base : Nat) (args : Array Value) (ds gs : List (DataW H)) (before : List MemPlace), (∀ (j : Nat) t v, fn.params[j]? = some t → args[j]? = some v → Value.okWide C.prog W .any base t v) → DataW.Whole enc C.prog fn.params.toList s.vars apart W args.toList ds gs before → Y W → W.ShapedOpen C.prog →
      Calls C.prog f args W fun e W' => ∃ v, e = .returned v ∧ s.post enc C.prog fn apart fresh handsOn again W args v W') :
    ReturnsInHanded a C os f .any (fun w args => (s.pre enc C.prog fn conds apart w args ∧ Y w) ∧ sizedMet enc C.prog fn (OpenSpec.ofChange s) apart w args) (s.post enc C.prog fn apart fresh handsOn again) := by
  refine returnsInHanded_of_calls own started noInit witness ?_
  rintro w tape i - hsh - ⟨-, -, -, g, hg, -, -, -, -, hval⟩ ⟨⟨⟨ds, gs, before, hw, -⟩, hy⟩, -⟩ -
  cases Option.some.inj (hg.symm.trans hfn)
  exact (k (w.forCall tape i) w.heap.size i.args ds gs before hval (DataW.Whole.of_heap (w := (w.forCall tape i).memory) (w' := w.forCall tape i) (by rfl) hw) (hY (w.forCall tape i).memory (w.forCall tape i) (by rfl) hy) hsh).mono (fun e W' ⟨v, he, hp⟩ => he ▸ ChangeSpec.post_blind hp)
/-- No text of the program starts a goroutine. -/
theorem goes_none {P : Program} (h : P.funcs.toList.any Func.goes = false) (c : OpenClaim) (hs : c.start = .entering) : false = c.goesBy P := by
  have h1 : ∀ g : Nat, (P.funcs[g]?).any Func.goes = false := fun g => by
    cases hg : P.funcs[g]? with
    | none => rfl
    | some fn =>
      have hm : fn ∈ P.funcs.toList := by
        rw [Array.mem_toList_iff]
        exact Array.mem_of_getElem? hg
      show Func.goes fn = false
      rw [List.any_eq_false] at h
      simpa using h fn hm
  have h2 : ∀ f, P.goes f = false := fun f => by
    unfold Program.goes
    rw [Bool.or_eq_false_iff]
    refine ⟨?_, ?_⟩
    · rw [List.any_eq_false]
      intro g _
      rw [h1 g]
      decide
    · have : P.funcs.any Func.goes = false := by
        rw [← Array.any_toList]
        exact h
      rw [this, Bool.and_false]
  unfold OpenClaim.goesBy Program.goesAt Program.goesFrom
  rw [hs]
  cases P.funcNamed c.func with
  | none => rfl
  | some f => show false = (P.goes f || false); rw [h2 f]; rfl
theorem noGo : Tryz.prog.funcs.toList.any Func.goes = false := by kernel_rfl
end Go.Proofs.YtkmjkicjlkchcaaGreatDoor

/- The base of the seat's walks. -/
set_option linter.unusedSimpArgs false
set_option linter.unusedVariables false
set_option maxRecDepth 100000
namespace Go.Proofs
open Go.E
abbrev I64 (n : Int) : AV := .v (.int .i64 n)
abbrev U64 (n : Int) : AV := .v (.int .u64 n)
abbrev U8 (n : Int) : AV := .v (.int .u8 n)
abbrev B (b : Bool) : AV := .v (.bool b)
abbrev NIL : AV := .v (.slice none 0 0)
abbrev SL {α : Type} (esz : Nat) (cells : α → List AV) (l : Arr α) : AV := SLA esz cells l
/-- From a body's walk to the contract. -/
theorem go {Kn : IM} {α : Type} {Po : α → Prop} {f : Nat} {fn : Func} {cd : Code} {nA nB : Nat} {args : List AV} {cs : List Ch} {k : α → AV} {C : α → List Ch} (hf : Tryz.prog.funcs[f]? = some fn)
    (h : DE Po fun r => WC (KX (P := Tryz.prog) (T := Tryz.tab) Kn nA fun _ => True) fn.ntmps cd ⟨enumA 0 args, cs, List.range nA⟩ (EndsL (KX (P := Tryz.prog) (T := Tryz.tab) Kn nA fun _ => True) fn.ntmps fn.results nA nB (k r) (C r)))
    (hb : fn.body = some cd := by rfl) (hn : (fn.name == "runtime.NumGoroutine") = false := by decide) (hargs : Nat.ble args.length fn.ntmps = true := by rfl) : FnD Tryz.prog Kn f nA args cs nB Po k C :=
  FnD.introL Tryz.tabOK Tryz.wide_ hf hb hn hargs h
/-- The same, walked at once. -/
theorem goA {Kn : IM} {α : Type} {Po : α → Prop} {f : Nat} {fn : Func} {cd : Code} {nA nB : Nat} {args : List AV} {cs : List Ch} {k : α → AV} {C : α → List Ch} (hf : Tryz.prog.funcs[f]? = some fn)
    (hb : fn.body = some cd := by rfl) (hn : (fn.name == "runtime.NumGoroutine") = false := by decide) (hargs : Nat.ble args.length fn.ntmps = true := by rfl)
    (h : DE Po fun r => WC (KX (P := Tryz.prog) (T := Tryz.tab) Kn nA fun _ => True) fn.ntmps cd ⟨enumA 0 args, cs, List.range nA⟩ (EndsL (KX (P := Tryz.prog) (T := Tryz.tab) Kn nA fun _ => True) fn.ntmps fn.results nA nB (k r) (C r)) := by repeat' (first | refine d1 ?_ | refine d0 | refine d2 ?_ ?_ <;> intro h)) : FnD Tryz.prog Kn f nA args cs nB Po k C :=
  go hf h hb hn hargs
end Go.Proofs

/- Declarations as cells. -/
set_option linter.unusedSimpArgs false
set_option linter.unusedVariables false
set_option maxRecDepth 100000
namespace Go.Proofs
open Go.E
/-- A type of the schema: kind, name, parts. -/
inductive Ty where
  | leaf (k : Int) (n : List UInt8)
  | mk (k : Int) (n : List UInt8) (len : Nat) (of : Nat → Ty)
def Ty.k : Ty → Int
  | .leaf k _ => k
  | .mk k _ _ _ => k
def Ty.n : Ty → List UInt8
  | .leaf _ n => n
  | .mk _ n _ _ => n
def Ty.len : Ty → Nat
  | .leaf _ _ => 0
  | .mk _ _ len _ => len
def Ty.kid : Ty → Nat → Ty
  | .leaf k n, _ => .leaf k n
  | .mk _ _ _ of, i => of i
def TyC : Ty → List AV
  | .leaf k n => [I64 k, .s n, .sl 0 3 (fun _ => [])]
  | .mk k n len of => [I64 k, .s n, .sl len 3 (fun i => TyC (of i))]
def Ty.sm : Ty → Prop
  | .leaf _ _ => True
  | .mk _ _ len of => len ≤ 2 ∧ ∀ i, (of i).sm
def Ty.row : Ty → Nat → List AV
  | .leaf _ _, _ => []
  | .mk _ _ _ of, i => TyC (of i)
def tyC (t : Ty) : List AV := [I64 t.k, .s t.n, .sl t.len 3 t.row]
theorem TyC_eq : TyC = tyC := funext fun t => by cases t <;> rfl
theorem row_eq {t : Ty} {i : Nat} (h : i < t.len) : t.row i = tyC (t.kid i) := by
  cases t with
  | leaf => cases h
  | mk k n len of => exact congrFun TyC_eq _
structure Fl where
  tag : Int
  name : List UInt8
  ty : Ty
def flC (f : Fl) : List AV := [I64 f.tag, .s f.name, I64 f.ty.k, .s f.ty.n,   .sl f.ty.len 3 f.ty.row]
structure Me where
  tag : Int
  name : List UInt8
  inn : List UInt8
  out : List UInt8
  ow : Bool
def meC (m : Me) : List AV := [I64 m.tag, .s m.name, .s m.inn, .s m.out, B m.ow]
structure De where
  kind : Int
  name : List UInt8
  fs : Arr Fl
  ms : Arr Me
  at_ : Int
def deC (d : De) : List AV := [I64 d.kind, .s d.name, SL 5 flC d.fs, SL 5 meC d.ms, I64 d.at_]
def iC (i : Int) : List AV := [I64 i]
noncomputable abbrev sK : Key Tryz.prog 9 (List UInt8) := strKey Tryz.underlying9
noncomputable abbrev iK : Key Tryz.prog 3 Int := intKey Tryz.underlying3
/-- A step at a map. -/
theorem dm {p q : Prop} (k : q) (h : q → p := by first | exact dMl sK I64 0 Tryz.tabOK | exact dMu sK I64 _ Tryz.tabOK | exact dMl iK I64 0 Tryz.tabOK | exact dMu iK I64 _ Tryz.tabOK) : p := h k
variable {Kn : IM}
abbrev Es : Type := List (List UInt8 × Int)
noncomputable def tabO (b m : Nat) (es : Es) (ks : Arr Int) : List Ch := [.box b [.mp m, SL 1 iC ks], .map m (mapT sK I64 es)]
end Go.Proofs

/- Tables of names. -/
set_option linter.unusedSimpArgs false
set_option linter.unusedVariables false
set_option maxRecDepth 100000
namespace Go.Proofs
open Go.E
variable {Kn : IM}
theorem updE_all {α β : Type} [DecidableEq α] {p : β → Prop} {k : α} {v : β} (hv : p v) : ∀ {es : List (α × β)}, (∀ q ∈ es, p q.2) → ∀ q ∈ updE k v es, p q.2
  | [], _, q, hq => by simp only [updE, List.mem_singleton] at hq; subst hq; exact hv
  | (j, y) :: r, h, q, hq => by
    simp only [updE] at hq
    split at hq
    · rcases List.mem_cons.1 hq with rfl | hq
      · exact hv
      · exact h q (by simp [hq])
    · rcases List.mem_cons.1 hq with rfl | hq
      · exact h (j, y) (by simp)
      · exact updE_all hv (fun q hq => h q (by simp [hq])) q hq
theorem nOf_d (l : Arr De) (hl : l.n ≤ 100) : FnD Tryz.prog Kn 325 0 [SL 5 deC l] [] 2 (fun r : Es × Arr Int => r.2.n = l.n ∧ ∀ q ∈ r.1, 0 ≤ q.2 ∧ q.2 < l.n) (fun _ => .bp 0 0) (fun r => tabO 0 1 r.1 r.2) := by
  refine go Tryz.func325 ?_
  repeat refine d1 ?_
  refine dMm sK I64 ?_
  repeat refine d1 ?_
  refine dW (fun q : Nat × Es × Arr Int => ⟨[(13, I64 q.1), (12, I64 l.n), (11, SL 5 deC l), (3, .bp 1000 0)], [.box 1000 [.mp 1001, .own 1002 1 0 q.2.2.n], .map 1001 (mapT sK I64 q.2.1), VEC 1002 1 iC q.2.2], [1000, 1001, 1002]⟩) (fun q => q.1 ≤ l.n ∧ q.2.2.n = q.1 ∧ ∀ x ∈ q.2.1, 0 ≤ x.2 ∧ x.2 < l.n) (fun q => l.n - q.1) (0, [], .nil 0) (by simp [Arr.nil])
    (Le.g [(1002, 1)] [(1000, 10), (1001, 8)] [10, 8, 1002]) ?_
  rintro ⟨i, es, ks⟩ ⟨h1, h2, h3⟩ J hJ
  dsimp only at h1 h2 h3 ⊢
  repeat' (first | refine d1 ?_ | refine dm ?_ | refine d2 ?_ ?_ <;> intro h)
  · exact hJ (i + 1, updE (l.f i).name i es, ks.push (l.f i).kind) _ ⟨by dsimp only; omega, by simp [Arr.push, h2], updE_all (p := fun x : Int => 0 ≤ x ∧ x < l.n) (v := (i : Int)) (by omega) h3⟩ (by dsimp only; omega) (Le.g [] [(1002, 45)] [1000, 1001, 45])
  · exact hJ (i + 1, es, ks.push (l.f i).kind) _ ⟨by dsimp only; omega, by simp [Arr.push, h2], h3⟩ (by dsimp only; omega) (Le.g [] [(1002, 45)] [1000, 1001, 45])
  · refine dFe 1002 ?_
    exact dEO (es, ks) [1000, 1001] (hp := ⟨by dsimp only; omega, h3⟩)
theorem lk_all {α β : Type} [DecidableEq α] {p : β → Prop} {k : α} {v : β} : ∀ {es : List (α × β)}, (∀ q ∈ es, p q.2) → lk k es = some v → p v
  | [], _, h => by cases h
  | (j, y) :: r, h, hk => by
    simp only [lk] at hk
    split at hk
    · cases hk; exact h (j, v) (by simp)
    · exact lk_all (fun q hq => h q (by simp [hq])) hk
theorem lk_get {α β : Type} [DecidableEq α] {p : β → Prop} {k : α} {d : β} {es : List (α × β)} (he : ∀ q ∈ es, p q.2) (h : (lk k es).isSome = true) : p ((lk k es).getD d) := by
  cases hl : lk k es with
  | none => rw [hl] at h; cases h
  | some v => exact lk_all he hl
theorem nFind_d (es : Es) (ks : Arr Int) (s : List UInt8) : FnD Tryz.prog Kn 326 2 [.bp 0 0, .s s] (tabO 0 1 es ks) 2 (fun r : Int × Bool => r = ((lk s es).getD 0, (lk s es).isSome)) (fun r => .tup [I64 r.1, B r.2]) (fun _ => tabO 0 1 es ks) := by
  refine go Tryz.func326 ?_
  repeat' (first | refine d1 ?_ | refine dm ?_ | refine d2 ?_ ?_ <;> intro h)
  exact dEO (_, _) [0, 1]
theorem nKind_d (es : Es) (ks : Arr Int) (s : List UInt8) (hk : ∀ q ∈ es, 0 ≤ q.2 ∧ q.2 < ks.n) : FnD Tryz.prog Kn 329 2 [.bp 0 0, .s s] (tabO 0 1 es ks) 2 (fun _ : Int => True) I64 (fun _ => tabO 0 1 es ks) := by
  refine go Tryz.func329 ?_
  repeat refine d1 ?_
  refine dK (nFind_d es ks s) [0, 1] [] ?_
  rintro _ rfl
  repeat refine d1 ?_
  refine d2 ?_ ?_ <;> intro h
  · repeat refine d1 ?_
    exact dEO _ [0, 1]
  · have := lk_get (p := fun x : Int => 0 ≤ x ∧ x < ks.n) (d := 0) (k := s) hk (by simpa using h)
    repeat refine d1 ?_
    exact dEO _ [0, 1]
end Go.Proofs
