/- The walk anew, part 1: abstract values, named objects, what is said of memory. Generic: no program in sight. -/
import Derived.WalkKit
import Derived.WalkLawsBesides
import Derived.WalkSpells
import Derived.Deep.Quiet
import Derived.Orders
import Derived.ArgAppend
set_option linter.unusedSimpArgs false
set_option linter.unusedVariables false
namespace Go.E
open Go.RowKit

/-- What is known of memory that nobody changes. -/
abbrev IM := Nat → Nat → Option Value
def IM.le (G H : IM) : Prop := ∀ b o v, G b o = some v → H b o = some v
theorem IM.le_refl (G : IM) : IM.le G G := fun _ _ _ h => h
theorem IM.le_trans {F G H : IM} (h : IM.le F G) (k : IM.le G H) : IM.le F H := fun b o v e => k b o v (h b o v e)

/-- Names of objects: block, base, room. -/
structure Env where
  G : IM
  μ : Nat → Option (Nat × Nat × Nat)
def Env.le (e f : Env) : Prop := IM.le e.G f.G ∧ ∀ k p, e.μ k = some p → f.μ k = some p
theorem Env.le_refl (e : Env) : Env.le e e := ⟨IM.le_refl _, fun _ _ h => h⟩
theorem Env.le_trans {e f g : Env} (h : Env.le e f) (k : Env.le f g) : Env.le e g := ⟨IM.le_trans h.1 k.1, fun q p h2 => k.2 q p (h.2 q p h2)⟩
abbrev Env.bare (G : IM) : Env := ⟨G, fun _ => none⟩

inductive AV where
  | v (x : Value)
  | s (l : List UInt8)
  | agg (cs : List AV)
  | tup (cs : List AV)
  | sl (n esz : Nat) (row : Nat → List AV)
  | cp (cells : List AV)
  | bp (k off : Nat)
  | own (k esz i n : Nat)
  | ep (k esz i j : Nat)
  | mp (k : Nat)
  | arr (k off n c : Nat)
  | clo (fn : Fn) (first caps : List AV)
  | ifc (t : Nat) (x : AV)

def S (l : List UInt8) : Value := .string ⟨l.toArray⟩

mutual
def Rep : AV → Env → Value → Prop
  | .v x, _, y => y = x
  | .s l, _, y => y = S l
  | .agg cs, e, y => ∃ ys, y = .agg ys ∧ RepL cs e ys.toList
  | .tup cs, e, y => ∃ ys, y = .tuple ys ∧ RepT cs e ys.toList
  | .sl n esz row, e, y => ∃ a c, y = .slice a n c ∧ n ≤ c ∧ (n = 0 ∨ ∃ b o, a = some ⟨b, o, none⟩ ∧ ∀ i, i < n → CellsAt (row i) e.G b (o + i * esz))
  | .cp cells, e, y => ∃ b o, y = .pointer (some ⟨b, o, none⟩) ∧ CellsAt cells e.G b o
  | .bp k o, e, y => ∃ b β κ, e.μ k = some (b, β, κ) ∧ y = .pointer (some ⟨b, β + o, none⟩)
  | .own k esz i n, e, y => ∃ b β κ a, e.μ k = some (b, β, κ) ∧ i + n ≤ κ ∧ y = .slice a n (κ - i) ∧ (i < κ → a = some ⟨b, β + i * esz, none⟩)
  | .ep k esz i j, e, y => ∃ b β κ, e.μ k = some (b, β, κ) ∧ y = .pointer (some ⟨b, β + i * esz + j, none⟩)
  | .mp k, e, y => ∃ b β κ, e.μ k = some (b, β, κ) ∧ y = .map (some b)
  | .arr k off n c, e, y => ∃ b β κ, e.μ k = some (b, β, κ) ∧ n ≤ c ∧ y = .slice (some ⟨b, β + off, none⟩) n c
  | .clo fn first caps, e, y => ∃ fs vs, y = .func fn fs vs ∧ RepT first e fs.toList ∧ RepT caps e vs.toList
  | .ifc t x, e, y => ∃ v, y = .iface t v ∧ Rep x e v
def RepL : List AV → Env → List Value → Prop
  | [], _, ys => ys = []
  | c :: cs, e, ys => ∃ z zs, ys = z :: zs ∧ Rep c e z ∧ z.oneCell' = true ∧ RepL cs e zs
def RepT : List AV → Env → List Value → Prop
  | [], _, ys => ys = []
  | c :: cs, e, ys => ∃ z zs, ys = z :: zs ∧ Rep c e z ∧ RepT cs e zs
def CellsAt : List AV → IM → Nat → Nat → Prop
  | [], _, _, _ => True
  | c :: cs, G, b, o => (∃ z, G b o = some z ∧ Rep c (.bare G) z ∧ z.oneCell' = true) ∧ CellsAt cs G b (o + 1)
end

mutual
theorem Rep.mono : ∀ (x : AV) {e f : Env} {y : Value}, Env.le e f → Rep x e y → Rep x f y
  | .v x, e, f, y, h, r => by simpa only [Rep] using r
  | .s l, e, f, y, h, r => by simpa only [Rep] using r
  | .agg cs, e, f, y, h, r => by
    simp only [Rep] at r ⊢
    obtain ⟨ys, q, r⟩ := r
    exact ⟨ys, q, RepL.mono cs h r⟩
  | .tup cs, e, f, y, h, r => by
    simp only [Rep] at r ⊢
    obtain ⟨ys, q, r⟩ := r
    exact ⟨ys, q, RepT.mono cs h r⟩
  | .sl n esz row, e, f, y, h, r => by
    simp only [Rep] at r ⊢
    obtain ⟨a, c, q, hc, r⟩ := r
    exact ⟨a, c, q, hc, r.imp id fun ⟨b, o, ea, r⟩ => ⟨b, o, ea, fun i hi => CellsAt.mono (row i) h.1 (r i hi)⟩⟩
  | .cp cells, e, f, y, h, r => by
    simp only [Rep] at r ⊢
    obtain ⟨b, o, q, r⟩ := r
    exact ⟨b, o, q, CellsAt.mono cells h.1 r⟩
  | .bp k o, e, f, y, h, r => by
    simp only [Rep] at r ⊢
    obtain ⟨b, β, κ, q, r⟩ := r
    exact ⟨b, β, κ, h.2 _ _ q, r⟩
  | .own k esz i n, e, f, y, h, r => by
    simp only [Rep] at r ⊢
    obtain ⟨b, β, κ, a, q, r⟩ := r
    exact ⟨b, β, κ, a, h.2 _ _ q, r⟩
  | .arr k off n c, e, f, y, h, r => by
    simp only [Rep] at r ⊢
    obtain ⟨b, β, κ, q, r⟩ := r
    exact ⟨b, β, κ, h.2 _ _ q, r⟩
  | .mp k, e, f, y, h, r => by
    simp only [Rep] at r ⊢
    obtain ⟨b, β, κ, q, r⟩ := r
    exact ⟨b, β, κ, h.2 _ _ q, r⟩
  | .ep k esz i j, e, f, y, h, r => by
    simp only [Rep] at r ⊢
    obtain ⟨b, β, κ, q, r⟩ := r
    exact ⟨b, β, κ, h.2 _ _ q, r⟩
  | .clo fn fi cs, e, f, y, h, r => by
    simp only [Rep] at r ⊢
    obtain ⟨fs, vs, q, r1, r2⟩ := r
    exact ⟨fs, vs, q, RepT.mono fi h r1, RepT.mono cs h r2⟩
  | .ifc t x, e, f, y, h, r => by
    simp only [Rep] at r ⊢
    obtain ⟨v, q, r⟩ := r
    exact ⟨v, q, Rep.mono x h r⟩
theorem RepL.mono : ∀ (cs : List AV) {e f : Env} {ys : List Value}, Env.le e f → RepL cs e ys → RepL cs f ys
  | [], e, f, ys, h, r => by simpa only [RepL] using r
  | c :: cs, e, f, ys, h, r => by
    simp only [RepL] at r ⊢
    obtain ⟨z, zs, q, r1, r2, r3⟩ := r
    exact ⟨z, zs, q, Rep.mono c h r1, r2, RepL.mono cs h r3⟩
theorem RepT.mono : ∀ (cs : List AV) {e f : Env} {ys : List Value}, Env.le e f → RepT cs e ys → RepT cs f ys
  | [], e, f, ys, h, r => by simpa only [RepT] using r
  | c :: cs, e, f, ys, h, r => by
    simp only [RepT] at r ⊢
    obtain ⟨z, zs, q, r1, r3⟩ := r
    exact ⟨z, zs, q, Rep.mono c h r1, RepT.mono cs h r3⟩
theorem CellsAt.mono : ∀ (cs : List AV) {G H : IM} {b o : Nat}, IM.le G H → CellsAt cs G b o → CellsAt cs H b o
  | [], G, H, b, o, h, r => by simp only [CellsAt]
  | c :: cs, G, H, b, o, h, r => by
    simp only [CellsAt] at r ⊢
    obtain ⟨⟨z, q, r1, r2⟩, r3⟩ := r
    exact ⟨⟨z, h _ _ _ q, Rep.mono c (e := .bare G) (f := .bare H) ⟨h, fun _ _ h => h⟩ r1, r2⟩, CellsAt.mono cs h r3⟩
end
theorem Rep.ofBare {x : AV} {e : Env} {y : Value} (h : Rep x (.bare e.G) y) : Rep x e y := Rep.mono x (e := .bare e.G) (f := e) ⟨IM.le_refl _, fun _ _ h => by cases h⟩ h

mutual
/-- Does the value name no object? -/
def AV.nl : AV → Bool
  | .bp _ _ => false
  | .own _ _ _ _ => false
  | .ep _ _ _ _ => false
  | .mp _ => false
  | .arr _ _ _ _ => false
  | .agg cs => nlL cs
  | .tup cs => nlL cs
  | .clo _ a b => nlL a && nlL b
  | .ifc _ x => x.nl
  | _ => true
def nlL : List AV → Bool
  | [] => true
  | c :: cs => c.nl && nlL cs
end
mutual
theorem Rep.nl : ∀ (x : AV) {e : Env} {y : Value}, x.nl = true → Rep x e y → Rep x (.bare e.G) y
  | .v x, e, y, _, r => by simpa only [Rep] using r
  | .s l, e, y, _, r => by simpa only [Rep] using r
  | .sl n esz row, e, y, _, r => by simpa only [Rep] using r
  | .cp cells, e, y, _, r => by simpa only [Rep] using r
  | .agg cs, e, y, h, r => by
    simp only [Rep] at r ⊢
    obtain ⟨ys, q, r⟩ := r
    exact ⟨ys, q, RepL.nl cs (by simpa only [AV.nl] using h) r⟩
  | .tup cs, e, y, h, r => by
    simp only [Rep] at r ⊢
    obtain ⟨ys, q, r⟩ := r
    exact ⟨ys, q, RepT.nl cs (by simpa only [AV.nl] using h) r⟩
  | .clo fn fi cs, e, y, h, r => by
    simp only [AV.nl, Bool.and_eq_true] at h
    simp only [Rep] at r ⊢
    obtain ⟨fs, vs, q, r1, r2⟩ := r
    exact ⟨fs, vs, q, RepT.nl fi h.1 r1, RepT.nl cs h.2 r2⟩
  | .ifc t x, e, y, h, r => by
    simp only [Rep] at r ⊢
    obtain ⟨v, q, r⟩ := r
    exact ⟨v, q, Rep.nl x (by simpa only [AV.nl] using h) r⟩
  | .bp _ _, _, _, h, _ => by simp [AV.nl] at h
  | .own _ _ _ _, _, _, h, _ => by simp [AV.nl] at h
  | .ep _ _ _ _, _, _, h, _ => by simp [AV.nl] at h
  | .mp _, _, _, h, _ => by simp [AV.nl] at h
  | .arr _ _ _ _, _, _, h, _ => by simp [AV.nl] at h
theorem RepL.nl : ∀ (cs : List AV) {e : Env} {ys : List Value}, nlL cs = true → RepL cs e ys → RepL cs (.bare e.G) ys
  | [], e, ys, _, r => by simpa only [RepL] using r
  | c :: cs, e, ys, h, r => by
    simp only [nlL, Bool.and_eq_true] at h
    simp only [RepL] at r ⊢
    obtain ⟨z, zs, q, r1, r2, r3⟩ := r
    exact ⟨z, zs, q, Rep.nl c h.1 r1, r2, RepL.nl cs h.2 r3⟩
theorem RepT.nl : ∀ (cs : List AV) {e : Env} {ys : List Value}, nlL cs = true → RepT cs e ys → RepT cs (.bare e.G) ys
  | [], e, ys, _, r => by simpa only [RepT] using r
  | c :: cs, e, ys, h, r => by
    simp only [nlL, Bool.and_eq_true] at h
    simp only [RepT] at r ⊢
    obtain ⟨z, zs, q, r1, r3⟩ := r
    exact ⟨z, zs, q, Rep.nl c h.1 r1, RepT.nl cs h.2 r3⟩
end

/-- What stands at a place of memory, and of which shape its block is. -/
inductive At where
  | no
  | cell (v : Option Value) (n : Nat) (T : TypeId) (fz : Nat × Nat)
  | ob (o : Obj)
def atw (w : World) (b o : Nat) : At :=
  match w.heap[b]? with
  | none => .no
  | some (.cells c T fz) => .cell c[o]? c.size T fz
  | some x => .ob x
theorem atw_of {w w' : World} {b : Nat} (h : w'.heap[b]? = w.heap[b]?) (o : Nat) : atw w' b o = atw w b o := by unfold atw; rw [h]
/-- A cell that is there, and that may be written. -/
def CellW (w : World) (b o : Nat) (z : Value) : Prop := ∃ n T, atw w b o = .cell (some z) n T (0, 0)
theorem CellW.heap {w : World} {b o : Nat} {z : Value} (h : CellW w b o z) : ∃ arr T, w.heap[b]? = some (.cells arr T (0, 0)) ∧ arr[o]? = some z := by
  obtain ⟨n, T, h⟩ := h
  unfold atw at h
  split at h
  · cases h
  · rename_i c T' fz hb
    simp only [At.cell.injEq] at h
    obtain ⟨h1, _, _, rfl⟩ := h
    exact ⟨c, T', hb, h1⟩
  · cases h
theorem CellW.cell {w : World} {b o : Nat} {z : Value} (h : CellW w b o z) : w.cell? ⟨b, o, none⟩ = some z := by
  obtain ⟨arr, T, h1, h2⟩ := h.heap
  simp [World.cell?, h1, h2]
theorem CellW.keep {w w' : World} {b o : Nat} {z : Value} (h : CellW w b o z) (k : atw w' b o = atw w b o) : CellW w' b o z := by
  unfold CellW at *; rw [k]; exact h
theorem CellW.lt {w : World} {b o : Nat} {z : Value} (h : CellW w b o z) : b < w.heap.size := by
  obtain ⟨arr, T, h1, _⟩ := h.heap
  exact (Array.getElem?_eq_some_iff.1 h1).1

abbrev Foot := Nat → Nat → Prop
/-- What may be said of an object at an address, with the places that it owns. -/
structure SemP where
  ok : Nat × Nat × Nat → IM → World → Foot → Prop
  keep : ∀ {p : Nat × Nat × Nat} {G H : IM} {w w' : World} {F : Foot}, IM.le G H → (∀ b o, F b o → atw w' b o = atw w b o) → ok p G w F → ok p H w' F

inductive Ch where
  | box (k : Nat) (cells : List AV)
  | vec (k esz n : Nat) (row : Nat → List AV)
  | map (k : Nat) (es : List (Value × AV))
  | obj (k : Nat) (o : Obj)
  | ex (k : Nat) (A : SemP)

def Ch.id : Ch → Nat
  | .box k _ => k
  | .vec k _ _ _ => k
  | .map k _ => k
  | .obj k _ => k
  | .ex k _ => k

/-- The cells from there on. -/
def CellsW (e : Env) (w : World) (b β : Nat) (cells : List AV) : Prop := ∀ (j : Nat) c, cells[j]? = some c → ∃ z, CellW w b (β + j) z ∧ Rep c e z ∧ z.oneCell' = true

def MapOK (e : Env) (w : World) (b : Nat) (es : List (Value × AV)) : Prop :=
  ∃ arr cl, w.heap[b]? = some (.map arr cl) ∧ (arr.toList.map (·.born)).Nodup ∧ (∀ x ∈ arr.toList, x.born < cl) ∧ arr.toList.map (·.key) = es.map (·.1) ∧ RepT (es.map (·.2)) (.bare e.G) (arr.toList.map (·.val))

def ChOK (e : Env) (w : World) : Ch → Foot → Prop
  | .box k cells, F => ∃ b β κ, e.μ k = some (b, β, κ) ∧ (F = fun x o => x = b ∧ β ≤ o ∧ o < β + cells.length) ∧ CellsW e w b β cells
  | .vec k esz n row, F => ∃ b β κ, e.μ k = some (b, β, κ) ∧ n ≤ κ ∧ κ ≤ maxLen ∧ (F = fun x o => x = b ∧ β ≤ o ∧ o < β + κ * esz) ∧ (∀ o, β ≤ o → o < β + κ * esz → ∃ z, CellW w b o z) ∧
      ∀ i, i < n → (row i).length = esz ∧ CellsW (.bare e.G) w b (β + i * esz) (row i)
  | .map k es, F => ∃ b β κ, e.μ k = some (b, β, κ) ∧ (F = fun x _ => x = b) ∧ MapOK e w b es
  | .obj k ob, F => ∃ b β κ, e.μ k = some (b, β, κ) ∧ (F = fun x _ => x = b) ∧ w.heap[b]? = some ob ∧ ∀ c T fz, ob ≠ .cells c T fz
  | .ex k A, F => ∃ p, e.μ k = some p ∧ A.ok p e.G w F

theorem CellsW.keep {e f : Env} {w w' : World} {b β : Nat} {cells : List AV} (he : Env.le e f) (hk : ∀ o, β ≤ o → o < β + cells.length → atw w' b o = atw w b o) (h : CellsW e w b β cells) : CellsW f w' b β cells := by
  intro j c hc
  have hj := (List.getElem?_eq_some_iff.1 hc).1
  obtain ⟨z, h1, h2, h3⟩ := h j c hc
  exact ⟨z, h1.keep (hk _ (by omega) (by omega)), Rep.mono c he h2, h3⟩

theorem heap_ob {w w' : World} {b : Nat} {x : Obj} (hx : ∀ c T fz, x ≠ .cells c T fz) (h : w.heap[b]? = some x) (k : ∀ o, atw w' b o = atw w b o) : w'.heap[b]? = some x := by
  have := k 0
  unfold atw at this
  rw [h] at this
  cases x with
  | cells c T fz => exact absurd rfl (hx c T fz)
  | _ =>
    cases hy : w'.heap[b]? with
    | none => rw [hy] at this; cases this
    | some y => rw [hy] at this; cases y <;> simp_all

/-- An object is as it was, if its places are. -/
theorem ChOK.keep {e f : Env} {w w' : World} (he : Env.le e f) (c : Ch) {F : Foot} (hF : ∀ b o, F b o → atw w' b o = atw w b o) (h : ChOK e w c F) : ChOK f w' c F := by
  cases c with
  | box k cells =>
    obtain ⟨b, β, κ, h1, rfl, h2⟩ := h
    exact ⟨b, β, κ, he.2 _ _ h1, rfl, h2.keep he (fun o q1 q2 => hF b o ⟨rfl, q1, q2⟩)⟩
  | vec k esz n row =>
    obtain ⟨b, β, κ, h1, h2, h2', rfl, h3, h4⟩ := h
    refine ⟨b, β, κ, he.2 _ _ h1, h2, h2', rfl, fun o q1 q2 => (h3 o q1 q2).imp fun z hz => hz.keep (hF b o ⟨rfl, q1, q2⟩), fun i hi => ⟨(h4 i hi).1, (h4 i hi).2.keep (e := .bare e.G) (f := .bare f.G) ⟨he.1, fun _ _ h => h⟩ (fun o q1 q2 => hF b o ⟨rfl, ?_, ?_⟩)⟩⟩
    · omega
    · have := (h4 i hi).1
      have : (i + 1) * esz ≤ κ * esz := Nat.mul_le_mul_right _ (by omega)
      rw [Nat.add_mul] at this; omega
  | map k es =>
    obtain ⟨b, β, κ, h1, rfl, arr, cl, h2, h3, h4, h5, h7⟩ := h
    exact ⟨b, β, κ, he.2 _ _ h1, rfl, arr, cl, heap_ob (by simp) h2 (fun o => hF b o rfl), h3, h4, h5, RepT.mono _ (e := .bare e.G) (f := .bare f.G) ⟨he.1, fun _ _ h => h⟩ h7⟩
  | obj k o =>
    obtain ⟨b, β, κ, h1, rfl, h2, h3⟩ := h
    exact ⟨b, β, κ, he.2 _ _ h1, rfl, heap_ob h3 h2 (fun o => hF b o rfl), h3⟩
  | ex k A =>
    obtain ⟨p, h1, h2⟩ := h
    exact ⟨p, he.2 _ _ h1, A.keep he.1 hF h2⟩
end Go.E

/- The walk anew: the types' table, and how it is checked. -/
set_option linter.unusedSimpArgs false
set_option linter.unusedVariables false
namespace Go.E
open Go.RowKit

/-! ### The types' table -/
inductive TD where
  | other
  | bool
  | int (k : IntKind)
  | str
  | struct (fs : List (Nat × Nat))
  | arr (len elem : Nat)
  | slice (elem : Nat)
  | ptr
  | map (k v : Nat)
  | fn
  | ifc

structure TI where
  size : Nat
  bytes : Nat
  agg : Bool
  zero : List Value
  d : TD

abbrev Tab := Nat → Option TI

def TDOK (P : Program) : TD → TypeDesc → Prop
  | .other, _ => True
  | .bool, d => d = .bool
  | .int k, d => d = .int k
  | .str, d => d = .string
  | .struct fs, d => ∃ fields, d = .struct fields ∧ fields.toList.map (fun f => (f.offset, f.type)) = fs
  | .arr len elem, d => d = .array len elem
  | .slice elem, d => d = .slice elem
  | .ptr, d => ∃ el, d = .pointer el
  | .map k v, d => d = .map k v
  | .fn, d => ∃ a b v, d = .func a b v
  | .ifc, d => ∃ m, d = .interface m

def isAggV : Value → Bool
  | .agg _ => true
  | _ => false
structure TIOK (P : Program) (t : Nat) (i : TI) : Prop where
  info : ∃ pi z, P.info? t = some pi ∧ pi.size = i.size ∧ pi.bytes = i.bytes ∧ pi.zero = some z ∧ z.cells.toList = i.zero ∧ i.zero.all (·.oneCell') = true ∧ i.zero.length = i.size
  desc : ∃ d, P.underlying t = some d ∧ i.agg = (match d with | .struct _ | .array _ _ => true | _ => false) ∧ TDOK P i.d d
  zag : ∀ pi z, P.info? t = some pi → pi.zero = some z → isAggV z = i.agg

def TabOK (P : Program) (T : Tab) : Prop := ∀ t i, T t = some i → TIOK P t i


def kindEq : IntKind → IntKind → Bool
  | .i8, .i8 | .i16, .i16 | .i32, .i32 | .i64, .i64 | .u8, .u8 | .u16, .u16 | .u32, .u32 | .u64, .u64 => true
  | _, _ => false
theorem kindEq_eq {j k : IntKind} (h : kindEq j k = true) : j = k := by cases j <;> cases k <;> simp [kindEq] at h <;> rfl

def eqv : Value → Value → Bool
  | .bool a, .bool b => a == b
  | .int j a, .int k b => kindEq j k && a == b
  | .string a, .string b => a.data.toList == b.data.toList
  | .pointer none, .pointer none => true
  | .slice none 0 0, .slice none 0 0 => true
  | .map none, .map none => true
  | .nilFunc, .nilFunc => true
  | .nilIface, .nilIface => true
  | _, _ => false
theorem eqv_eq {x y : Value} (h : eqv x y = true) : x = y := by
  unfold eqv at h
  split at h
  · simpa using h
  · simp only [Bool.and_eq_true, beq_iff_eq] at h
    rw [kindEq_eq h.1, h.2]
  · rename_i a b
    simp only [beq_iff_eq] at h
    congr 1
    cases a; cases b
    congr 1
    exact Array.ext' h
  all_goals first | rfl | cases h

def eqvL : List Value → List Value → Bool
  | [], [] => true
  | x :: xs, y :: ys => eqv x y && eqvL xs ys
  | _, _ => false
theorem eqvL_eq : ∀ {xs ys : List Value}, eqvL xs ys = true → xs = ys
  | [], [], _ => rfl
  | x :: xs, y :: ys, h => by
    simp only [eqvL, Bool.and_eq_true] at h
    rw [eqv_eq h.1, eqvL_eq h.2]
  | [], _ :: _, h => by simp [eqvL] at h
  | _ :: _, [], h => by simp [eqvL] at h

def pairsB : List (Nat × Nat) → List (Nat × Nat) → Bool
  | [], [] => true
  | (a, b) :: r, (c, d) :: s => Nat.beq a c && Nat.beq b d && pairsB r s
  | _, _ => false
theorem pairsB_eq : ∀ {xs ys : List (Nat × Nat)}, pairsB xs ys = true → xs = ys
  | [], [], _ => rfl
  | (a, b) :: xs, (c, d) :: ys, h => by
    simp only [pairsB, Bool.and_eq_true] at h
    rw [Nat.eq_of_beq_eq_true h.1.1, Nat.eq_of_beq_eq_true h.1.2, pairsB_eq h.2]
  | [], _ :: _, h => by simp [pairsB] at h
  | _ :: _, [], h => by simp [pairsB] at h

def descB (P : Program) : TD → TypeDesc → Bool
  | .other, _ => true
  | .bool, .bool => true
  | .int k, .int j => kindEq k j
  | .str, .string => true
  | .struct fs, .struct fields => pairsB (fields.toList.map (fun f => (f.offset, f.type))) fs
  | .arr n e, .array m d => Nat.beq n m && Nat.beq e d
  | .slice e, .slice d => Nat.beq e d
  | .ptr, .pointer _ => true
  | .map a b, .map c d => Nat.beq a c && Nat.beq b d
  | .fn, .func _ _ _ => true
  | .ifc, .interface _ => true
  | _, _ => false
theorem descB_ok {P : Program} {x : TD} {d : TypeDesc} (h : descB P x d = true) : TDOK P x d := by
  unfold descB at h
  split at h <;> (try simp only [Bool.and_eq_true] at h) <;> (try simp only [TDOK])
  all_goals first
    | trivial
    | (rw [kindEq_eq h])
    | (rw [Nat.eq_of_beq_eq_true h.1, Nat.eq_of_beq_eq_true h.2])
    | (rw [Nat.eq_of_beq_eq_true h])
    | exact ⟨_, rfl, pairsB_eq h⟩
    | exact ⟨_, rfl⟩
    | exact ⟨_, _, _, rfl⟩
    | cases h

def checkTI (P : Program) (t : Nat) (i : TI) : Bool :=
  match P.info? t, P.underlying t with
  | some pi, some d => Nat.beq pi.size i.size && Nat.beq pi.bytes i.bytes &&
      (match pi.zero with
        | some z => (isAggV z == i.agg) && eqvL z.cells.toList i.zero && i.zero.all (·.oneCell') && Nat.beq i.zero.length i.size
        | none => false) &&
      (i.agg == (match d with | .struct _ | .array _ _ => true | _ => false)) && descB P i.d d
  | _, _ => false

theorem checkTI_ok {P : Program} {t : Nat} {i : TI} (h : checkTI P t i = true) : TIOK P t i := by
  unfold checkTI at h
  split at h
  · rename_i pi d h1 h2
    simp only [Bool.and_eq_true] at h
    obtain ⟨⟨⟨⟨k1, k2⟩, k3⟩, k4⟩, k5⟩ := h
    split at k3
    · rename_i z hz
      simp only [Bool.and_eq_true] at k3
      exact ⟨⟨pi, z, h1, Nat.eq_of_beq_eq_true k1, Nat.eq_of_beq_eq_true k2, hz, eqvL_eq k3.1.1.2, k3.1.2, Nat.eq_of_beq_eq_true k3.2⟩, ⟨d, h2, eq_of_beq k4, descB_ok k5⟩, fun pi' z' e1 e2 => by rw [h1] at e1; cases e1; rw [hz] at e2; cases e2; exact eq_of_beq k3.1.1.1⟩
    · cases k3
  · cases h

def mkTab (N : Nat) (f : Tab) : Tab := fun t => match Nat.blt t N with
  | true => f t
  | false => none

def checkTab (P : Program) (f : Tab) : List Nat → Bool
  | [] => true
  | t :: r => (match f t with
    | none => true
    | some i => checkTI P t i) && checkTab P f r

theorem checkTab_mem {P : Program} {f : Tab} : ∀ {l : List Nat}, checkTab P f l = true → ∀ t ∈ l, ∀ i, f t = some i → checkTI P t i = true
  | [], _, t, h, _, _ => by simp at h
  | u :: l, hc, t, h, i, hi => by
    simp only [checkTab, Bool.and_eq_true] at hc
    rcases List.mem_cons.1 h with rfl | h
    · have := hc.1
      rw [hi] at this
      exact this
    · exact checkTab_mem hc.2 t h i hi

theorem tabOK {P : Program} {N : Nat} {f : Tab} (h : checkTab P f (List.range N) = true) : TabOK P (mkTab N f) := by
  intro t i hi
  unfold mkTab at hi
  split at hi
  · rename_i hb
    have hlt : t < N := by have := hb; simp [Nat.blt] at this; omega
    exact checkTI_ok (checkTab_mem h t (List.mem_range.2 hlt) i hi)
  · cases hi
end Go.E

/- The walk anew, part 2: owned memory as a whole, and how it is turned. -/
set_option linter.unusedSimpArgs false
set_option linter.unusedVariables false
namespace Go.E
open Go.RowKit

/-- Objects that lie apart, with all the places that they own. -/
def SepOK (e : Env) (w : World) : List Ch → Foot → Prop
  | [], F => ∀ b o, ¬ F b o
  | c :: cs, F => ∃ F1 F2, ChOK e w c F1 ∧ SepOK e w cs F2 ∧ (∀ b o, F1 b o → F2 b o → False) ∧ ∀ b o, F b o ↔ F1 b o ∨ F2 b o

theorem SepOK.iff {e : Env} {w : World} : ∀ {cs : List Ch} {F F' : Foot}, SepOK e w cs F → (∀ b o, F' b o ↔ F b o) → SepOK e w cs F'
  | [], F, F', h, k => fun b o hf => h b o ((k b o).1 hf)
  | c :: cs, F, F', ⟨F1, F2, h1, h2, h3, h4⟩, k => ⟨F1, F2, h1, h2, h3, fun b o => (k b o).trans (h4 b o)⟩

theorem SepOK.keep {e f : Env} {w w' : World} (he : Env.le e f) : ∀ {cs : List Ch} {F : Foot}, (∀ b o, F b o → atw w' b o = atw w b o) → SepOK e w cs F → SepOK f w' cs F
  | [], F, _, h => h
  | c :: cs, F, hF, ⟨F1, F2, h1, h2, h3, h4⟩ => ⟨F1, F2, h1.keep he c (fun b o q => hF b o ((h4 b o).2 (.inl q))), h2.keep he (fun b o q => hF b o ((h4 b o).2 (.inr q))), h3, h4⟩

theorem SepOK.app {e : Env} {w : World} : ∀ {cs ds : List Ch} {F : Foot}, SepOK e w (cs ++ ds) F ↔ ∃ F1 F2, SepOK e w cs F1 ∧ SepOK e w ds F2 ∧ (∀ b o, F1 b o → F2 b o → False) ∧ ∀ b o, F b o ↔ F1 b o ∨ F2 b o
  | [], ds, F => by
    constructor
    · intro h; exact ⟨fun _ _ => False, F, fun _ _ h => h, h, fun _ _ h _ => h, fun b o => by simp⟩
    · rintro ⟨F1, F2, h1, h2, _, h4⟩
      exact h2.iff fun b o => by rw [h4]; have := h1 b o; simp [this]
  | c :: cs, ds, F => by
    simp only [List.cons_append, SepOK]
    constructor
    · rintro ⟨F1, F2, h1, h2, h3, h4⟩
      obtain ⟨G1, G2, k1, k2, k3, k4⟩ := SepOK.app.1 h2
      refine ⟨fun b o => F1 b o ∨ G1 b o, G2, ⟨F1, G1, h1, k1, fun b o p q => h3 b o p ((k4 b o).2 (.inl q)), fun _ _ => .rfl⟩, k2, ?_, fun b o => by rw [h4, k4, or_assoc]⟩
      rintro b o (p | p) q
      · exact h3 b o p ((k4 b o).2 (.inr q))
      · exact k3 b o p q
    · rintro ⟨F1, F2, ⟨G1, G2, k1, k2, k3, k4⟩, h2, h3, h4⟩
      refine ⟨G1, fun b o => G2 b o ∨ F2 b o, k1, SepOK.app.2 ⟨G2, F2, k2, h2, fun b o p q => h3 b o ((k4 b o).2 (.inr p)) q, fun _ _ => .rfl⟩, ?_, fun b o => by rw [h4, k4, or_assoc]⟩
      rintro b o p (q | q)
      · exact k3 b o p q
      · exact h3 b o ((k4 b o).2 (.inl p)) q

theorem SepOK.perm {e : Env} {w : World} {cs ds : List Ch} (hp : cs.Perm ds) : ∀ {F : Foot}, SepOK e w cs F → SepOK e w ds F := by
  induction hp with
  | nil => exact fun h => h
  | cons c _ ih => rintro F ⟨F1, F2, h1, h2, h3, h4⟩; exact ⟨F1, F2, h1, ih h2, h3, h4⟩
  | swap x y l =>
    rintro F ⟨F1, F2, h1, ⟨G1, G2, k1, k2, k3, k4⟩, h3, h4⟩
    refine ⟨G1, fun b o => F1 b o ∨ G2 b o, k1, ⟨F1, G2, h1, k2, fun b o p q => h3 b o p ((k4 b o).2 (.inr q)), fun _ _ => .rfl⟩, ?_, fun b o => ?_⟩
    · rintro b o p (q | q)
      · exact h3 b o q ((k4 b o).2 (.inl p))
      · exact k3 b o p q
    · rw [h4, k4]; constructor <;> rintro (h | h | h) <;> simp [h]
  | trans _ _ ih1 ih2 => exact fun h => ih2 (ih1 h)

structure Ctx (P : Program) (T : Tab) where
  ok : TabOK P T
  wide : P.follows .mixedOrders = true
  w0 : World
  e0 : Env
  F0 : Foot
  pan : List PanicEntry → Act → World → Prop
  dfr : List Deferred

structure MemOK {P : Program} {T : Tab} (X : Ctx P T) (e : Env) (fr : Nat → Prop) (c : List Ch) (w : World) : Prop where
  heap : ∃ F, SepOK e w c F ∧ ∀ b o, F b o → b < w.heap.size ∧ (X.w0.heap.size ≤ b ∨ X.F0 b o) ∧ e.G b o = none
  im : ∀ b o v, e.G b o = some v → w.cell? ⟨b, o, none⟩ = some v
  le : Env.le X.e0 e
  new : ∀ b o v, e.G b o = some v → X.e0.G b o = some v ∨ X.w0.heap.size ≤ b ∨ X.F0 b o
  os : w.os = X.w0.os
  tape : w.tape = X.w0.tape
  output : w.output = X.w0.output
  sz : X.w0.heap.size ≤ w.heap.size
  keep : ∀ b o, b < X.w0.heap.size → ¬ X.F0 b o → atw w b o = atw X.w0 b o
  free : ∀ k, fr k → e.μ k = none

section
variable {P : Program} {T : Tab} {X : Ctx P T} {e : Env} {fr : Nat → Prop} {c : List Ch} {w : World}

theorem MemOK.perm {d : List Ch} (m : MemOK X e fr c w) (hp : c.Perm d) : MemOK X e fr d w :=
  { m with heap := m.heap.imp fun _ h => ⟨h.1.perm hp, h.2⟩ }
theorem MemOK.drop {u : List Ch} (m : MemOK X e fr (u ++ c) w) : MemOK X e fr c w :=
  { m with heap := (by
      obtain ⟨F, h1, h2⟩ := m.heap
      obtain ⟨F1, F2, k1, k2, k3, k4⟩ := SepOK.app.1 h1
      exact ⟨F2, k2, fun b o h => h2 b o ((k4 b o).2 (.inr h))⟩) }
theorem MemOK.lt (m : MemOK X e fr c w) {b o : Nat} {v : Value} (h : e.G b o = some v) : b < w.heap.size := Go.block_lt_of_cell (m.im b o v h)
theorem MemOK.fr_le {fr' : Nat → Prop} (m : MemOK X e fr c w) (h : ∀ k, fr' k → fr k) : MemOK X e fr' c w := { m with free := fun k hk => m.free k (h k hk) }

/-- Some objects are turned; what is apart stays. -/
theorem MemOK.updF {us vs : List Ch} (m : MemOK X e fr (us ++ c) w) {e' : Env} {fr' : Nat → Prop} {w' : World} (he : Env.le e e') (hn : ∀ k, fr' k → e'.μ k = none)
    (hos : w'.os = w.os) (htp : w'.tape = w.tape) (hout : w'.output = w.output) (hsz : w.heap.size ≤ w'.heap.size) {Fu Fc Fv : Foot} (k2 : SepOK e w c Fc) (k3 : ∀ b o, Fu b o → Fc b o → False)
    (h2 : ∀ b o, Fu b o ∨ Fc b o → b < w.heap.size ∧ (X.w0.heap.size ≤ b ∨ X.F0 b o) ∧ e.G b o = none) (g1 : ∀ b o, b < w.heap.size → ¬ Fu b o → atw w' b o = atw w b o) (g2 : SepOK e' w' vs Fv)
    (g3 : ∀ b o, Fv b o → (Fu b o ∨ w.heap.size ≤ b) ∧ b < w'.heap.size ∧ e'.G b o = none) (g4 : ∀ b o v, e'.G b o = some v → e.G b o = some v ∨ ((Fu b o ∨ w.heap.size ≤ b) ∧ w'.cell? ⟨b, o, none⟩ = some v)) : MemOK X e' fr' (vs ++ c) w' := by
  have hc : ∀ b o, Fc b o → atw w' b o = atw w b o := fun b o hb => g1 b o (h2 b o (.inr hb)).1 (fun hu => k3 b o hu hb)
  have hnew : ∀ b o, Fu b o ∨ w.heap.size ≤ b → X.w0.heap.size ≤ b ∨ X.F0 b o := by
    rintro b o (hu | hu)
    · exact (h2 b o (.inl hu)).2.1
    · exact .inl (Nat.le_trans m.sz hu)
  refine { heap := ⟨fun b o => Fv b o ∨ Fc b o, SepOK.app.2 ⟨Fv, Fc, g2, k2.keep he hc, ?_, fun _ _ => .rfl⟩, ?_⟩, im := ?_, le := Env.le_trans m.le he, new := ?_, os := hos.trans m.os, tape := htp.trans m.tape, output := hout.trans m.output, sz := Nat.le_trans m.sz hsz, keep := ?_, free := hn }
  · intro b o hv hf
    rcases (g3 b o hv).1 with h | h
    · exact k3 b o h hf
    · have := (h2 b o (.inr hf)).1; omega
  · rintro b o (hv | hf)
    · obtain ⟨q1, q2, q3⟩ := g3 b o hv
      exact ⟨q2, hnew b o q1, q3⟩
    · obtain ⟨q1, q2, q3⟩ := h2 b o (.inr hf)
      refine ⟨Nat.lt_of_lt_of_le q1 hsz, q2, ?_⟩
      cases hg : e'.G b o with
      | none => rfl
      | some v =>
        rcases g4 b o v hg with h | ⟨h | h, _⟩
        · rw [q3] at h; cases h
        · exact absurd hf (fun hf => k3 b o h hf)
        · omega
  · intro b o v hv
    rcases g4 b o v hv with h | h
    · have h0 := m.im b o v h
      have hlt := m.lt h
      have hat : atw w' b o = atw w b o := by
        refine g1 b o hlt (fun hu => ?_)
        rw [(h2 b o (.inl hu)).2.2] at h; cases h
      simp only [World.cell?] at h0 ⊢
      unfold atw at hat
      cases hw : w.heap[b]? with
      | none => rw [hw] at h0; cases h0
      | some x =>
        rw [hw] at h0 hat
        cases x with
        | cells arr T fz =>
          simp only at hat h0 ⊢
          cases hw' : w'.heap[b]? with
          | none => rw [hw'] at hat; cases hat
          | some y =>
            rw [hw'] at hat
            cases y with
            | cells arr' T' fz' => simp only [At.cell.injEq] at hat; simp only [hat.1]; exact h0
            | _ => cases hat
        | _ => cases h0
    · exact h.2
  · intro b o v hv
    rcases g4 b o v hv with h | h
    · exact m.new b o v h
    · exact .inr (hnew b o h.1)
  · intro b o hb hf
    rw [g1 b o (Nat.lt_of_lt_of_le hb m.sz) (fun hu => ?_)]
    · exact m.keep b o hb hf
    · rcases (h2 b o (.inl hu)).2.1 with h | h
      · omega
      · exact hf h

theorem MemOK.upd {us vs : List Ch} (m : MemOK X e fr (us ++ c) w) {e' : Env} {fr' : Nat → Prop} {w' : World} (he : Env.le e e') (hn : ∀ k, fr' k → e'.μ k = none)
    (hos : w'.os = w.os) (htp : w'.tape = w.tape) (hout : w'.output = w.output) (hsz : w.heap.size ≤ w'.heap.size)
    (h : ∀ Fu, SepOK e w us Fu → (∀ b o, Fu b o → b < w.heap.size ∧ e.G b o = none) → (∀ b o, b < w.heap.size → ¬ Fu b o → atw w' b o = atw w b o) ∧
      ∃ Fv, SepOK e' w' vs Fv ∧ (∀ b o, Fv b o → (Fu b o ∨ w.heap.size ≤ b) ∧ b < w'.heap.size ∧ e'.G b o = none) ∧
        ∀ b o v, e'.G b o = some v → e.G b o = some v ∨ ((Fu b o ∨ w.heap.size ≤ b) ∧ w'.cell? ⟨b, o, none⟩ = some v)) : MemOK X e' fr' (vs ++ c) w' := by
  obtain ⟨F, h1, h2⟩ := m.heap
  obtain ⟨Fu, Fc, k1, k2, k3, k4⟩ := SepOK.app.1 h1
  obtain ⟨g1, Fv, g2, g3, g4⟩ := h Fu k1 (fun b o hb => ⟨(h2 b o ((k4 b o).2 (.inl hb))).1, (h2 b o ((k4 b o).2 (.inl hb))).2.2⟩)
  exact m.updF he hn hos htp hout hsz k2 k3 (fun b o hb => h2 b o ((k4 b o).2 hb)) g1 g2 g3 g4

/-- The name of an object is bound; nothing is turned. -/
theorem SepOK.nil (e : Env) (w : World) : SepOK e w [] (fun _ _ => False) := fun _ _ h => h
theorem SepOK.one {c : Ch} {F : Foot} : SepOK e w [c] F ↔ ∃ F1, ChOK e w c F1 ∧ ∀ b o, F b o ↔ F1 b o := by
  constructor
  · rintro ⟨F1, F2, h1, h2, _, h4⟩
    exact ⟨F1, h1, fun b o => by rw [h4]; have := h2 b o; simp [this]⟩
  · rintro ⟨F1, h1, h4⟩
    exact ⟨F1, fun _ _ => False, h1, fun _ _ h => h, fun _ _ _ h => h, fun b o => by rw [h4]; simp⟩
/-- What is known of one object. -/
theorem MemOK.head {x : Ch} (m : MemOK X e fr (x :: c) w) : ∃ F, ChOK e w x F ∧ ∀ b o, F b o → b < w.heap.size ∧ e.G b o = none := by
  obtain ⟨F, ⟨F1, F2, h1, h2, h3, h4⟩, h5⟩ := m.heap
  exact ⟨F1, h1, fun b o h => ⟨(h5 b o ((h4 b o).2 (.inl h))).1, (h5 b o ((h4 b o).2 (.inl h))).2.2⟩⟩
/-- One object is turned. -/
theorem MemOK.upd1 {x : Ch} {vs : List Ch} (m : MemOK X e fr (x :: c) w) {e' : Env} {fr' : Nat → Prop} {w' : World} (he : Env.le e e') (hn : ∀ k, fr' k → e'.μ k = none)
    (hos : w'.os = w.os) (htp : w'.tape = w.tape) (hout : w'.output = w.output) (hsz : w.heap.size ≤ w'.heap.size)
    (h : ∀ Fu, ChOK e w x Fu → (∀ b o, Fu b o → b < w.heap.size ∧ e.G b o = none) → (∀ b o, b < w.heap.size → ¬ Fu b o → atw w' b o = atw w b o) ∧
      ∃ Fv, SepOK e' w' vs Fv ∧ (∀ b o, Fv b o → (Fu b o ∨ w.heap.size ≤ b) ∧ b < w'.heap.size ∧ e'.G b o = none) ∧
        ∀ b o v, e'.G b o = some v → e.G b o = some v ∨ ((Fu b o ∨ w.heap.size ≤ b) ∧ w'.cell? ⟨b, o, none⟩ = some v)) : MemOK X e' fr' (vs ++ c) w' :=
  MemOK.upd (us := [x]) m he hn hos htp hout hsz fun Fu h1 h2 => by
    obtain ⟨F1, k1, k2⟩ := SepOK.one.1 h1
    obtain ⟨g1, Fv, g2, g3, g4⟩ := h F1 k1 (fun b o q => h2 b o ((k2 b o).2 q))
    exact ⟨fun b o hb hu => g1 b o hb (fun q => hu ((k2 b o).2 q)), Fv, g2, fun b o q => ⟨(g3 b o q).1.imp (k2 b o).2 id, (g3 b o q).2⟩, fun b o v q => (g4 b o v q).imp id fun q => ⟨q.1.imp (k2 b o).2 id, q.2⟩⟩

/-- A new block. -/
def bind1 (e : Env) (k : Nat) (p : Nat × Nat × Nat) : Env := { e with μ := fun j => if j = k then some p else e.μ j }
theorem bind1_le {k : Nat} {p : Nat × Nat × Nat} (h : e.μ k = none) : Env.le e (bind1 e k p) := ⟨IM.le_refl _, fun j q hj => by
  simp only [bind1]; rw [if_neg]; exact hj; rintro rfl; rw [h] at hj; cases hj⟩
theorem bind1_at {k : Nat} {p : Nat × Nat × Nat} : (bind1 e k p).μ k = some p := by simp [bind1]
theorem bind1_ne {k j : Nat} {p : Nat × Nat × Nat} (h : j ≠ k) : (bind1 e k p).μ j = e.μ j := by simp [bind1, h]

theorem MemOK.fresh (m : MemOK X e fr c w) {b o : Nat} (h : w.heap.size ≤ b) : e.G b o = none := by
  cases hg : e.G b o with
  | none => rfl
  | some v => have := m.lt hg; omega
theorem atw_alloc {ob : Obj} {b o : Nat} (h : b < w.heap.size) : atw (w.alloc ob) b o = atw w b o := atw_of (Go.heap_alloc_old w ob h) o
theorem MemOK.alloc (m : MemOK X e fr c w) {k κ : Nat} {ob : Obj} {x : Ch} {F : Foot} (hk : fr k) (hx : ChOK (bind1 e k (w.heap.size, 0, κ)) (w.alloc ob) x F) (hF : ∀ b o, F b o → b = w.heap.size) :
    MemOK X (bind1 e k (w.heap.size, 0, κ)) (fun j => fr j ∧ j ≠ k) (x :: c) (w.alloc ob) := by
  refine MemOK.upd (us := []) (vs := [x]) m (bind1_le (m.free k hk)) (fun j hj => by rw [bind1_ne hj.2]; exact m.free j hj.1) rfl rfl rfl (by simp) fun Fu h1 h2 => ⟨fun b o hb _ => atw_alloc hb, F, SepOK.one.2 ⟨F, hx, fun _ _ => .rfl⟩, fun b o hf => ?_, fun b o v h => .inl h⟩
  rw [hF b o hf]
  exact ⟨.inr (Nat.le_refl _), by simp, m.fresh (Nat.le_refl _)⟩
end
end Go.E

/- The walk anew, part 3: frames; operations that give a value and leave memory alone. -/
set_option linter.unusedSimpArgs false
set_option linter.unusedVariables false
namespace Go.E
open Go.RowKit

def get : List (Nat × AV) → Nat → Option AV
  | [], _ => none
  | (j, x) :: r, i => match Nat.beq j i with
    | true => some x
    | false => get r i
theorem get_cons (d : Nat) (x : AV) (s : List (Nat × AV)) (i : Nat) : get ((d, x) :: s) i = if d = i then some x else get s i := by
  simp only [get]
  by_cases h : d = i
  · subst h; simp [Nat.beq_refl]
  · rw [if_neg h]
    cases hb : Nat.beq d i
    · rfl
    · exact absurd (Nat.eq_of_beq_eq_true hb) h

structure Rel {P : Program} {T : Tab} (X : Ctx P T) (n : Nat) (e : Env) (fr : Nat → Prop) (s : List (Nat × AV)) (c : List Ch) (a : Act) (w : World) : Prop where
  defers : a.defers = X.dfr
  size : a.tmps.size = n
  slots : ∀ i x, get s i = some x → ∃ v, a.tmps[i]? = some v ∧ Rep x e v
  mem : MemOK X e fr c w

def opd (s : List (Nat × AV)) : Operand → Option AV
  | .tmp t => get s t
  | .const (.string ⟨⟨l⟩⟩) => some (.s l)
  | .const (.agg _) => none
  | .const c => some (.v c)
  | .func f => some (.v (.func (.func f) #[] #[]))
  | .global g => some (.v (.pointer (some ⟨g, 0, none⟩)))

def intOpd (s : List (Nat × AV)) (o : Operand) : Option Int :=
  match opd s o with
  | some (.v (.int _ i)) => some i
  | _ => none

def getC (k : Nat) : List Ch → Option Ch
  | [] => none
  | c :: r => match Nat.beq c.id k with
    | true => some c
    | false => getC k r
/-- The objects without one. -/
def delC (k : Nat) : List Ch → List Ch
  | [] => []
  | c :: r => match Nat.beq c.id k with
    | true => r
    | false => c :: delC k r
/-- The objects with one turned, at its place. -/
def setC (k : Nat) (x : Ch) : List Ch → List Ch
  | [] => [x]
  | c :: r => match Nat.beq c.id k with
    | true => x :: r
    | false => c :: setC k x r
theorem getC_perm {k : Nat} : ∀ {cs : List Ch} {c : Ch}, getC k cs = some c → cs.Perm (c :: delC k cs) ∧ (∀ x, (setC k x cs).Perm (x :: delC k cs)) ∧ c.id = k
  | [], c, h => by simp [getC] at h
  | d :: cs, c, h => by
    simp only [getC] at h
    split at h
    · rename_i hb
      cases h
      refine ⟨by simp only [delC, hb]; exact .refl _, fun x => by simp only [setC, delC, hb]; exact .refl _, Nat.eq_of_beq_eq_true hb⟩
    · rename_i hb
      obtain ⟨h1, h2, h3⟩ := getC_perm h
      refine ⟨by simp only [delC, hb]; exact (h1.cons d).trans (.swap _ _ _), fun x => by simp only [setC, delC, hb]; exact ((h2 x).cons d).trans (.swap _ _ _), h3⟩

/-- Bring a list to light. -/
def normG {α β : Type} : List α → (List α → β) → β
  | [], k => k []
  | x :: xs, k => normG xs fun ys => k (x :: ys)
theorem normG_eq {α β : Type} : ∀ (l : List α) (k : List α → β), normG l k = k l
  | [], k => rfl
  | x :: xs, k => by simp only [normG]; rw [normG_eq xs]
def normA {β : Type} (x : AV) (k : AV → β) : β :=
  match x with
  | .agg cs => normG cs fun cs => k (.agg cs)
  | _ => k x
theorem normA_eq {β : Type} (x : AV) (k : AV → β) : normA x k = k x := by
  unfold normA; split
  · rw [normG_eq]
  · rfl

def bitsV (op : BinOp) (k : IntKind) (a b : Int) : Int :=
  match op with
  | .and => k.wrap (BitVec.ofInt k.bits a &&& BitVec.ofInt k.bits b).toNat
  | .or => k.wrap (BitVec.ofInt k.bits a ||| BitVec.ofInt k.bits b).toNat
  | .xor => k.wrap (BitVec.ofInt k.bits a ^^^ BitVec.ofInt k.bits b).toNat
  | _ => k.wrap (BitVec.ofInt k.bits a &&& ~~~ BitVec.ofInt k.bits b).toNat

def binI (op : BinOp) (k : IntKind) (a b : Int) : Option (Prop × AV) :=
  match op with
  | .add => some (True, .v (.int k (k.wrap (a + b))))
  | .sub => some (True, .v (.int k (k.wrap (a - b))))
  | .mul => some (True, .v (.int k (k.wrap (a * b))))
  | .eql => some (True, .v (.bool (decide (a = b))))
  | .neq => some (True, .v (.bool (!decide (a = b))))
  | .lss => some (True, .v (.bool (decide (a < b))))
  | .leq => some (True, .v (.bool (decide (a ≤ b))))
  | .gtr => some (True, .v (.bool (decide (b < a))))
  | .geq => some (True, .v (.bool (decide (b ≤ a))))
  | .and => some (True, .v (.int k (bitsV .and k a b)))
  | .or => some (True, .v (.int k (bitsV .or k a b)))
  | .xor => some (True, .v (.int k (bitsV .xor k a b)))
  | .andNot => some (True, .v (.int k (bitsV .andNot k a b)))
  | .quo => some (b ≠ 0, .v (.int k (k.wrap (a.tdiv b))))
  | .rem => some (b ≠ 0, .v (.int k (a.tmod b)))
  | .shl => some (0 ≤ b, .v (.int k (k.wrap (a * 2 ^ min b.toNat k.bits))))
  | .shr => some (0 ≤ b, .v (.int k (a.fdiv (2 ^ min b.toNat k.bits))))

def binS (op : BinOp) (a b : List UInt8) : Option (Prop × AV) :=
  match op with
  | .eql => some (True, .v (.bool (a == b)))
  | .neq => some (True, .v (.bool (!(a == b))))
  | .lss => some (True, .v (.bool (Op.bytesLess a b)))
  | .leq => some (True, .v (.bool (Op.bytesLess a b || a == b)))
  | .gtr => some (True, .v (.bool !(Op.bytesLess a b || a == b)))
  | .geq => some (True, .v (.bool !(Op.bytesLess a b)))
  | .add => some (a.length + b.length ≤ 9223372036854775807, .s (a ++ b))
  | _ => none

/-- Is a pointer nil? -/
def nilP : AV → Option Bool
  | .v (.pointer none) => some true
  | .v (.pointer (some _)) => some false
  | .bp _ _ => some false
  | .ep _ _ _ _ => some false
  | .cp _ => some false
  | _ => none
def nilM : AV → Option Bool
  | .v (.map none) => some true
  | .mp _ => some false
  | _ => none
def isShift : BinOp → Bool
  | .shl => true
  | .shr => true
  | _ => false
def bin (T : Tab) (t : Nat) (op : BinOp) (x y : AV) : Option (Prop × AV) :=
  match x, y with
  | .v (.int k a), .v (.int j b) => (match kindEq k j || isShift op with
    | true => binI op k a b
    | false => none)
  | .s a, .s b => binS op a b
  | .v (.bool a), .v (.bool b) => (match T t with
    | some ⟨_, _, _, _, .bool⟩ => (match op with
      | .eql => some (True, .v (.bool (a == b)))
      | .neq => some (True, .v (.bool (a != b)))
      | _ => none)
    | _ => none)
  | x, .v (.pointer none) => (match T t, nilP x, op with
    | some ⟨_, _, _, _, .ptr⟩, some b, .eql => some (True, .v (.bool b))
    | some ⟨_, _, _, _, .ptr⟩, some b, .neq => some (True, .v (.bool (!b)))
    | _, _, _ => none)
  | x, .v (.map none) => (match T t, nilM x, op with
    | some ⟨_, _, _, _, .map _ _⟩, some b, .eql => some (True, .v (.bool b))
    | some ⟨_, _, _, _, .map _ _⟩, some b, .neq => some (True, .v (.bool (!b)))
    | _, _, _ => none)
  | _, _ => none

def loadA (i : TI) (cells : List AV) : Option AV :=
  match i.agg with
  | true => (match Nat.ble i.size cells.length with
    | true => normG (cells.take i.size) fun l => some (.agg l)
    | false => none)
  | false => match cells with
    | c :: _ => some c
    | [] => none

/-- What an operation that leaves memory alone asks, and what it then gives. -/
def val (T : Tab) (s : List (Nat × AV)) (c : List Ch) : Op → Option (Prop × AV)
  | .move x => (match opd s x with
    | some x => some (True, x)
    | none => none)
  | .assign x => (match opd s x with
    | some x => some (True, x)
    | none => none)
  | .pick q a b => (match opd s q, opd s a, opd s b with
    | some (.v (.bool true)), some a, _ => some (True, a)
    | some (.v (.bool false)), _, some b => some (True, b)
    | _, _, _ => none)
  | .binOp op t x y _ => (match opd s x, opd s y with
    | some p, some q => bin T t op p q
    | _, _ => none)
  | .unOp op _ x => (match op, opd s x with
    | .not, some (.v (.bool b)) => some (True, .v (.bool (!b)))
    | .neg, some (.v (.int k a)) => some (True, .v (.int k (k.wrap (0 - a))))
    | _, _ => none)
  | .convert src dst x => (match T src, T dst, opd s x with
    | some _, some ⟨_, _, _, _, .int k⟩, some (.v (.int _ a)) => some (True, .v (.int k (k.wrap a)))
    | some ⟨_, _, _, _, .str⟩, some ⟨_, _, _, _, .str⟩, some (.s l) => some (True, .s l)
    | _, _, _ => none)
  | .fieldAddr t x f => (match T t with
    | some ⟨_, _, _, _, .struct fs⟩ => (match fs[f]? with
      | some (off, ft) => (match T ft, opd s x with
        | some ⟨_ + 1, _, _, _, _⟩, some (.bp k o) => some (True, .bp k (o + off))
        | some ⟨_ + 1, _, _, _, _⟩, some (.cp cells) => normG (cells.drop off) fun l => some (True, .cp l)
        | some ⟨_ + 1, _, _, _, _⟩, some (.ep k esz i j) => some (True, .ep k esz i (j + off))
        | some ⟨_ + 1, _, _, _, _⟩, some (.v (.pointer (some ⟨b, o, none⟩))) => some (True, .v (.pointer (some ⟨b, o + off, none⟩)))
        | _, _ => none)
      | _ => none)
    | _ => none)
  | .field t x f => (match T t with
    | some ⟨_, _, _, _, .struct fs⟩ => (match fs[f]?, opd s x with
      | some (off, ft), some (.agg cells) => (match T ft with
        | some ti => (match loadA ti (cells.drop off) with
          | some y => some (True, y)
          | none => none)
        | none => none)
      | _, _ => none)
    | _ => none)
  | .load t x => (match T t with
    | some ti => (match opd s x with
      | some (.bp k o) => (match getC k c with
        | some (.box _ cells) => (match loadA ti (cells.drop o) with
          | some y => some (True, y)
          | none => none)
        | _ => none)
      | some (.ep k esz i j) => (match getC k c with
        | some (.vec _ esz' m row) => (match Nat.beq esz esz', loadA ti ((row i).drop j) with
          | true, some y => some (i < m, y)
          | _, _ => none)
        | _ => none)
      | some (.cp cells) => (match loadA ti cells with
        | some y => some (True, y)
        | none => none)
      | _ => none)
    | none => none)
  | .extract x i => (match opd s x with
    | some (.tup cs) => (match cs[i]? with
      | some y => some (True, y)
      | none => none)
    | _ => none)
  | .nilCheck x => (match opd s x with
    | some (.bp k o) => some (True, .bp k o)
    | some (.ep k esz i j) => some (True, .ep k esz i j)
    | some (.v (.pointer (some ad))) => some (True, .v (.pointer (some ad)))
    | some (.cp cells) => some (True, .cp cells)
    | _ => none)
  | .makeInterface t x => (match T t, opd s x with
    | some ⟨_, _, _, _, .struct _⟩, some y => some (True, .ifc t y)
    | some ⟨_, _, _, _, .ptr⟩, some y => some (True, .ifc t y)
    | some ⟨_, _, _, _, .str⟩, some y => some (True, .ifc t y)
    | _, _ => none)
  | .indexAddr t x i => (match T t, opd s x, intOpd s i with
    | some ⟨_, _, _, _, .slice el⟩, some (.sl n esz row), some i => (match T el with
      | some ti => (match Nat.beq ti.size esz with
        | true => some (0 ≤ i ∧ i < n, .cp (row i.toNat))
        | false => none)
      | none => none)
    | some ⟨_, _, _, _, .slice el⟩, some (.own k esz i0 m), some i => (match T el with
      | some ti => (match Nat.beq ti.size esz with
        | true => some (0 ≤ i ∧ i < m, .ep k esz (i0 + i.toNat) 0)
        | false => none)
      | none => none)
    | some ⟨_, _, _, _, .arr len el⟩, some (.bp k o), some i => (match T el with
      | some ti => some (0 ≤ i ∧ i < len, .bp k (o + i.toNat * ti.size))
      | none => none)
    | some ⟨_, _, _, _, .arr len el⟩, some (.cp cells), some i => (match T el with
      | some ti => some (0 ≤ i ∧ i < len, .cp (cells.drop (i.toNat * ti.size)))
      | none => none)
    | some ⟨_, _, _, _, .arr len el⟩, some (.v (.pointer (some ⟨b, o, none⟩))), some i => (match T el with
      | some ti => some (0 ≤ i ∧ i < len, .v (.pointer (some ⟨b, o + i.toNat * ti.size, none⟩)))
      | none => none)
    | _, _, _ => none)
  | .index t x i => (match T t, opd s x, intOpd s i with
    | some ⟨_, _, _, _, .str⟩, some (.s l), some i => some (0 ≤ i ∧ i < l.length, .v (.int .u8 (l.getD i.toNat 0).toNat))
    | _, _, _ => none)
  | .slice t x lo hi none => (match T t, opd s x, (match lo with
      | none => some 0
      | some q => intOpd s q), (match hi with
      | none => some none
      | some q => (match intOpd s q with
        | some j => some (some j)
        | none => none)) with
    | some ⟨_, _, _, _, .str⟩, some (.s l), some i, some none => some (0 ≤ i ∧ i ≤ l.length, .s (l.drop i.toNat))
    | some ⟨_, _, _, _, .str⟩, some (.s l), some i, some (some j) => some (0 ≤ i ∧ i ≤ j ∧ j ≤ l.length, .s ((l.drop i.toNat).take (j.toNat - i.toNat)))
    | some ⟨_, _, _, _, .slice el⟩, some (.sl n esz row), some i, some none => (match T el with
      | some ti => (match Nat.beq ti.size esz with
        | true => some (0 ≤ i ∧ i ≤ n, .sl (n - i.toNat) esz (fun q => row (i.toNat + q)))
        | false => none)
      | none => none)
    | some ⟨_, _, _, _, .slice el⟩, some (.sl n esz row), some i, some (some j) => (match T el with
      | some ti => (match Nat.beq ti.size esz with
        | true => some (0 ≤ i ∧ i ≤ j ∧ j ≤ n, .sl (j.toNat - i.toNat) esz (fun q => row (i.toNat + q)))
        | false => none)
      | none => none)
    | some ⟨_, _, _, _, .slice el⟩, some (.own k esz i0 m), some i, some none => (match T el with
      | some ti => (match Nat.beq ti.size esz with
        | true => some (0 ≤ i ∧ i ≤ m, .own k esz (i0 + i.toNat) (m - i.toNat))
        | false => none)
      | none => none)
    | some ⟨_, _, _, _, .slice el⟩, some (.own k esz i0 m), some i, some (some j) => (match T el with
      | some ti => (match Nat.beq ti.size esz with
        | true => some (0 ≤ i ∧ i ≤ j ∧ j ≤ m, .own k esz (i0 + i.toNat) (j.toNat - i.toNat))
        | false => none)
      | none => none)
    | _, _, _, _ => none)
  | .call { callee := .builtin b, args, argTypes } => (match b, args.toList, argTypes.toList with
    | .len, [x], [t] => (match T t, opd s x with
      | some ⟨_, _, _, _, .str⟩, some (.s l) => some (True, .v (.int .i64 l.length))
      | some ⟨_, _, _, _, .slice _⟩, some (.sl n _ _) => some (True, .v (.int .i64 n))
      | some ⟨_, _, _, _, .slice _⟩, some (.own _ _ _ n) => some (True, .v (.int .i64 n))
      | some ⟨_, _, _, _, .slice _⟩, some (.v (.slice _ n _)) => some (True, .v (.int .i64 n))
      | _, _ => none)
    | .min, [x, y], _ => (match opd s x, opd s y with
      | some (.v (.int k a)), some (.v (.int _ b)) => some (True, .v (.int k (min a b)))
      | _, _ => none)
    | .max, [x, y], _ => (match opd s x, opd s y with
      | some (.v (.int k a)), some (.v (.int _ b)) => some (True, .v (.int k (max a b)))
      | _, _ => none)
    | _, _, _ => none)
  | .makeFunc fn first caps => (match first.toList.mapM (opd s), caps.toList.mapM (opd s) with
    | some f, some cs => some (True, .clo fn f cs)
    | _, _ => none)
  | _ => none
end Go.E

/- The walk anew, part 4: operations that give a value and leave memory alone, proved. -/
set_option linter.unusedSimpArgs false
set_option linter.unusedVariables false
namespace Go.E
open Go.RowKit

theorem TabOK.size {P : Program} {T : Tab} (h : TabOK P T) {t : Nat} {i : TI} (ht : T t = some i) (w : World) : (sizeOf t).run P w = .ok i.size w := by
  obtain ⟨pi, z, h1, h2, _⟩ := (h t i ht).info
  simp [sizeOf, typeInfo, h1, h2]
theorem TabOK.isAgg {P : Program} {T : Tab} (h : TabOK P T) {t : Nat} {i : TI} (ht : T t = some i) (w : World) : (isAgg t).run P w = .ok i.agg w := by
  obtain ⟨d, h1, h2, _⟩ := (h t i ht).desc
  rw [h2]
  unfold Go.isAgg
  rw [Sem.run_bind, run_underlying h1 w]
  cases d <;> simp
theorem TabOK.und {P : Program} {T : Tab} (h : TabOK P T) {t : Nat} {i : TI} (ht : T t = some i) : ∃ d, P.underlying t = some d ∧ TDOK P i.d d :=
  let ⟨d, h1, _, h3⟩ := (h t i ht).desc; ⟨d, h1, h3⟩

theorem add_addr (b o n : Nat) : (⟨b, o, none⟩ : Addr).add n = ⟨b, o + n, none⟩ := by unfold Addr.add; split <;> simp_all
theorem toList_mk (l : List UInt8) : (ByteArray.mk l.toArray).toList = l := by rw [ByteArray.toList_eq]
theorem len_S (l : List UInt8) : (ByteArray.mk l.toArray).size = l.length := by simp [ByteArray.size]

theorem CellsAt.get : ∀ {cells : List AV} {G : IM} {b o : Nat}, CellsAt cells G b o → ∀ (j : Nat) (c : AV), cells[j]? = some c → ∃ z, G b (o + j) = some z ∧ Rep c (.bare G) z ∧ z.oneCell' = true
  | [], _, _, _, _, j, c, h => by simp at h
  | d :: cs, G, b, o, r, j, c, h => by
    simp only [CellsAt] at r
    cases j with
    | zero => simp at h; subst h; simpa using r.1
    | succ j =>
      have := CellsAt.get r.2 j c (by simpa using h)
      rwa [show o + (j + 1) = o + 1 + j by omega]
theorem CellsAt.drop : ∀ (k : Nat) {cells : List AV} {G : IM} {b o : Nat}, CellsAt cells G b o → CellsAt (cells.drop k) G b (o + k)
  | 0, cells, G, b, o, r => by simpa using r
  | k + 1, [], G, b, o, r => by simp [CellsAt]
  | k + 1, c :: cs, G, b, o, r => by
    simp only [CellsAt] at r
    have := CellsAt.drop k r.2
    rwa [show o + (k + 1) = o + 1 + k by omega]
theorem RepL.get : ∀ {cs : List AV} {e : Env} {ys : List Value}, RepL cs e ys → ∀ (j : Nat) (c : AV), cs[j]? = some c → ∃ z, ys[j]? = some z ∧ Rep c e z ∧ z.oneCell' = true
  | [], e, ys, _, j, c, h => by simp at h
  | d :: cs, e, ys, r, j, c, h => by
    simp only [RepL] at r
    obtain ⟨z, zs, rfl, r1, r2, r3⟩ := r
    cases j with
    | zero => simp at h; subst h; exact ⟨z, by simp, r1, r2⟩
    | succ j => simpa using RepL.get r3 j c (by simpa using h)
theorem RepL.len : ∀ {cs : List AV} {e : Env} {ys : List Value}, RepL cs e ys → ys.length = cs.length
  | [], e, ys, r => by simp only [RepL] at r; subst r; rfl
  | d :: cs, e, ys, r => by
    simp only [RepL] at r
    obtain ⟨z, zs, rfl, r1, r2, r3⟩ := r
    simp [RepL.len r3]
theorem RepL.mk : ∀ {cs : List AV} {e : Env} {ys : List Value}, ys.length = cs.length → (∀ (j : Nat) (c : AV), cs[j]? = some c → ∃ z, ys[j]? = some z ∧ Rep c e z ∧ z.oneCell' = true) → RepL cs e ys
  | [], e, ys, hl, _ => by simp only [RepL]; exact List.eq_nil_of_length_eq_zero hl
  | d :: cs, e, [], hl, _ => by simp at hl
  | d :: cs, e, y :: ys, hl, h => by
    simp only [RepL]
    obtain ⟨z, h1, h2, h3⟩ := h 0 d (by simp)
    simp at h1; subst h1
    exact ⟨y, ys, rfl, h2, h3, RepL.mk (by simpa using hl) fun j c hc => by simpa using h (j + 1) c (by simpa using hc)⟩
theorem RepL.drop (k : Nat) {cs : List AV} {e : Env} {ys : List Value} (h : RepL cs e ys) : RepL (cs.drop k) e (ys.drop k) :=
  .mk (by simp [h.len]) fun j c hc => by rw [List.getElem?_drop] at hc ⊢; exact h.get _ c hc
theorem RepL.take (k : Nat) {cs : List AV} {e : Env} {ys : List Value} (h : RepL cs e ys) : RepL (cs.take k) e (ys.take k) :=
  .mk (by simp [h.len]) fun j c hc => by
    rw [List.getElem?_take] at hc ⊢
    split at hc
    · rename_i hj; rw [if_pos hj]; exact h.get _ c hc
    · cases hc
theorem RepL.app {cs ds : List AV} {e : Env} {ys zs : List Value} (h : RepL cs e ys) (k : RepL ds e zs) : RepL (cs ++ ds) e (ys ++ zs) :=
  .mk (by simp [h.len, k.len]) fun j c hc => by
    rw [List.getElem?_append] at hc ⊢
    rw [h.len]
    split at hc
    · rename_i hj; rw [if_pos hj]; exact h.get _ c hc
    · rename_i hj; rw [if_neg hj]; exact k.get _ c hc
theorem RepL.one {cs : List AV} {e : Env} {ys : List Value} (h : RepL cs e ys) : ∀ y ∈ ys, y.oneCell' = true := by
  intro y hy
  obtain ⟨j, hj, rfl⟩ := List.mem_iff_getElem.1 hy
  rw [h.len] at hj
  obtain ⟨z, h1, _, h2⟩ := h.get j _ (List.getElem?_eq_getElem hj)
  rw [List.getElem?_eq_getElem (by rw [h.len]; exact hj)] at h1
  cases h1; exact h2
theorem RepT.get : ∀ {cs : List AV} {e : Env} {ys : List Value}, RepT cs e ys → ∀ (j : Nat) (c : AV), cs[j]? = some c → ∃ z, ys[j]? = some z ∧ Rep c e z
  | [], e, ys, _, j, c, h => by simp at h
  | d :: cs, e, ys, r, j, c, h => by
    simp only [RepT] at r
    obtain ⟨z, zs, rfl, r1, r3⟩ := r
    cases j with
    | zero => simp at h; subst h; exact ⟨z, by simp, r1⟩
    | succ j => simpa using RepT.get r3 j c (by simpa using h)
theorem RepT.len : ∀ {cs : List AV} {e : Env} {ys : List Value}, RepT cs e ys → ys.length = cs.length
  | [], e, ys, r => by simp only [RepT] at r; subst r; rfl
  | d :: cs, e, ys, r => by
    simp only [RepT] at r
    obtain ⟨z, zs, rfl, r1, r3⟩ := r
    simp [RepT.len r3]

/-- Cells that can be read. -/
def Readable (e : Env) (w : World) (b o : Nat) (cells : List AV) : Prop :=
  ∀ (j : Nat) (c : AV), cells[j]? = some c → ∃ z, w.cell? ⟨b, o + j, none⟩ = some z ∧ Rep c e z ∧ z.oneCell' = true
theorem Readable.drop {e : Env} {w : World} {b o : Nat} {cells : List AV} (h : Readable e w b o cells) (k : Nat) : Readable e w b (o + k) (cells.drop k) := fun j c hc => by
  rw [List.getElem?_drop] at hc
  have := h _ c hc
  rwa [← Nat.add_assoc] at this
theorem CellsW.readable {e : Env} {w : World} {b o : Nat} {cells : List AV} (h : CellsW e w b o cells) : Readable e w b o cells := fun j c hc =>
  let ⟨z, h1, h2, h3⟩ := h j c hc; ⟨z, h1.cell, h2, h3⟩

section
variable {P : Program} {T : Tab} {X : Ctx P T} {n : Nat} {e : Env} {fr : Nat → Prop} {s : List (Nat × AV)} {c : List Ch} {a : Act} {w : World}

theorem opd_sound (r : Rel X n e fr s c a w) {o : Operand} {x : AV} (h : opd s o = some x) : Rep x e (a.eval o) := by
  cases o with
  | tmp t =>
    obtain ⟨v, h1, h2⟩ := r.slots t x h
    simp only [Act.eval, Array.getD_eq_getD_getElem?, h1, Option.getD_some]
    exact h2
  | const c =>
    cases c <;> simp [opd] at h <;> subst h <;> simp [Act.eval, Rep, S]
  | func f => simp [opd] at h; subst h; simp [Act.eval, Rep]
  | global g => simp [opd] at h; subst h; simp [Act.eval, Rep]
theorem intOpd_sound (r : Rel X n e fr s c a w) {o : Operand} {i : Int} (h : intOpd s o = some i) : ∃ k, a.eval o = .int k i := by
  unfold intOpd at h
  split at h
  · rename_i k j hj
    cases h
    have := opd_sound r hj
    simp only [Rep] at this
    exact ⟨k, this⟩
  · cases h
theorem opds_sound (r : Rel X n e fr s c a w) : ∀ {l : List Operand} {xs : List AV}, l.mapM (opd s) = some xs → RepT xs e (l.map a.eval)
  | [], xs, h => by simp at h; subst h; simp [RepT]
  | o :: l, xs, h => by
    simp only [List.mapM_cons, Option.bind_eq_bind, Option.bind_eq_some_iff, Option.pure_def, Option.some.injEq] at h
    obtain ⟨x, h1, ys, h2, rfl⟩ := h
    simp only [List.map_cons, RepT]
    exact ⟨_, _, rfl, opd_sound r h1, opds_sound r h2⟩

theorem MemOK.get (m : MemOK X e fr c w) {k : Nat} {x : Ch} (h : getC k c = some x) : (∃ F, ChOK e w x F ∧ ∀ b o, F b o → b < w.heap.size ∧ e.G b o = none) ∧ x.id = k :=
  ⟨(m.perm (getC_perm h).1).head, (getC_perm h).2.2⟩

theorem load_sound (hT : TabOK P T) {t : Nat} {i : TI} (ht : T t = some i) {b o : Nat} {cells : List AV} (hr : Readable e w b o cells) {av : AV} (h : loadA i cells = some av) : ∃ v, Rep av e v ∧ (loadVar t ⟨b, o, none⟩).run P w = .ok v w := by
  unfold loadA at h
  unfold loadVar
  split at h
  · rename_i hagg
    split at h
    · rename_i hle
      rw [normG_eq] at h
      cases h
      have hle' : i.size ≤ cells.length := Nat.le_of_ble_eq_true hle
      have hz : ∀ j, j < i.size → ∃ z c, cells[j]? = some c ∧ w.cell? ⟨b, o + j, none⟩ = some z ∧ Rep c e z ∧ z.oneCell' = true := by
        intro j hj
        obtain ⟨z, h1, h2, h3⟩ := hr j cells[j] (by simp)
        exact ⟨z, cells[j], by simp, h1, h2, h3⟩
      have hc := run_loadCells (P := P) w ⟨b, o, none⟩ i.size (fun j => (w.cell? ⟨b, o + j, none⟩).getD undef) (fun j hj => by
        obtain ⟨z, c, _, h2, _⟩ := hz j hj
        rw [add_addr, h2]; rfl)
      refine ⟨.agg ((List.range i.size).map fun j => (w.cell? ⟨b, o + j, none⟩).getD undef).toArray, ?_, ?_⟩
      case refine_2 => simp only [Sem.run_bind, hT.isAgg ht w, hT.size ht w, Result.andThen_ok, hagg, if_true, hc, Sem.run_pure]
      · simp only [Rep]
        refine ⟨_, rfl, RepL.mk (by simp; omega) ?_⟩
        intro j c hc
        rw [List.getElem?_take] at hc
        split at hc
        · rename_i hj
          obtain ⟨z, c', h1, h2, h3, h4⟩ := hz j hj
          rw [h1] at hc; cases hc
          exact ⟨z, by simp [hj, h2], h3, h4⟩
        · cases hc
    · cases h
  · rename_i hagg
    cases cells with
    | nil => simp at h
    | cons c cs =>
      simp at h; subst h
      obtain ⟨z, h1, h2, h3⟩ := hr 0 c (by simp)
      refine ⟨z, h2, ?_⟩
      simp only [Nat.add_zero] at h1
      simp [hT.isAgg ht w, hagg, run_load, h1]

theorem run_equalIn_bool {t : Nat} (h : P.underlying t = some .bool) (a b : Bool) (w : World) (d : Nat) : (Op.equalIn (d + 1) t (.bool a) (.bool b)).run P w = .ok (a == b) w := by
  simp [Op.equalIn, run_underlying h]
theorem run_equal_bool {t : Nat} (h : P.underlying t = some .bool) (a b : Bool) (w : World) : (Op.equal t (.bool a) (.bool b)).run P w = .ok (a == b) w := run_equalIn_bool h a b w 9999
theorem run_equalIn_ptr0 {t el : TypeId} (h : P.underlying t = some (.pointer el)) (po : Option Addr) (w : World) (d : Nat) : (Op.equalIn (d + 1) t (.pointer po) (.pointer none)).run P w = .ok po.isNone w := by
  cases po <;> simp [Op.equalIn, run_underlying h]
theorem run_equal_ptr0 {t el : TypeId} (h : P.underlying t = some (.pointer el)) (po : Option Addr) (w : World) : (Op.equal t (.pointer po) (.pointer none)).run P w = .ok po.isNone w := run_equalIn_ptr0 h po w 9999
theorem run_equalIn_map {t kt et : TypeId} (h : P.underlying t = some (.map kt et)) (mo : Option Nat) (w : World) (d : Nat) : (Op.equalIn (d + 1) t (.map mo) (.map none)).run P w = .ok mo.isNone w := by
  cases mo <;> simp [Op.equalIn, run_underlying h]
theorem run_equal_map {t kt et : TypeId} (h : P.underlying t = some (.map kt et)) (mo : Option Nat) (w : World) : (Op.equal t (.map mo) (.map none)).run P w = .ok mo.isNone w := run_equalIn_map h mo w 9999

theorem nilP_sound {x : AV} {b : Bool} {p : Value} (h : nilP x = some b) (hx : Rep x e p) : ∃ po, p = .pointer po ∧ po.isNone = b := by
  unfold nilP at h
  split at h <;> cases h <;> simp only [Rep] at hx
  · exact ⟨_, hx, rfl⟩
  · exact ⟨_, hx, rfl⟩
  · obtain ⟨b, β, κ, _, rfl⟩ := hx; exact ⟨_, rfl, rfl⟩
  · obtain ⟨b, β, κ, _, rfl⟩ := hx; exact ⟨_, rfl, rfl⟩
  · obtain ⟨b, o, rfl, _⟩ := hx; exact ⟨_, rfl, rfl⟩
theorem nilM_sound {x : AV} {b : Bool} {p : Value} (h : nilM x = some b) (hx : Rep x e p) : ∃ po, p = .map po ∧ po.isNone = b := by
  unfold nilM at h
  split at h <;> cases h <;> simp only [Rep] at hx
  · exact ⟨_, hx, rfl⟩
  · obtain ⟨b, β, κ, _, rfl⟩ := hx; exact ⟨_, rfl, rfl⟩

theorem bin_sound (hT : TabOK P T) {t : Nat} {op : BinOp} {x y av : AV} {g : Prop} {p q : Value} (hx : Rep x e p) (hy : Rep y e q) (h : bin T t op x y = some (g, av)) (hg : g) (ox oy : Operand) :
    ∃ z, Rep av e z ∧ (do eqGuard op t ox oy p q; binOp op t p q : Sem Value).run P w = .ok z w := by
  unfold bin at h
  split at h
  · rename_i k a j b
    simp only [Rep] at hx hy
    subst hx hy
    split at h
    · rename_i hk
      cases op
      case shl | shr =>
        simp only [binI, Option.some.injEq, Prod.mk.injEq] at h
        obtain ⟨rfl, rfl⟩ := h
        have : ¬ b < 0 := by omega
        exact ⟨_, by simp only [Rep]; rfl, by simp [eqGuard, binOp, Op.shift, this]⟩
      all_goals
        simp [isShift] at hk
        have hkj := kindEq_eq hk
        subst hkj
        simp only [binI, Option.some.injEq, Prod.mk.injEq] at h
        obtain ⟨rfl, rfl⟩ := h
        refine ⟨_, by simp only [Rep]; rfl, ?_⟩
      all_goals first
        | (simp [eqGuard, binOp, Op.intArith, Op.intCmp, Op.intBits, bitsV]; done)
        | (simp [eqGuard, binOp, Op.intDiv, hg]; done)
        | (simp [eqGuard, binOp, Op.intArith, Op.intCmp, Op.intBits, bitsV]; by_cases hab : a = b <;> simp [hab])
    · cases h
  · rename_i a b
    simp only [Rep, S] at hx hy
    subst hx hy
    have h2 : ByteArray.mk a.toArray ++ ByteArray.mk b.toArray = ByteArray.mk (a ++ b).toArray := by apply ByteArray.ext; simp
    cases op <;> simp only [binS, Option.some.injEq, Prod.mk.injEq, reduceCtorEq] at h
    case add =>
      obtain ⟨rfl, rfl⟩ := h
      refine ⟨S (a ++ b), by simp only [Rep], ?_⟩
      have h1 : (((ByteArray.mk a.toArray).size : Nat) : Int) + (((ByteArray.mk b.toArray).size : Nat) : Int) ≤ 9223372036854775807 := by rw [len_S, len_S]; omega
      simp [eqGuard, binOp, Op.stringOp, S, h1, h2]
    all_goals
      obtain ⟨_, rfl⟩ := h
      exact ⟨_, by simp only [Rep]; rfl, by simp [eqGuard, binOp, Op.stringOp, toList_mk]⟩
  · rename_i a b
    simp only [Rep] at hx hy
    subst hx hy
    split at h
    · rename_i hTt
      obtain ⟨d, h1, h3⟩ := hT.und hTt
      simp only [TDOK] at h3
      subst h3
      have he := run_equal_bool h1 a b w
      cases op <;> simp only [Option.some.injEq, Prod.mk.injEq, reduceCtorEq] at h <;> obtain ⟨_, rfl⟩ := h <;> refine ⟨_, by simp only [Rep]; rfl, ?_⟩ <;> simp [eqGuard, binOp, he] <;> cases a <;> cases b <;> rfl
    · cases h
  · simp only [Rep] at hy
    subst hy
    split at h
    · rename_i hTt hn
      cases h
      obtain ⟨d, h1, el, rfl⟩ := hT.und hTt
      obtain ⟨po, rfl, rfl⟩ := nilP_sound hn hx
      exact ⟨_, by simp only [Rep]; rfl, by simp [eqGuard, binOp, run_equal_ptr0 h1 po w]⟩
    · rename_i hTt hn
      cases h
      obtain ⟨d, h1, el, rfl⟩ := hT.und hTt
      obtain ⟨po, rfl, rfl⟩ := nilP_sound hn hx
      exact ⟨_, by simp only [Rep]; rfl, by simp [eqGuard, binOp, run_equal_ptr0 h1 po w]⟩
    · cases h
  · simp only [Rep] at hy
    subst hy
    split at h
    · rename_i hTt hn
      cases h
      obtain ⟨d, h1, rfl⟩ := hT.und hTt
      obtain ⟨po, rfl, rfl⟩ := nilM_sound hn hx
      exact ⟨_, by simp only [Rep]; rfl, by simp [eqGuard, binOp, run_equal_map h1 po w]⟩
    · rename_i hTt hn
      cases h
      obtain ⟨d, h1, rfl⟩ := hT.und hTt
      obtain ⟨po, rfl, rfl⟩ := nilM_sound hn hx
      exact ⟨_, by simp only [Rep]; rfl, by simp [eqGuard, binOp, run_equal_map h1 po w]⟩
    · cases h
  · cases h
end
end Go.E

/- The walk anew, part 5: operations that give a value and leave memory alone, proved (the end). -/
set_option linter.unusedSimpArgs false
set_option linter.unusedVariables false
namespace Go.E
open Go.RowKit

theorem extract_S (l : List UInt8) (i j : Nat) : (ByteArray.mk l.toArray).extract i j = ByteArray.mk ((l.drop i).take (j - i)).toArray := by
  have h := ByteArray.data_extract (a := ByteArray.mk l.toArray) (b := i) (e := j)
  apply ByteArray.ext
  rw [h]
  apply Array.ext'
  simp [Array.toList_extract, List.extract_eq_take_drop]
theorem run_sliceBound {P : Program} {w : World} {k : IntKind} {i : Int} {y : Nat} (code : BoundsCode) (h0 : 0 ≤ i) (h1 : i ≤ y) : (Instr.sliceBound (.int k i) y code).run P w = .ok i.toNat w := by
  simp [Instr.sliceBound, asIntOf, h0, h1]
theorem run_bounds {P : Program} {w : World} (sl : Bool) (len cap : Nat) (lo hi : Option Value) (i j : Int) (h0 : 0 ≤ i) (hij : i ≤ j) (hj : j ≤ len) (hc : len ≤ cap)
    (hlo : (lo = none ∧ i = 0) ∨ ∃ k, lo = some (.int k i)) (hhi : (hi = none ∧ j = len) ∨ ∃ k, hi = some (.int k j)) :
    (Instr.sliceBounds sl len cap lo hi none).run P w = .ok (i.toNat, j.toNat, cap) w := by
  rcases hhi with ⟨rfl, rfl⟩ | ⟨kh, rfl⟩ <;> rcases hlo with ⟨rfl, rfl⟩ | ⟨kl, rfl⟩
  · simp [Instr.sliceBounds]
  · simp [Instr.sliceBounds, run_sliceBound _ h0 hij]
  · simp [Instr.sliceBounds, run_sliceBound _ (show (0 : Int) ≤ j by omega) (show j ≤ (cap : Int) by omega)]
  · simp [Instr.sliceBounds, run_sliceBound _ (show (0 : Int) ≤ j by omega) (show j ≤ (cap : Int) by omega), run_sliceBound _ h0 (show i ≤ (j.toNat : Int) by omega)]

section
variable {P : Program} {T : Tab} {X : Ctx P T} {n : Nat} {e : Env} {fr : Nat → Prop} {s : List (Nat × AV)} {c : List Ch} {a : Act} {w : World}

theorem field_of (hT : TabOK P T) {t f sz bt off ft : Nat} {ag : Bool} {z : List Value} {fs : List (Nat × Nat)} {ti : TI} (h : T t = some ⟨sz, bt, ag, z, .struct fs⟩) (hf : fs[f]? = some (off, ft)) (ht : T ft = some ti) :
    ∃ fields fl pi, P.underlying t = some (.struct fields) ∧ fields[f]? = some fl ∧ fl.offset = off ∧ fl.type = ft ∧ P.info? ft = some pi ∧ pi.size = ti.size := by
  obtain ⟨d, e1, fields, rfl, e4⟩ := hT.und h
  rw [← e4] at hf
  simp only [List.getElem?_map, Array.getElem?_toList, Option.map_eq_some_iff, Prod.mk.injEq] at hf
  obtain ⟨fl, g1, g2, g3⟩ := hf
  obtain ⟨pi, z, h1, h2, _⟩ := (hT _ _ ht).info
  exact ⟨fields, fl, pi, e1, g1, g2, g3, h1, h2⟩

theorem val_sound (r : Rel X n e fr s c a w) {o : Oper} {g : Prop} {av : AV} (h : val T s c o.op = some (g, av)) (hg : g) : ∃ v, Rep av e v ∧ (execOp a.eval o).run P w = .ok (.value v) w := by
  have hT := X.ok
  obtain ⟨dst, op, ty, pos, aft, gd⟩ := o
  simp only at h
  cases op with
  | move x =>
    simp only [val] at h
    split at h <;> cases h
    rename_i hx
    exact ⟨_, opd_sound r hx, rfl⟩
  | assign x =>
    simp only [val] at h
    split at h <;> cases h
    rename_i hx
    exact ⟨_, opd_sound r hx, rfl⟩
  | pick q x y =>
    simp only [val] at h
    split at h <;> cases h
    · rename_i hc hx
      have := opd_sound r hc
      simp only [Rep] at this
      exact ⟨_, opd_sound r hx, by simp [execOp, this, asBool]⟩
    · rename_i hc hx
      have := opd_sound r hc
      simp only [Rep] at this
      exact ⟨_, opd_sound r hx, by simp [execOp, this, asBool]⟩
  | binOp op t x y u =>
    simp only [val] at h
    split at h
    · rename_i p q hx hy
      obtain ⟨z, h1, h2⟩ := bin_sound (w := w) hT (opd_sound r hx) (opd_sound r hy) h hg x y
      exact ⟨z, h1, by simp only [execOp]; rw [Sem.run_bind, h2]; rfl⟩
    · cases h
  | unOp op t x =>
    simp only [val] at h
    split at h <;> cases h <;> rename_i hx <;> have := opd_sound r hx <;> simp only [Rep] at this <;> exact ⟨_, by simp only [Rep]; rfl, by simp only [execOp, this]; rfl⟩
  | convert src dst x =>
    simp only [val] at h
    split at h
    · rename_i i1 s b ag z k k' m h1 h2 h3
      cases h
      have := opd_sound r h3
      simp only [Rep] at this
      obtain ⟨d1, e1, _⟩ := hT.und h1
      obtain ⟨d2, e2, e3⟩ := hT.und h2
      simp only [TDOK] at e3
      subst e3
      refine ⟨.int k (k.wrap m), by simp only [Rep], ?_⟩
      simp only [execOp, this, Go.convert, Sem.run_bind, run_underlying e1, run_underlying e2, Result.andThen_ok]
      rfl
    · rename_i l h1 h2 h3
      cases h
      have := opd_sound r h3
      simp only [Rep] at this
      obtain ⟨d1, e1, e4⟩ := hT.und h1
      obtain ⟨d2, e2, e3⟩ := hT.und h2
      simp only [TDOK] at e3 e4
      subst e3 e4
      refine ⟨S l, by simp only [Rep], ?_⟩
      simp only [execOp, this, Go.convert, Sem.run_bind, run_underlying e1, run_underlying e2, Result.andThen_ok]
      rfl
    · cases h
  | fieldAddr t x f =>
    simp only [val] at h
    split at h
    · rename_i s b ag z fs hTt
      split at h
      · rename_i off ft hf
        have key : ∀ {ti : TI} {q : Nat} b o, T ft = some ti → ti.size = q + 1 → a.eval x = .pointer (some ⟨b, o, none⟩) →
            (execOp a.eval ⟨dst, .fieldAddr t x f, ty, pos, aft, gd⟩).run P w = .ok (.value (.pointer (some ⟨b, o + off, none⟩))) w := by
          intro ti q b o hti hq hx
          obtain ⟨fields, fl, pi, e1, g1, g2, g3, g5, g6⟩ := field_of hT hTt hf hti
          simp only [execOp, hx, Instr.fieldAt, Sem.run_bind, run_underlying e1, Result.andThen_ok, g1, Instr.sureAddr, Sem.run_pure, fieldPlace, sizeOf, typeInfo, run_program, g3, g5, g6, hq]
          simp [g2, add_addr]
        split at h
        · rename_i hti hx
          cases h
          have := opd_sound r hx
          simp only [Rep] at this
          obtain ⟨b, β, κ, h1, h2⟩ := this
          exact ⟨_, by simp only [Rep]; exact ⟨b, β, κ, h1, rfl⟩, by rw [← Nat.add_assoc]; exact key _ _ hti rfl h2⟩
        · rename_i hti hx
          rw [normG_eq] at h
          cases h
          have := opd_sound r hx
          simp only [Rep] at this
          obtain ⟨b, o, h1, h2⟩ := this
          exact ⟨_, by simp only [Rep]; exact ⟨b, o + off, rfl, h2.drop off⟩, key _ _ hti rfl h1⟩
        · rename_i hti hx
          cases h
          have := opd_sound r hx
          simp only [Rep] at this
          obtain ⟨b, β, κ, h1, h2⟩ := this
          exact ⟨_, by simp only [Rep]; exact ⟨b, β, κ, h1, rfl⟩, by rw [← Nat.add_assoc]; exact key _ _ hti rfl h2⟩
        · rename_i hti hx
          cases h
          have := opd_sound r hx
          simp only [Rep] at this
          exact ⟨_, by simp only [Rep], key _ _ hti rfl this⟩
        · cases h
      · cases h
    · cases h
  | field t x f =>
    simp only [val] at h
    split at h
    · rename_i s b ag z fs hTt
      split at h
      · rename_i off ft cells hf hx
        split at h
        · rename_i ti hti
          split at h
          · rename_i y hl
            cases h
            obtain ⟨fields, fl, pi, e1, g1, g2, g3, g5, g6⟩ := field_of hT hTt hf hti
            have h1 := opd_sound r hx
            simp only [Rep] at h1
            obtain ⟨ys, h1, h2⟩ := h1
            unfold loadA at hl
            split at hl
            · rename_i hag
              split at hl
              · rename_i hle
                rw [normG_eq] at hl
                cases hl
                have hle := Nat.le_of_ble_eq_true hle
                refine ⟨.agg ((ys.toList.drop off).take ti.size).toArray, by simp only [Rep]; exact ⟨_, rfl, by simpa using (h2.drop off).take ti.size⟩, ?_⟩
                have hlen := h2.len
                simp only [List.length_drop] at hle
                have hex : ys.extract off (off + ti.size) = ((ys.toList.drop off).take ti.size).toArray := by
                  apply Array.ext'; simp [Array.toList_extract, List.extract_eq_take_drop]
                simp only [execOp, h1, Instr.field, Sem.run_bind, run_underlying e1, Result.andThen_ok, g1, asAgg, part, Sem.run_pure, g3, hT.isAgg hti, hag, if_true, hT.size hti, g2]
                simp [hex]
              · cases hl
            · rename_i hag
              split at hl
              · rename_i y' cs hd
                cases hl
                obtain ⟨z, z1, z2, z3⟩ := (h2.drop off).get 0 _ (by rw [hd]; rfl)
                have z1' : ys[off]? = some z := by simpa using z1
                refine ⟨z, z2, ?_⟩
                simp only [execOp, h1, Instr.field, Sem.run_bind, run_underlying e1, Result.andThen_ok, g1, asAgg, part, Sem.run_pure, g3, hT.isAgg hti, hag, Bool.false_eq_true, if_false, g2, z1']
              · cases hl
          · cases h
        · cases h
      · cases h
    · cases h
  | load t x =>
    simp only [val] at h
    split at h
    · rename_i ti hTt
      have key : ∀ {b o : Nat} {cells : List AV} {y : AV}, a.eval x = .pointer (some ⟨b, o, none⟩) → Readable e w b o cells → loadA ti cells = some y → ∃ v, Rep y e v ∧ (execOp a.eval ⟨dst, .load t x, ty, pos, aft, gd⟩).run P w = .ok (.value v) w := by
        intro b o cells y hx hr hl
        obtain ⟨v, h1, h2⟩ := load_sound hT hTt hr hl
        exact ⟨v, h1, by simp only [execOp, hx, Instr.loadAt, Instr.sureAddr, Sem.run_bind, Sem.run_pure, Result.andThen_ok, h2]⟩
      split at h
      · rename_i k o hx
        split at h
        · rename_i k' cells hk
          split at h <;> cases h
          rename_i y hl
          obtain ⟨⟨F, ⟨b, β, κ, h1, _, h2⟩, _⟩, rfl⟩ := r.mem.get hk
          have := opd_sound r hx
          simp only [Rep] at this
          obtain ⟨b', β', κ', h3, h4⟩ := this
          rw [show Ch.id (.box k' cells) = k' from rfl, h1] at h3
          cases h3
          exact key h4 (h2.readable.drop o) hl
        · cases h
      · rename_i k esz i j hx
        split at h
        · rename_i k' esz' m row hk
          split at h
          · rename_i y hq hl
            cases h
            cases Nat.eq_of_beq_eq_true hq
            obtain ⟨⟨F, ⟨b, β, κ, h1, _, _, _, _, h2⟩, _⟩, rfl⟩ := r.mem.get hk
            have := opd_sound r hx
            simp only [Rep] at this
            obtain ⟨b', β', κ', h3, h4⟩ := this
            rw [show Ch.id (.vec k' esz m row) = k' from rfl, h1] at h3
            cases h3
            obtain ⟨v, v1, v2⟩ := load_sound (w := w) hT hTt ((h2 i hg).2.readable.drop j) hl
            exact ⟨v, v1.ofBare, by simp only [execOp, h4, Instr.loadAt, Instr.sureAddr, Sem.run_bind, Sem.run_pure, Result.andThen_ok, v2]⟩
          · cases h
        · cases h
      · rename_i cells hx
        split at h <;> cases h
        rename_i y hl
        have := opd_sound r hx
        simp only [Rep] at this
        obtain ⟨b, o, h1, h2⟩ := this
        refine key h1 (fun j q hq => ?_) hl
        obtain ⟨z, z1, z2, z3⟩ := h2.get j q hq
        exact ⟨z, r.mem.im _ _ _ z1, z2.ofBare, z3⟩
      · cases h
    · cases h
  | extract x i =>
    simp only [val] at h
    split at h
    · rename_i cs hx
      split at h <;> cases h
      rename_i y hy
      have := opd_sound r hx
      simp only [Rep] at this
      obtain ⟨ys, h1, h2⟩ := this
      obtain ⟨z, z1, z2⟩ := h2.get i _ hy
      have z1' : ys[i]? = some z := by simpa using z1
      exact ⟨z, z2, by simp [execOp, h1, Instr.extract, z1']⟩
    · cases h
  | nilCheck x =>
    simp only [val] at h
    split at h <;> cases h <;> rename_i hx <;> have h0 := opd_sound r hx <;> have h1 := h0 <;> simp only [Rep] at h1
    · obtain ⟨b, β, κ, q, h2⟩ := h1; exact ⟨_, h0, by simp only [execOp, h2]; rfl⟩
    · obtain ⟨b, β, κ, q, h2⟩ := h1; exact ⟨_, h0, by simp only [execOp, h2]; rfl⟩
    · exact ⟨_, h0, by simp only [execOp, h1]; rfl⟩
    · obtain ⟨b, o, h2, q⟩ := h1; exact ⟨_, h0, by simp only [execOp, h2]; rfl⟩
  | makeInterface t x =>
    simp only [val] at h
    split at h <;> cases h <;> rename_i h1 hx <;> obtain ⟨d, e4, e5⟩ := hT.und h1 <;> simp only [TDOK] at e5 <;> refine ⟨.iface t (a.eval x), by simp only [Rep]; exact ⟨_, rfl, opd_sound r hx⟩, ?_⟩
    · obtain ⟨fields, rfl, _⟩ := e5
      simp [execOp, Instr.makeInterface, run_underlying e4]
    · obtain ⟨el, rfl⟩ := e5
      simp [execOp, Instr.makeInterface, run_underlying e4]
    · subst e5
      simp [execOp, Instr.makeInterface, run_underlying e4]
  | indexAddr t x i =>
    simp only [val] at h
    split at h
    · rename_i el m esz row i' h1 h2 h3
      split at h
      · rename_i ti h4
        split at h <;> cases h
        rename_i h5
        cases Nat.eq_of_beq_eq_true h5
        obtain ⟨k, hk⟩ := intOpd_sound r h3
        have hx := opd_sound r h2
        simp only [Rep] at hx
        obtain ⟨aa, c, e1, e2, e3⟩ := hx
        obtain ⟨d, e4, e5⟩ := hT.und h1
        simp only [TDOK] at e5
        subst e5
        rcases e3 with e3 | ⟨b, o, rfl, e3⟩
        · omega
        · refine ⟨.pointer (some ⟨b, o + i'.toNat * ti.size, none⟩), by simp only [Rep]; exact ⟨b, _, rfl, e3 i'.toNat (by omega)⟩, ?_⟩
          simp only [execOp, e1, hk, Instr.indexAt, asIntOf, Sem.run_bind, Sem.run_pure, Result.andThen_ok, run_underlying e4, hT.size h4]
          simp [run_underlying e4, hg, hT.size h4, add_addr]
      · cases h
    · rename_i el k esz i0 m i' h1 h2 h3
      split at h
      · rename_i ti h4
        split at h <;> cases h
        rename_i h5
        cases Nat.eq_of_beq_eq_true h5
        obtain ⟨kk, hk⟩ := intOpd_sound r h3
        have hx := opd_sound r h2
        simp only [Rep] at hx
        obtain ⟨b, β, κ, aa, e1, e2, e3, e6⟩ := hx
        rw [e6 (by omega)] at e3
        obtain ⟨d, e4, e5⟩ := hT.und h1
        simp only [TDOK] at e5
        subst e5
        refine ⟨.pointer (some ⟨b, β + i0 * ti.size + i'.toNat * ti.size, none⟩), by simp only [Rep]; exact ⟨b, β, κ, e1, by rw [Nat.add_mul]; simp [Nat.add_assoc]⟩, ?_⟩
        simp only [execOp, e3, hk, Instr.indexAt, asIntOf, Sem.run_bind, Sem.run_pure, Result.andThen_ok, run_underlying e4, hT.size h4]
        simp [run_underlying e4, hg, hT.size h4, add_addr]
      · cases h
    · rename_i len el k o i' h1 h2 h3
      split at h <;> cases h
      rename_i ti h4
      obtain ⟨kk, hk⟩ := intOpd_sound r h3
      have hx := opd_sound r h2
      simp only [Rep] at hx
      obtain ⟨b, β, κ, e1, e3⟩ := hx
      obtain ⟨d, e4, e5⟩ := hT.und h1
      simp only [TDOK] at e5
      subst e5
      refine ⟨.pointer (some ⟨b, β + o + i'.toNat * ti.size, none⟩), by simp only [Rep]; exact ⟨b, β, κ, e1, by rw [Nat.add_assoc]⟩, ?_⟩
      simp only [execOp, e3, hk, Instr.indexAt, asIntOf, Instr.sureAddr, Sem.run_bind, Sem.run_pure, Result.andThen_ok, run_underlying e4, hT.size h4]
      simp [run_underlying e4, hg, hT.size h4, add_addr]
    · rename_i len el cells i' h1 h2 h3
      split at h <;> cases h
      rename_i ti h4
      obtain ⟨kk, hk⟩ := intOpd_sound r h3
      have hx := opd_sound r h2
      simp only [Rep] at hx
      obtain ⟨b, o, e3, e1⟩ := hx
      obtain ⟨d, e4, e5⟩ := hT.und h1
      simp only [TDOK] at e5
      subst e5
      refine ⟨.pointer (some ⟨b, o + i'.toNat * ti.size, none⟩), by simp only [Rep]; exact ⟨b, _, rfl, e1.drop _⟩, ?_⟩
      simp only [execOp, e3, hk, Instr.indexAt, asIntOf, Instr.sureAddr, Sem.run_bind, Sem.run_pure, Result.andThen_ok, run_underlying e4, hT.size h4]
      simp [run_underlying e4, hg, hT.size h4, add_addr]
    · rename_i len el b o i' h1 h2 h3
      split at h <;> cases h
      rename_i ti h4
      obtain ⟨kk, hk⟩ := intOpd_sound r h3
      have hx := opd_sound r h2
      simp only [Rep] at hx
      obtain ⟨d, e4, e5⟩ := hT.und h1
      simp only [TDOK] at e5
      subst e5
      refine ⟨.pointer (some ⟨b, o + i'.toNat * ti.size, none⟩), by simp only [Rep], ?_⟩
      simp only [execOp, hx, hk, Instr.indexAt, asIntOf, Instr.sureAddr, Sem.run_bind, Sem.run_pure, Result.andThen_ok, run_underlying e4, hT.size h4]
      simp [run_underlying e4, hg, hT.size h4, add_addr]
    · cases h
  | index t x i =>
    simp only [val] at h
    split at h <;> cases h
    rename_i l i' h1 h2 h3
    obtain ⟨k, hk⟩ := intOpd_sound r h3
    have hx := opd_sound r h2
    simp only [Rep, S] at hx
    obtain ⟨d, e4, e5⟩ := hT.und h1
    simp only [TDOK] at e5
    subst e5
    have hlt : i'.toNat < l.length := by omega
    have hq : (ByteArray.mk l.toArray)[i'.toNat]? = some (l.getD i'.toNat 0) := by
      rw [getElem?_pos _ _ (by rw [len_S]; exact hlt)]
      simp [List.getD, List.getElem?_eq_getElem hlt]
      rfl
    refine ⟨.int .u8 (l.getD i'.toNat 0).toNat, by simp only [Rep], ?_⟩
    simp only [execOp, hx, hk, Instr.index, asIntOf, Sem.run_bind, Sem.run_pure, Result.andThen_ok, run_underlying e4]
    simp [hg.1, hq]
  | slice t x lo hi mx =>
    cases mx with
    | some m => simp [val] at h
    | none =>
    simp only [val] at h
    have hlo : ∀ i, (match lo with | none => some 0 | some q => intOpd s q) = some i → (lo.map a.eval = none ∧ i = 0) ∨ ∃ k, lo.map a.eval = some (.int k i) := by
      intro i hi
      cases lo with
      | none => cases hi; exact .inl ⟨rfl, rfl⟩
      | some q => obtain ⟨k, hk⟩ := intOpd_sound r hi; exact .inr ⟨k, by simp [hk]⟩
    have hhi : ∀ j, (match hi with | none => some none | some q => (match intOpd s q with | some j => some (some j) | none => none)) = some j → (hi.map a.eval = none ∧ j = none) ∨ ∃ k i, j = some i ∧ hi.map a.eval = some (.int k i) := by
      intro j hj
      cases hi with
      | none => cases hj; exact .inl ⟨rfl, rfl⟩
      | some q =>
        simp only at hj
        split at hj <;> cases hj
        rename_i i hi
        obtain ⟨k, hk⟩ := intOpd_sound r hi
        exact .inr ⟨k, i, rfl, by simp [hk]⟩
    have strk : ∀ {sz by_ : Nat} {ag : Bool} {z : List Value} (l : List UInt8) (i j : Int), T t = some ⟨sz, by_, ag, z, .str⟩ → a.eval x = S l → 0 ≤ i → i ≤ j → j ≤ l.length →
        ((lo.map a.eval = none ∧ i = 0) ∨ ∃ k, lo.map a.eval = some (.int k i)) → ((hi.map a.eval = none ∧ j = l.length) ∨ ∃ k, hi.map a.eval = some (.int k j)) →
        (execOp a.eval ⟨dst, .slice t x lo hi none, ty, pos, aft, gd⟩).run P w = .ok (.value (S ((l.drop i.toNat).take (j.toNat - i.toNat)))) w := by
      intro sz by_ ag z l i j h1 h2 h3 h4 h5 h6 h7
      obtain ⟨d, e4, e5⟩ := hT.und h1
      simp only [TDOK] at e5
      subst e5
      have hb := run_bounds (P := P) (w := w) false l.length l.length _ _ i j h3 h4 h5 (Nat.le_refl _) h6 h7
      simp only [execOp, h2, S, Instr.sliceAt, Instr.slice, Sem.run_bind, run_underlying e4, Result.andThen_ok]
      simp [run_underlying e4, len_S, hb, extract_S]
    have slk : ∀ {sz by_ el : Nat} {ag : Bool} {z : List Value} {ti : TI} (aa : Option Addr) (m cc : Nat) (i j : Int), T t = some ⟨sz, by_, ag, z, .slice el⟩ → T el = some ti → a.eval x = .slice aa m cc → m ≤ cc → 0 ≤ i → i ≤ j → j ≤ m →
        ((lo.map a.eval = none ∧ i = 0) ∨ ∃ k, lo.map a.eval = some (.int k i)) → ((hi.map a.eval = none ∧ j = m) ∨ ∃ k, hi.map a.eval = some (.int k j)) →
        (execOp a.eval ⟨dst, .slice t x lo hi none, ty, pos, aft, gd⟩).run P w = .ok (.value (.slice (if cc = i.toNat then aa else aa.map (·.add (i.toNat * ti.size))) (j.toNat - i.toNat) (cc - i.toNat))) w := by
      intro sz by_ el ag z ti aa m cc i j h1 ht h2 hmc h3 h4 h5 h6 h7
      obtain ⟨d, e4, e5⟩ := hT.und h1
      simp only [TDOK] at e5
      subst e5
      have hb := run_bounds (P := P) (w := w) true m cc _ _ i j h3 h4 h5 hmc h6 h7
      simp only [execOp, h2, Instr.sliceAt, Instr.slice, Sem.run_bind, run_underlying e4, Result.andThen_ok]
      simp [run_underlying e4, hb, X.ok.size ht]
    have slI : ∀ {sz by_ el : Nat} {ag : Bool} {z : List Value} {ti : TI} (m esz : Nat) (row : Nat → List AV) (i j : Int), T t = some ⟨sz, by_, ag, z, .slice el⟩ → T el = some ti → ti.size = esz → Rep (.sl m esz row) e (a.eval x) → 0 ≤ i → i ≤ j → j ≤ m →
        ((lo.map a.eval = none ∧ i = 0) ∨ ∃ k, lo.map a.eval = some (.int k i)) → ((hi.map a.eval = none ∧ j = m) ∨ ∃ k, hi.map a.eval = some (.int k j)) →
        ∃ v, Rep (.sl (j.toNat - i.toNat) esz (fun q => row (i.toNat + q))) e v ∧ (execOp a.eval ⟨dst, .slice t x lo hi none, ty, pos, aft, gd⟩).run P w = .ok (.value v) w := by
      intro sz by_ el ag z ti m esz row i j h1 ht h1' h2 h3 h4 h5 h6 h7
      simp only [Rep] at h2
      obtain ⟨aa, c, e1, e2, e3⟩ := h2
      refine ⟨_, ?_, slk aa m c i j h1 ht e1 e2 h3 h4 h5 h6 h7⟩
      simp only [Rep]
      refine ⟨_, _, rfl, by omega, ?_⟩
      by_cases hz : j.toNat - i.toNat = 0
      · exact .inl hz
      · refine .inr ?_
        rcases e3 with e3 | ⟨b, o, rfl, e3⟩
        · omega
        · rw [if_neg (by omega)]
          refine ⟨b, o + i.toNat * ti.size, by simp [add_addr], fun q hq => ?_⟩
          have := e3 (i.toNat + q) (by omega)
          rw [h1']
          rwa [Nat.add_mul, ← Nat.add_assoc] at this
    have slO : ∀ {sz by_ el : Nat} {ag : Bool} {z : List Value} {ti : TI} (k esz i0 m : Nat) (i j : Int), T t = some ⟨sz, by_, ag, z, .slice el⟩ → T el = some ti → ti.size = esz → Rep (.own k esz i0 m) e (a.eval x) → 0 ≤ i → i ≤ j → j ≤ m →
        ((lo.map a.eval = none ∧ i = 0) ∨ ∃ k, lo.map a.eval = some (.int k i)) → ((hi.map a.eval = none ∧ j = m) ∨ ∃ k, hi.map a.eval = some (.int k j)) →
        ∃ v, Rep (.own k esz (i0 + i.toNat) (j.toNat - i.toNat)) e v ∧ (execOp a.eval ⟨dst, .slice t x lo hi none, ty, pos, aft, gd⟩).run P w = .ok (.value v) w := by
      intro sz by_ el ag z ti k esz i0 m i j h1 ht h1' h2 h3 h4 h5 h6 h7
      simp only [Rep] at h2
      obtain ⟨b, β, κ, aa, e1, e2, e3, e6⟩ := h2
      refine ⟨_, ?_, slk aa m (κ - i0) i j h1 ht e3 (by omega) h3 h4 h5 h6 h7⟩
      simp only [Rep]
      refine ⟨b, β, κ, _, e1, by omega, by rw [Nat.sub_sub], fun hlt => ?_⟩
      rw [if_neg (by omega), e6 (by omega), ← h1']
      simp only [Option.map_some, add_addr]
      rw [Nat.add_mul, ← Nat.add_assoc]
    split at h
    · rename_i l i h1 h2 hl hh
      cases h
      have hx := opd_sound r h2
      simp only [Rep] at hx
      have := strk l i l.length h1 hx (by omega) (by omega) (by omega) (hlo _ hl) ((hhi _ hh).elim (fun q => .inl ⟨q.1, rfl⟩) (fun ⟨_, _, q, _⟩ => by cases q))
      refine ⟨_, ?_, this⟩
      simp only [Rep]
      congr 1
      rw [List.take_of_length_le (by simp)]
    · rename_i l i j h1 h2 hl hh
      cases h
      have hx := opd_sound r h2
      simp only [Rep] at hx
      have := strk l i j h1 hx (by omega) (by omega) (by omega) (hlo _ hl) ((hhi _ hh).elim (fun q => by cases q.2) (fun ⟨k, _, q, q2⟩ => by cases q; exact .inr ⟨k, q2⟩))
      exact ⟨_, by simp only [Rep], this⟩
    · rename_i el m esz row i h1 h2 hl hh
      split at h
      · rename_i ti hti
        split at h <;> cases h
        rename_i hq
        have := slI m esz row i m h1 hti (Nat.eq_of_beq_eq_true hq) (opd_sound r h2) (by omega) (by omega) (by omega) (hlo _ hl) ((hhi _ hh).elim (fun q => .inl ⟨q.1, rfl⟩) (fun ⟨_, _, q, _⟩ => by cases q))
        simpa using this
      · cases h
    · rename_i el m esz row i j h1 h2 hl hh
      split at h
      · rename_i ti hti
        split at h <;> cases h
        rename_i hq
        exact slI m esz row i j h1 hti (Nat.eq_of_beq_eq_true hq) (opd_sound r h2) (by omega) (by omega) (by omega) (hlo _ hl) ((hhi _ hh).elim (fun q => by cases q.2) (fun ⟨k, _, q, q2⟩ => by cases q; exact .inr ⟨k, q2⟩))
      · cases h
    · rename_i el k esz i0 m i h1 h2 hl hh
      split at h
      · rename_i ti hti
        split at h <;> cases h
        rename_i hq
        have := slO k esz i0 m i m h1 hti (Nat.eq_of_beq_eq_true hq) (opd_sound r h2) (by omega) (by omega) (by omega) (hlo _ hl) ((hhi _ hh).elim (fun q => .inl ⟨q.1, rfl⟩) (fun ⟨_, _, q, _⟩ => by cases q))
        simpa using this
      · cases h
    · rename_i el k esz i0 m i j h1 h2 hl hh
      split at h
      · rename_i ti hti
        split at h <;> cases h
        rename_i hq
        exact slO k esz i0 m i j h1 hti (Nat.eq_of_beq_eq_true hq) (opd_sound r h2) (by omega) (by omega) (by omega) (hlo _ hl) ((hhi _ hh).elim (fun q => by cases q.2) (fun ⟨k, _, q, q2⟩ => by cases q; exact .inr ⟨k, q2⟩))
      · cases h
    · cases h
  | call cl =>
    obtain ⟨callee, args, tys⟩ := cl
    cases callee with
    | value f => simp [val] at h
    | invoke f m => simp [val] at h
    | builtin b =>
      simp only [val] at h
      split at h
      · rename_i x t hA hTy
        have hA' : args = #[x] := by cases args; simpa using hA
        have hTy' : tys = #[t] := by cases tys; simpa using hTy
        subst hA' hTy'
        split at h <;> cases h
        · rename_i l h1 h2
          have hx := opd_sound r h2
          simp only [Rep, S] at hx
          obtain ⟨d, e4, e5⟩ := hT.und h1
          simp only [TDOK] at e5
          subst e5
          exact ⟨_, by simp only [Rep]; rfl, by simp [execOp, resolve, invoke, builtin, Builtin.len_, hx, run_underlying e4, goInt, len_S]⟩
        · rename_i m esz row h1 h2
          have hx := opd_sound r h2
          simp only [Rep] at hx
          obtain ⟨aa, c, hx, _⟩ := hx
          obtain ⟨d, e4, e5⟩ := hT.und h1
          simp only [TDOK] at e5
          subst e5
          exact ⟨_, by simp only [Rep]; rfl, by simp [execOp, resolve, invoke, builtin, Builtin.len_, hx, run_underlying e4, goInt]⟩
        · rename_i k esz i0 m h1 h2
          have hx := opd_sound r h2
          simp only [Rep] at hx
          obtain ⟨b, β, κ, aa, _, _, hx, _⟩ := hx
          obtain ⟨d, e4, e5⟩ := hT.und h1
          simp only [TDOK] at e5
          subst e5
          exact ⟨_, by simp only [Rep]; rfl, by simp [execOp, resolve, invoke, builtin, Builtin.len_, hx, run_underlying e4, goInt]⟩
        · rename_i aa m cc h1 h2
          have hx := opd_sound r h2
          simp only [Rep] at hx
          obtain ⟨d, e4, e5⟩ := hT.und h1
          simp only [TDOK] at e5
          subst e5
          exact ⟨_, by simp only [Rep]; rfl, by simp [execOp, resolve, invoke, builtin, Builtin.len_, hx, run_underlying e4, goInt]⟩
      · rename_i x y hA
        have hA' : args = #[x, y] := by cases args; simpa using hA
        subst hA'
        split at h <;> cases h
        rename_i k p k' q h1 h2
        have e1 := opd_sound r h1
        have e2 := opd_sound r h2
        simp only [Rep] at e1 e2
        have : (if q < p then q else p) = min p q := by simp only [Int.min_def]; split <;> split <;> omega
        exact ⟨.int k (min p q), by simp only [Rep], by simp [execOp, resolve, invoke, builtin, Builtin.min_, Builtin.min2, e1, e2, this]⟩
      · rename_i x y hA
        have hA' : args = #[x, y] := by cases args; simpa using hA
        subst hA'
        split at h <;> cases h
        rename_i k p k' q h1 h2
        have e1 := opd_sound r h1
        have e2 := opd_sound r h2
        simp only [Rep] at e1 e2
        have : (if q > p then q else p) = max p q := by simp only [Int.max_def]; split <;> split <;> omega
        exact ⟨.int k (max p q), by simp only [Rep], by simp [execOp, resolve, invoke, builtin, Builtin.max_, Builtin.max2, e1, e2, this]⟩
      · cases h
  | makeFunc fn first caps =>
    simp only [val] at h
    split at h <;> cases h
    rename_i f cs h1 h2
    refine ⟨.func fn (first.map a.eval) (caps.map a.eval), ?_, ?_⟩
    · simp only [Rep]
      exact ⟨_, _, rfl, by simpa using opds_sound r h1, by simpa using opds_sound r h2⟩
    · simp [execOp, Instr.makeFunc]
  | _ => simp [val] at h
end
end Go.E

/- The walk anew, part 6: operations as local steps; regions, in whatever order. -/
set_option linter.unusedSimpArgs false
set_option linter.unusedVariables false
namespace Go.E
open Go.RowKit

def putS (d : Option Nat) (x : AV) (s : List (Nat × AV)) : List (Nat × AV) :=
  match d with
  | none => s
  | some d => (d, x) :: s
theorem get_putS {d : Option Nat} {x : AV} {s : List (Nat × AV)} {i : Nat} : get (putS d x s) i = if d = some i then some x else get s i := by
  cases d with
  | none => simp [putS]
  | some d => simp only [putS, get_cons, Option.some.injEq]

structure St where
  s : List (Nat × AV)
  c : List Ch
  N : List Nat

/-- Ends at which a panic may stand that the context lets be. -/
def QX {P : Program} {T : Tab} (X : Ctx P T) : Type := { Q : Exit → Act → World → Prop // ∀ ch a w, a.defers = X.dfr → X.pan ch a w → Q (.panic ch) a w }

def opWp (P : Program) (ops : Array Oper) (Q : Exit → Act → World → Prop) (o : Oper) (K : Act → World → Prop) (a : Act) (w : World) : Prop :=
  if Region.wanted o (yielded ops a.tmps) then o.wp P a w K Q ∨ (o.asks P a w ∧ LetsOut Q) else K (a.put o.dst undef) w

section
variable {P : Program} {T : Tab} {X : Ctx P T} {n : Nat} {e : Env} {fr : Nat → Prop} {s : List (Nat × AV)} {c : List Ch} {a : Act} {w : World} {ops : Array Oper}

theorem Rel.put (r : Rel X n e fr s c a w) {d : Option Nat} {x : AV} {v : Value} (hd : ∀ q, d = some q → q < n) (hv : Rep x e v) : Rel X n e fr (putS d x s) c (a.put d v) w := by
  cases d with
  | none => exact r
  | some d =>
    refine ⟨r.defers, by simp [Act.put, r.size], fun i y hy => ?_, r.mem⟩
    have hd := hd d rfl
    rw [get_putS] at hy
    by_cases h : d = i
    · subst h
      simp only [if_true, Option.some.injEq] at hy
      subst hy
      exact ⟨v, by simp [Act.put, r.size, hd], hv⟩
    · rw [if_neg (by simpa using h)] at hy
      obtain ⟨u, h1, h2⟩ := r.slots i y hy
      exact ⟨u, by simp only [Act.put]; rw [Array.getElem?_setIfInBounds_ne h]; exact h1, h2⟩
/-- Fewer things known; objects in another order, or dropped. -/
theorem Rel.less (r : Rel X n e fr s c a w) {s' : List (Nat × AV)} {c' u : List Ch} (hs : ∀ i x, get s' i = some x → get s i = some x) (hc : c.Perm (u ++ c')) : Rel X n e fr s' c' a w :=
  ⟨r.defers, r.size, fun i x h => r.slots i x (hs i x h), (r.mem.perm hc).drop⟩
theorem Rel.perm (r : Rel X n e fr s c a w) {c' : List Ch} (hc : c.Perm c') : Rel X n e fr s c' a w := ⟨r.defers, r.size, r.slots, r.mem.perm hc⟩
theorem Rel.fr_le (r : Rel X n e fr s c a w) {fr' : Nat → Prop} (h : ∀ k, fr' k → fr k) : Rel X n e fr' s c a w := ⟨r.defers, r.size, r.slots, r.mem.fr_le h⟩
end

/-- One operation, as a local step: what it reads of the frame, which objects it uses and leaves alone, which it turns, into which; the names of new ones; what it gives. -/
structure R1 where
  o : Oper
  rd : List (Nat × AV)
  ro : List Ch
  us : List Ch
  vs : List Ch
  ns : List Nat
  x : AV

def LocOK {P : Program} {T : Tab} (X : Ctx P T) (n : Nat) (ops : Array Oper) (r : R1) : Prop :=
  ∀ (e : Env) (fr : Nat → Prop) (s : List (Nat × AV)) (c : List Ch) (a : Act) (w : World) (Q : QX X) (K : Act → World → Prop),
    Rel X n e fr s (r.ro ++ r.us ++ c) a w → (∀ p ∈ r.rd, get s p.1 = some p.2) → (∀ k ∈ r.ns, fr k) →
    (∀ e' a' w', Rel X n e' (fun k => fr k ∧ k ∉ r.ns) (putS r.o.dst r.x s) (r.ro ++ r.vs ++ c) a' w' → K a' w') → opWp P ops Q.1 r.o K a w

inductive Run {P : Program} {T : Tab} (X : Ctx P T) (n : Nat) (ops : Array Oper) : List (Nat × AV) → List Ch → List (Nat × R1) → List (Nat × AV) → List Ch → Prop
  | nil {s c} : Run X n ops s c [] s c
  | cons {s c c' cr i r l sf cf} : LocOK X n ops r → ops[i]? = some r.o → (∀ p ∈ r.rd, get s p.1 = some p.2) → c.Perm (r.ro ++ r.us ++ cr) → c'.Perm (r.ro ++ r.vs ++ cr) →
      Run X n ops (putS r.o.dst r.x s) c' l sf cf → Run X n ops s c ((i, r) :: l) sf cf

def idsC (l : List Ch) : List Nat := l.map Ch.id
def apartN (a b : List Nat) : Bool := a.all fun i => !(b.contains i)
/-- What an operation touches: the slot that it sets, those that it reads, objects that it turns, objects that it reads. -/
structure FP where
  dst : Option Nat
  rd : List Nat
  wr : List Nat
  ro : List Nat
def fpOf (r : R1) : FP := ⟨r.o.dst, r.rd.map (·.1), idsC r.us ++ idsC r.vs, idsC r.ro⟩
/-- May two operations change places? -/
def indep (a b : FP) : Bool :=
  (match a.dst with
    | none => true
    | some d => !(b.rd.contains d)) &&
  (match b.dst with
    | none => true
    | some d => !(a.rd.contains d)) &&
  (match a.dst, b.dst with
    | some d, some d' => !(Nat.beq d d')
    | _, _ => true) &&
  apartN (b.ro ++ b.wr) a.wr && apartN a.ro b.wr

theorem apartN_spec {a b : List Nat} (h : apartN a b = true) {i : Nat} (hi : i ∈ a) : i ∉ b := by
  have := List.all_eq_true.1 h i hi
  simpa using this

theorem cancel {A V C B : List Ch} (hd : ∀ x ∈ A, x ∉ V) (h : (A ++ B).Perm (V ++ C)) : ∃ D, C.Perm (A ++ D) ∧ B.Perm (V ++ D) := by
  induction A generalizing B C with
  | nil => exact ⟨C, .refl _, by simpa using h⟩
  | cons x A ih =>
    have hx : x ∈ V ++ C := h.mem_iff.1 (by simp)
    have hx : x ∈ C := (List.mem_append.1 hx).resolve_left (hd x (by simp))
    obtain ⟨C1, C2, rfl⟩ := List.append_of_mem hx
    have hp : (V ++ (C1 ++ x :: C2)).Perm (x :: (V ++ (C1 ++ C2))) := by
      rw [← List.append_assoc, ← List.append_assoc]; exact List.perm_middle
    obtain ⟨D, h1, h2⟩ := ih (C := C1 ++ C2) (fun y hy => hd y (by simp [hy])) ((List.perm_cons x).1 (h.trans hp))
    exact ⟨D, List.perm_middle.trans (h1.cons x), h2⟩

section
variable {P : Program} {T : Tab} {X : Ctx P T} {n : Nat} {ops : Array Oper}

/-- What is known in the one frame is known in the other. -/
def subG (s s' : List (Nat × AV)) : Prop := ∀ i x, get s i = some x → get s' i = some x
theorem subG.put {s s' : List (Nat × AV)} (h : subG s s') {d : Option Nat} {x : AV} : subG (putS d x s) (putS d x s') := fun i y hy => by
  rw [get_putS] at hy ⊢
  split at hy
  · rename_i hd; rw [if_pos hd]; exact hy
  · rename_i hd; rw [if_neg hd]; exact h i y hy
theorem Run.congr {s c l sf cf} (h : Run X n ops s c l sf cf) : ∀ {s' c'}, subG s s' → c'.Perm c → ∃ sf' cf', Run X n ops s' c' l sf' cf' ∧ subG sf sf' ∧ cf'.Perm cf := by
  induction h with
  | nil => exact fun {s' c'} hs hc => ⟨s', c', .nil, hs, hc⟩
  | cons h1 h2 h3 h4 h5 _ ih =>
    intro s' c' hs hc
    obtain ⟨sf', cf', k1, k2, k3⟩ := ih hs.put (.refl _)
    exact ⟨sf', cf', .cons h1 h2 (fun p hp => hs _ _ (h3 p hp)) (hc.trans h4) h5 k1, k2, k3⟩

theorem ids_not {A B : List Ch} {a b : List Nat} (h : apartN a b = true) (ha : ∀ x ∈ A, x.id ∈ a) (hb : ∀ x ∈ B, x.id ∈ b) : ∀ x ∈ A, x ∉ B :=
  fun x hx hn => apartN_spec h (ha x hx) (hb x hn)

theorem Run.swap {s c i a j b l sf cf} (h : Run X n ops s c ((i, a) :: (j, b) :: l) sf cf) (hi : indep (fpOf a) (fpOf b) = true) :
    ∃ sf' cf', Run X n ops s c ((j, b) :: (i, a) :: l) sf' cf' ∧ subG sf sf' ∧ cf'.Perm cf := by
  cases h with
  | cons a1 a2 a3 a4 a5 h =>
  cases h with
  | cons b1 b2 b3 b4 b5 h =>
  rename_i c1 ca c2 cb
  simp only [indep, fpOf, Bool.and_eq_true] at hi
  obtain ⟨⟨⟨⟨i1, i2⟩, i3⟩, i4⟩, i5⟩ := hi
  have m1 : ∀ x ∈ b.ro ++ b.us, x ∉ a.vs := ids_not i4 (fun x hx => by
    rcases List.mem_append.1 hx with h | h
    · exact List.mem_append.2 (.inl (List.mem_map.2 ⟨x, h, rfl⟩))
    · exact List.mem_append.2 (.inr (List.mem_append.2 (.inl (List.mem_map.2 ⟨x, h, rfl⟩))))) (fun x h => List.mem_append.2 (.inr (List.mem_map.2 ⟨x, h, rfl⟩)))
  have m2 : ∀ x ∈ a.ro, x ∉ b.us := ids_not i5 (fun x h => List.mem_map.2 ⟨x, h, rfl⟩) (fun x h => List.mem_append.2 (.inl (List.mem_map.2 ⟨x, h, rfl⟩)))
  classical
  have pc : ∀ {l1 l2 : List Ch}, (∀ x, l1.count x = l2.count x) → l1.Perm l2 := fun h => List.perm_iff_count.2 h
  have ce : ∀ {l1 l2 : List Ch}, l1.Perm l2 → ∀ x, l1.count x = l2.count x := fun h x => h.count_eq x
  have q4 := ce b4; have q5 := ce a5; have q6 := ce a4; have q7 := ce b5
  simp only [List.count_append] at q4 q5 q6 q7
  obtain ⟨d, d1, d2⟩ := cancel m1 (B := cb) (C := a.ro ++ ca) (pc fun x => by have := q4 x; have := q5 x; simp only [List.count_append]; omega)
  have f1 := ce d1; have f2 := ce d2
  simp only [List.count_append] at f1 f2
  obtain ⟨d', d3, d4⟩ := cancel m2 (B := ca) (C := b.ro ++ d) (pc fun x => by have := f1 x; simp only [List.count_append]; omega)
  have f3 := ce d3; have f4 := ce d4
  simp only [List.count_append] at f3 f4
  have p1 : c.Perm (b.ro ++ b.us ++ (a.us ++ d)) := pc fun x => by have := q6 x; have := f1 x; simp only [List.count_append]; omega
  have p2 : (b.ro ++ b.vs ++ (a.us ++ d)).Perm (a.ro ++ a.us ++ (b.vs ++ d')) := pc fun x => by have := f3 x; simp only [List.count_append]; omega
  have p3 : (a.ro ++ a.vs ++ (b.vs ++ d')).Perm c2 := pc fun x => by have := q7 x; have := f2 x; have := f3 x; simp only [List.count_append]; omega
  have hslot : ∀ q, get (putS a.o.dst a.x (putS b.o.dst b.x s)) q = get (putS b.o.dst b.x (putS a.o.dst a.x s)) q := by
    intro q
    simp only [get_putS]
    by_cases h1 : a.o.dst = some q <;> by_cases h2 : b.o.dst = some q <;> simp [h1, h2]
    rw [h1, h2] at i3; simp at i3
  obtain ⟨sf', cf', k1, k2, k3⟩ := h.congr (fun q x hx => by rw [hslot]; exact hx) p3
  refine ⟨sf', cf', .cons b1 b2 (fun p hp => ?_) p1 (.refl _) (.cons a1 a2 (fun p hp => ?_) p2 (.refl _) k1), k2, k3⟩
  · have := b3 p hp
    rw [get_putS] at this
    split at this
    · rename_i hd
      rw [hd] at i1
      exact absurd (List.mem_map.2 ⟨p, hp, rfl⟩ : p.1 ∈ b.rd.map (·.1)) (by simpa using i1)
    · exact this
  · rw [get_putS]
    split
    · rename_i hd
      rw [hd] at i2
      exact absurd (List.mem_map.2 ⟨p, hp, rfl⟩ : p.1 ∈ a.rd.map (·.1)) (by simpa using i2)
    · exact a3 p hp

/-- An operation that may change places with all that stand ahead of it may be done first. -/
theorem Run.front {j b B} : ∀ {A s c sf cf}, Run X n ops s c (A ++ (j, b) :: B) sf cf → (∀ p ∈ A, indep (fpOf p.2) (fpOf b) = true) →
    ∃ sf' cf', Run X n ops s c ((j, b) :: (A ++ B)) sf' cf' ∧ subG sf sf' ∧ cf'.Perm cf
  | [], s, c, sf, cf, h, _ => ⟨sf, cf, h, fun _ _ h => h, .refl _⟩
  | (i, a) :: A, s, c, sf, cf, h, hi => by
    cases h with
    | cons a1 a2 a3 a4 a5 h =>
    obtain ⟨sf', cf', k1, k2, k3⟩ := Run.front h (fun p hp => hi p (List.mem_cons_of_mem _ hp))
    obtain ⟨sf2, cf2, g1, g2, g3⟩ := (Run.cons a1 a2 a3 a4 a5 k1).swap (hi (i, a) (by simp))
    exact ⟨sf2, cf2, g1, fun q x hx => g2 q x (k2 q x hx), g3.trans k3⟩

/-- The names that operations make. -/
def nsL (l : List (Nat × R1)) : List Nat := l.flatMap (·.2.ns)

theorem Run.list {Q : QX X} {s c l sf cf} (h : Run X n ops s c l sf cf) : ∀ {e fr a w}, Rel X n e fr s c a w → (∀ k ∈ nsL l, fr k) → (nsL l).Nodup →
    (∀ e' a' w', Rel X n e' (fun k => fr k ∧ k ∉ nsL l) sf cf a' w' → Q.1 .normal a' w') → wpList P ops Q.1 (l.map (·.2.o)) a w := by
  induction h with
  | nil => exact fun {e fr a w} r _ _ hq => hq e a w (r.fr_le fun _ h => h.1)
  | @cons s c c' cr i r l sf cf h1 h2 h3 h4 h5 h6 ih =>
    intro e fr a w rel hn hd hq
    have hns : nsL ((i, r) :: l) = r.ns ++ nsL l := by simp [nsL]
    rw [hns] at hn hd hq
    obtain ⟨d1, d2, d3⟩ := List.nodup_append.1 hd
    simp only [List.map_cons]
    unfold wpList
    refine h1 e fr s cr a w Q _ (rel.perm h4) h3 (fun k hk => hn k (List.mem_append.2 (.inl hk))) (fun e' a' w' rel' => ?_)
    refine ih (rel'.perm h5.symm) (fun k hk => ⟨hn k (List.mem_append.2 (.inr hk)), fun hk' => d3 k hk' k hk rfl⟩) d2 (fun e2 a2 w2 r2 => hq e2 a2 w2 (r2.fr_le fun k hk => ⟨⟨hk.1, fun h => hk.2 (List.mem_append.2 (.inl h))⟩, fun h => hk.2 (List.mem_append.2 (.inr h))⟩))
end
end Go.E

/- The walk anew, part 7: regions whose order is drawn; what a region's walk is. -/
set_option linter.unusedSimpArgs false
set_option linter.unusedVariables false
namespace Go.E
open Go.RowKit

def preds (ops : List Oper) (i : Nat) : List Nat := match ops[i]? with
  | none => []
  | some o => (o.after.toList.filter (fun e => Region.binds .any e)).map (·.on)
def addN (a : Nat) (l : List Nat) : List Nat := match l.contains a with
  | true => l
  | false => a :: l
/-- All operations that stand ahead of each, in the order that is told. -/
def ancs (ops : List Oper) : Nat → List (List Nat)
  | 0 => []
  | i + 1 => normG (ancs ops i) fun A => A ++ [(preds ops i).foldr (fun p l => addN p ((A.getD p []).foldr addN l)) []]
def ancOK (ops : List Oper) (A : List (List Nat)) : Bool :=
  (List.range ops.length).all fun i => (preds ops i).all (fun p => Nat.blt p i) && (A.getD i []).all fun j => (preds ops i).contains j || (preds ops i).any fun p => (A.getD p []).contains j
/-- Are those that are not ordered apart? -/
def pairsOK (A : List (List Nat)) : Nat → List FP → Bool
  | _, [] => true
  | i, a :: l => (l.zipIdx (i + 1)).all (fun q => (A.getD q.2 []).contains i || indep a q.1) && pairsOK A (i + 1) l
def chkD (ops : List Oper) (l : List FP) : Bool := ancOK ops (ancs ops ops.length) && pairsOK (ancs ops ops.length) 0 l

theorem mem_ready {ops : Array Oper} {listed : Array Bool} {i : Nat} : i ∈ Region.ready .any ops listed ↔ listed.getD i true = false ∧ ∃ o, ops[i]? = some o ∧ ∀ q ∈ preds ops.toList i, listed.getD q false = true := by
  simp only [Region.ready, List.mem_filter, List.mem_range, Bool.and_eq_true, Bool.not_eq_true', preds, Array.getElem?_toList]
  constructor
  · rintro ⟨hi, h1, h2⟩
    refine ⟨h1, ops[i], by simp [hi], ?_⟩
    simp only [getElem?_pos, hi, Option.map_some, Option.getD_some, Array.all_eq_true'] at h2 ⊢
    simp only [List.mem_map, List.mem_filter, forall_exists_index, and_imp]
    rintro q e he hb rfl
    have := h2 e (by simpa using he)
    simpa [hb] using this
  · rintro ⟨h1, o, ho, h2⟩
    obtain ⟨hi, rfl⟩ := Array.getElem?_eq_some_iff.1 ho
    refine ⟨hi, h1, ?_⟩
    simp only [getElem?_pos, hi, Option.map_some, Option.getD_some, Array.all_eq_true'] at h2 ⊢
    intro e he
    cases hb : Region.binds .any e with
    | false => simp
    | true =>
      have := h2 e.on (List.mem_map.2 ⟨e, List.mem_filter.2 ⟨by simpa using he, hb⟩, rfl⟩)
      simpa using this

section
variable {P : Program} {T : Tab} {X : Ctx P T} {n : Nat} {ops : Array Oper}

theorem Run.at {s c l sf cf} (h : Run X n ops s c l sf cf) : ∀ p ∈ l, ops[p.1]? = some p.2.o := by
  induction h with
  | nil => simp
  | cons h1 h2 h3 h4 h5 _ ih => simp only [List.mem_cons, forall_eq_or_imp]; exact ⟨h2, ih⟩

theorem getD_set {l : Array Bool} {i j : Nat} (hi : i < l.size) : (l.setIfInBounds i true).getD j false = if j = i then true else l.getD j false := by
  simp only [Array.getD_eq_getD_getElem?, Array.getElem?_setIfInBounds]
  by_cases h : i = j
  · subst h; simp [hi]
  · rw [if_neg h, if_neg (Ne.symm h)]

theorem Run.any {A : List (List Nat)} (hA : ancOK ops.toList A = true) {Q : QX X} : ∀ (fuel : Nat) (listed : Array Bool) {l s c sf cf e fr a w}, Run X n ops s c l sf cf → Rel X n e fr s c a w → (∀ k ∈ nsL l, fr k) → (nsL l).Nodup →
    listed.size = ops.size → (∀ i, i < ops.size → (listed.getD i false = false ↔ i ∈ l.map (·.1))) → (l.map (·.1)).Pairwise (· < ·) → (∀ i, listed.getD i false = true → ∀ q ∈ preds ops.toList i, listed.getD q false = true) →
    l.Pairwise (fun p q => q.1 ∈ [q.1] ∧ (p.1 ∈ A.getD q.1 [] ∨ indep (fpOf p.2) (fpOf q.2) = true)) → l.length = fuel →
    (∀ e' a' w', Rel X n e' (fun k => fr k ∧ k ∉ nsL l) sf cf a' w' → Q.1 .normal a' w') → wpAny P .any ops Q.1 fuel listed a w := by
  have hA' : ∀ i, i < ops.size → (∀ p ∈ preds ops.toList i, p < i) ∧ ∀ j ∈ A.getD i [], j ∈ preds ops.toList i ∨ ∃ p ∈ preds ops.toList i, j ∈ A.getD p [] := by
    intro i hi
    have := List.all_eq_true.1 hA i (by simpa using hi)
    simp only [Bool.and_eq_true, List.all_eq_true, Bool.or_eq_true, List.contains_iff_mem, List.any_eq_true] at this
    exact ⟨fun p hp => by have := this.1 p hp; simp [Nat.blt] at this; omega, fun j hj => this.2 j hj⟩
  intro fuel
  induction fuel with
  | zero =>
    intro listed l s c sf cf e fr a w h r hn hd hsz hidx hs hcl hp hl hq
    have hl0 := List.eq_nil_of_length_eq_zero hl
    subst hl0
    refine ⟨?_, ?_⟩
    · rw [List.eq_nil_iff_forall_not_mem]
      intro i hi
      obtain ⟨h1, o, ho, _⟩ := mem_ready.1 hi
      have hi' := (Array.getElem?_eq_some_iff.1 ho).1
      have h2 := (hidx i hi').1
      have : i < listed.size := by omega
      simp [this] at h1 h2
      rw [h1] at h2; exact absurd h2 (by simp)
    · cases h; exact hq e a w (r.fr_le fun _ h => h.1)
  | succ fuel ih =>
    intro listed l s c sf cf e fr a w h r hn hd hsz hidx hs hcl hp hl hq
    have hat := h.at
    refine ⟨fun hr => ?_, fun i hi => ?_⟩
    · exfalso
      cases l with
      | nil => cases hl
      | cons p l =>
        have hp1 := hat p (by simp)
        have hlt := (Array.getElem?_eq_some_iff.1 hp1).1
        have hun : listed.getD p.1 false = false := (hidx p.1 hlt).2 (by simp)
        have : p.1 ∈ Region.ready .any ops listed := by
          refine mem_ready.2 ⟨?_, _, hp1, fun q hq => ?_⟩
          · have : p.1 < listed.size := by omega
            simp [this] at hun ⊢; exact hun
          · have hqlt := (hA' p.1 hlt).1 q hq
            cases hb : listed.getD q false with
            | true => rfl
            | false =>
              have := (hidx q (by omega)).1 hb
              simp only [List.map_cons, List.mem_cons] at this
              simp only [List.map_cons, List.pairwise_cons] at hs
              rcases this with rfl | h
              · omega
              · have := hs.1 q h; omega
        rw [hr] at this; cases this
    · obtain ⟨h1, o, ho, hpre⟩ := mem_ready.1 hi
      have hlt := (Array.getElem?_eq_some_iff.1 ho).1
      have hlt' : i < listed.size := by omega
      have hun : listed.getD i false = false := by simp [hlt'] at h1 ⊢; exact h1
      obtain ⟨⟨i', b⟩, hmem, hii⟩ := List.mem_map.1 ((hidx i hlt).1 hun)
      simp only at hii
      subst hii
      obtain ⟨L, R, rfl⟩ := List.append_of_mem hmem
      have hanc : ∀ m, m < ops.size → (∀ q ∈ preds ops.toList m, listed.getD q false = true) → ∀ j ∈ A.getD m [], listed.getD j false = true := by
        intro m
        induction m using Nat.strongRecOn with
        | ind m ihm =>
          intro hm hpm j hj
          rcases (hA' m hm).2 j hj with h | ⟨q, hq, h⟩
          · exact hpm j h
          · have hqm := (hA' m hm).1 q hq
            exact ihm q hqm (by omega) (fun q' hq' => hcl q (hpm q hq) q' hq') j h
      have hind : ∀ p ∈ L, indep (fpOf p.2) (fpOf b) = true := by
        intro p hpL
        have := (List.pairwise_append.1 hp).2.2 p hpL (i', b) (by simp)
        rcases this.2 with h | h
        · have h2 := hanc i' hlt hpre p.1 h
          have h3 := hat p (by simp [hpL])
          have h4 := (Array.getElem?_eq_some_iff.1 h3).1
          have := (hidx p.1 h4).2 (by simp only [List.map_append, List.mem_append]; exact .inl (List.mem_map.2 ⟨p, hpL, rfl⟩))
          rw [this] at h2; cases h2
        · exact h
      obtain ⟨sf', cf', k1, k2, k3⟩ := h.front hind
      have hob := hat (i', b) (by simp)
      rw [ho] at hob
      simp only [Option.some.injEq] at hob
      subst hob
      cases k1 with
      | cons b1 b2 b3 b4 b5 k1 =>
      unfold wpOp
      simp only [ho]
      have hnsp : (nsL (L ++ (i', b) :: R)).Perm (b.ns ++ nsL (L ++ R)) := by
        simp only [nsL, List.flatMap_append, List.flatMap_cons]
        rw [← List.append_assoc, ← List.append_assoc]; exact List.perm_append_comm.append_right _
      have hd' := hnsp.nodup_iff.1 hd
      obtain ⟨d1, d2, d3⟩ := List.nodup_append.1 hd'
      refine b1 e fr s _ a w Q _ (r.perm b4) b3 (fun k hk => hn k (hnsp.mem_iff.2 (List.mem_append.2 (.inl hk)))) (fun e' a' w' r' => ?_)
      have hsub : (L ++ R).Sublist (L ++ (i', b) :: R) := List.Sublist.append_left (List.sublist_cons_self _ _) _
      refine ih (listed.setIfInBounds i' true) (l := L ++ R) k1 (r'.perm b5.symm) (fun k hk => ⟨hn k (hnsp.mem_iff.2 (List.mem_append.2 (.inr hk))), fun hk' => d3 k hk' k hk rfl⟩) d2 (by simpa using hsz) (fun j hj => ?_) (hs.sublist (hsub.map _)) (fun j hj q hqq => ?_) (hp.sublist hsub) (by simp at hl ⊢; omega) ?_
      · rw [getD_set hlt']
        have h0 := hidx j hj
        simp only [List.map_append, List.map_cons, List.mem_append, List.mem_cons] at h0 ⊢
        by_cases hji : j = i'
        · subst hji
          simp only [if_true, Bool.true_eq_false, false_iff]
          have hs' := hs
          simp only [List.map_append, List.map_cons, List.pairwise_append, List.pairwise_cons] at hs'
          rintro (h | h)
          · have := hs'.2.2 j h j (by simp); omega
          · have := hs'.2.1.1 j h; omega
        · rw [if_neg hji, h0]; simp [hji]
      · rw [getD_set hlt'] at hj ⊢
        split
        · rfl
        · by_cases hji : j = i'
          · subst hji; exact hpre q hqq
          · rw [if_neg hji] at hj; exact hcl j hj q hqq
      · intro e2 a2 w2 r2
        refine hq e2 a2 w2 ?_
        have : Rel X n e2 (fun k => (fr k ∧ k ∉ b.ns) ∧ k ∉ nsL (L ++ R)) sf cf a2 w2 := ⟨r2.defers, r2.size, fun q x hx => r2.slots q x (k2 q x hx), r2.mem.perm k3⟩
        refine this.fr_le fun k hk => ?_
        have := hk.2
        rw [hnsp.mem_iff, List.mem_append] at this
        exact ⟨⟨hk.1, fun h => this (.inl h)⟩, fun h => this (.inr h)⟩

/-- A region's walk: in the text's order; at its end, if its order is drawn, those that are not ordered are apart. N: the names that are in use. -/
def DoR (X : Ctx P T) (n : Nat) (ops : Array Oper) (draw : Bool) (K : List (Nat × AV) → List Ch → List Nat → Prop) : List Oper → List FP → List (Nat × AV) → List Ch → List Nat → Prop
  | [], hist, s, c, N => (draw = true → chkD ops.toList hist = true) ∧ ∃ s0, subG s0 s ∧ K s0 c N
  | o :: rest, hist, s, c, N => ∃ s0 r c' cr, subG s0 s ∧ r.o = o ∧ LocOK X n ops r ∧ (∀ p ∈ r.rd, get s0 p.1 = some p.2) ∧ c.Perm (r.ro ++ r.us ++ cr) ∧ c'.Perm (r.ro ++ r.vs ++ cr) ∧
      (∀ k ∈ r.ns, k ∉ N) ∧ r.ns.Nodup ∧ DoR X n ops draw K rest (hist ++ [fpOf r]) (putS o.dst r.x s0) c' (r.ns ++ N)

theorem DoR.run {draw K} : ∀ {rest : List Oper} {i hist s c N}, DoR X n ops draw K rest hist s c N → (∀ j, rest[j]? = ops[i + j]?) →
    ∃ l sf cf Nf sk ck, Run X n ops s c l sf cf ∧ l.map (·.1) = List.range' i rest.length ∧ l.map (·.2.o) = rest ∧ (∀ k ∈ nsL l, k ∉ N) ∧ (nsL l).Nodup ∧
      (draw = true → chkD ops.toList (hist ++ l.map (fpOf ·.2)) = true) ∧ (∀ k, k ∉ Nf → k ∉ N ∧ k ∉ nsL l) ∧ (∀ k, k ∉ N ∧ k ∉ nsL l → k ∉ Nf) ∧ subG sk sf ∧ cf.Perm ck ∧ K sk ck Nf
  | [], i, hist, s, c, N, ⟨h, s0, h0, h1⟩, _ => ⟨[], s, c, N, s0, c, .nil, rfl, rfl, by simp [nsL], by simp [nsL], by simpa using h, by simp [nsL], by simp [nsL], h0, .refl _, h1⟩
  | o :: rest, i, hist, s, c, N, ⟨s0, r, c', cr, h0, h1, h2, h3, h4, h5, h6, h7, h8⟩, hat => by
    obtain ⟨l, sf, cf, Nf, sk, ck, k1, k2, k3, k4, k5, k6, k7, k7', k7'', k9, k8⟩ := DoR.run h8 (fun j => by rw [show i + 1 + j = i + (j + 1) by omega]; simpa using hat (j + 1))
    subst h1
    obtain ⟨sf', cf', q1, q2, q3⟩ := k1.congr (s' := putS r.o.dst r.x s) (c' := c') h0.put (.refl _)
    have hns : nsL ((i, r) :: l) = r.ns ++ nsL l := by simp [nsL]
    refine ⟨(i, r) :: l, sf', cf', Nf, sk, ck, .cons h2 (by simpa using (hat 0).symm) (fun p hp => h0 _ _ (h3 p hp)) h4 h5 q1, by simp [k2, List.range'_succ], by simp [k3], fun k hk => ?_, ?_, fun hd => by simpa using k6 hd, fun k hk => ?_, fun k hk => ?_, fun i x hx => q2 i x (k7'' i x hx), q3.trans k9, k8⟩
    · rw [hns, List.mem_append] at hk
      rcases hk with hk | hk
      · exact h6 k hk
      · exact fun hn => k4 k hk (List.mem_append.2 (.inr hn))
    · rw [hns]
      exact List.nodup_append.2 ⟨h7, k5, fun x hx y hy hxy => k4 y hy (List.mem_append.2 (.inl (hxy ▸ hx)))⟩
    · obtain ⟨q1, q2⟩ := k7 k hk
      simp only [List.mem_append, not_or] at q1
      rw [hns, List.mem_append]
      exact ⟨q1.2, fun h => h.elim q1.1 q2⟩
    · rw [hns, List.mem_append] at hk
      exact k7' k ⟨by simp only [List.mem_append, not_or]; exact ⟨fun h => hk.2 (.inl h), hk.1⟩, fun h => hk.2 (.inr h)⟩

theorem pairsOK_spec {A : List (List Nat)} : ∀ {l : List (Nat × R1)} {i : Nat}, l.map (·.1) = List.range' i l.length → pairsOK A i (l.map (fpOf ·.2)) = true → l.Pairwise (fun p q => q.1 ∈ [q.1] ∧ (p.1 ∈ A.getD q.1 [] ∨ indep (fpOf p.2) (fpOf q.2) = true))
  | [], i, _, _ => .nil
  | p :: l, i, hm, h => by
    simp only [List.map_cons, List.length_cons, List.range'_succ, List.cons.injEq] at hm
    simp only [List.map_cons, pairsOK, Bool.and_eq_true, List.all_eq_true, Bool.or_eq_true, List.contains_iff_mem] at h
    refine .cons (fun q hq => ⟨by simp, ?_⟩) (pairsOK_spec hm.2 h.2)
    obtain ⟨j, hj, rfl⟩ := List.mem_iff_getElem.1 hq
    have h1 : (l.map (·.1))[j]? = some (i + 1 + j) := by rw [hm.2]; simp [hj]
    have h1' : l[j].1 = i + 1 + j := by simpa [hj] using h1
    have := h.1 (fpOf l[j].2, i + 1 + j) (by rw [List.mk_mem_zipIdx_iff_le_and_getElem?_sub]; simp [hj])
    rw [hm.1, h1']
    exact this
end
end Go.E

/- The walk anew, part 8: cells written; structs and slices built; new variables. -/
set_option linter.unusedSimpArgs false
set_option linter.unusedVariables false
namespace Go.E
open Go.RowKit

def cellsA : AV → List AV
  | .agg cs => cs
  | x => [x]
def boxable : AV → Bool
  | .tup _ => false
  | .v x => x.oneCell'
  | _ => true
theorem cellsA_sound {e : Env} {x : AV} {v : Value} (h : Rep x e v) (hb : boxable x = true) : RepL (cellsA x) e v.cells.toList := by
  have scal : ∀ {y : AV}, Rep y e v → v.oneCell' = true → (∀ cs, v ≠ .agg cs) → RepL [y] e v.cells.toList := by
    intro y hy hc hne
    have : v.cells.toList = [v] := by cases v <;> simp_all [Value.cells]
    rw [this]
    simp only [RepL]
    exact ⟨v, [], rfl, hy, hc, rfl⟩
  cases x with
  | agg cs => simp only [Rep] at h; obtain ⟨ys, rfl, h⟩ := h; exact h
  | tup cs => cases hb
  | v x => have h0 := h; simp only [Rep] at h; subst h; exact scal h0 hb (fun cs hc => by subst hc; cases hb)
  | s l => have h0 := h; simp only [Rep] at h; subst h; exact scal h0 rfl (by intro cs hc; cases hc)
  | sl n esz row => have h0 := h; simp only [Rep] at h; obtain ⟨a, c, rfl, _⟩ := h; exact scal h0 rfl (by intro cs hc; cases hc)
  | cp cells => have h0 := h; simp only [Rep] at h; obtain ⟨b, o, rfl, _⟩ := h; exact scal h0 rfl (by intro cs hc; cases hc)
  | bp k o => have h0 := h; simp only [Rep] at h; obtain ⟨b, β, κ, _, rfl⟩ := h; exact scal h0 rfl (by intro cs hc; cases hc)
  | own k esz i m => have h0 := h; simp only [Rep] at h; obtain ⟨b, β, κ, a, _, _, rfl, _⟩ := h; exact scal h0 rfl (by intro cs hc; cases hc)
  | ep k esz i j => have h0 := h; simp only [Rep] at h; obtain ⟨b, β, κ, _, rfl⟩ := h; exact scal h0 rfl (by intro cs hc; cases hc)
  | mp k => have h0 := h; simp only [Rep] at h; obtain ⟨b, β, κ, _, rfl⟩ := h; exact scal h0 rfl (by intro cs hc; cases hc)
  | arr k off n c => obtain ⟨b, β, κ, h1, h2, rfl⟩ := (by simpa only [Rep] using h); exact scal (y := .arr k off n c) (by simp only [Rep]; exact ⟨b, β, κ, h1, h2, rfl⟩) rfl (fun _ h => by cases h)
  | clo fn f cs => have h0 := h; simp only [Rep] at h; obtain ⟨a, b, rfl, _⟩ := h; exact scal h0 rfl (by intro cs hc; cases hc)
  | ifc t x => have h0 := h; simp only [Rep] at h; obtain ⟨v, rfl, _⟩ := h; exact scal h0 rfl (by intro cs hc; cases hc)

def constA : Value → AV
  | .string b => .s b.data.toList
  | x => .v x
theorem constA_sound (e : Env) {v : Value} : Rep (constA v) e v := by cases v <;> simp [constA, Rep, S]
theorem zero_sound (e : Env) {zs : List Value} (h : zs.all (·.oneCell') = true) : RepL (zs.map constA) e zs :=
  .mk (by simp) fun j c hc => by
    rw [List.getElem?_map, Option.map_eq_some_iff] at hc
    obtain ⟨z, hz, rfl⟩ := hc
    exact ⟨z, hz, constA_sound e, List.all_eq_true.1 h z (List.mem_of_getElem? hz)⟩

def splice (cells : List AV) (off : Nat) (new : List AV) : List AV := cells.take off ++ new ++ cells.drop (off + new.length)
theorem splice_len {cells new : List AV} {off : Nat} (h : off + new.length ≤ cells.length) : (splice cells off new).length = cells.length := by simp [splice]; omega
theorem splice_get {cells new : List AV} {off j : Nat} (h : off + new.length ≤ cells.length) : (splice cells off new)[j]? = if off ≤ j ∧ j < off + new.length then new[j - off]? else cells[j]? := by
  unfold splice
  rw [List.getElem?_append, List.getElem?_append]
  simp only [List.length_append, List.length_take, Nat.min_eq_left (show off ≤ cells.length by omega)]
  split
  · split
    · rw [if_neg (by omega), List.getElem?_take, if_pos (by omega)]
    · rw [if_pos (by omega)]
  · rw [if_neg (by omega), List.getElem?_drop]; congr 1; omega

def fillA (place : Nat → Option (Nat × Nat)) (cells : List AV) : List (Nat × AV) → Option (List AV)
  | [] => some cells
  | (i, x) :: rest => match place i with
    | none => none
    | some (off, size) => match Nat.beq (cellsA x).length size && Nat.ble (off + size) cells.length && boxable x with
      | true => normG (splice cells off (cellsA x)) fun c => fillA place c rest
      | false => none

theorem foldl_set : ∀ (vs : List Value) (j0 : Nat) (off : Nat) (cells : Array Value), off + j0 + vs.length ≤ cells.size →
    ((vs.zipIdx j0).foldl (fun (cs : Array Value) (x : Value × Nat) => cs.setIfInBounds (off + x.2) x.1) cells).toList = cells.toList.take (off + j0) ++ vs ++ cells.toList.drop (off + j0 + vs.length)
  | [], j0, off, cells, h => by simp
  | v :: vs, j0, off, cells, h => by
    simp only [List.zipIdx_cons, List.foldl_cons]
    have ih := foldl_set vs (j0 + 1) off (cells.setIfInBounds (off + j0) v) (by simp at h ⊢; omega)
    rw [ih]
    have e := list_seg_step cells.toList (off + j0) v vs (by simp at h ⊢; omega)
    simpa [Array.toList_setIfInBounds, Nat.add_assoc] using e

theorem fill_sound {e : Env} {place : Nat → Option (Nat × Nat)} {cp : Nat → Option (Nat × Nat)} (hp : ∀ i q, place i = some q → cp i = some q) :
    ∀ (parts : List (Nat × AV)) (vals : List (Nat × Value)) (cells : List AV) (cur : Array Value) (res : List AV),
      parts.length = vals.length → (∀ (j : Nat) (p : Nat × AV) (q : Nat × Value), parts[j]? = some p → vals[j]? = some q → p.1 = q.1 ∧ Rep p.2 e q.2) → RepL cells e cur.toList → fillA place cells parts = some res →
      ∃ out, Instr.fill cp cur vals = some out ∧ RepL res e out.toList ∧ res.length = cells.length
  | [], [], cells, cur, res, _, _, hc, h => by simp only [fillA, Option.some.injEq] at h; subst h; exact ⟨cur, rfl, hc, rfl⟩
  | (i, x) :: parts, (i', v) :: vals, cells, cur, res, hl, hr, hc, h => by
    obtain ⟨h1, h2⟩ := hr 0 (i, x) (i', v) rfl rfl
    simp only at h1 h2
    subst h1
    simp only [fillA] at h
    split at h
    · cases h
    · rename_i off size hpl
      split at h
      · rename_i hok
        simp only [Bool.and_eq_true] at hok
        rw [normG_eq] at h
        obtain ⟨⟨k1, k2⟩, k3⟩ := hok
        have k1 := Nat.eq_of_beq_eq_true k1
        have k2 := Nat.le_of_ble_eq_true k2
        have hv := cellsA_sound h2 k3
        have hvl := RepL.len hv
        have hcl := RepL.len hc
        simp only [Array.length_toList] at hvl hcl
        have hf := foldl_set v.cells.toList 0 off cur (by simp; omega)
        have hz : (v.cells.zipIdx.foldl (fun (cs : Array Value) (x : Value × Nat) => cs.setIfInBounds (off + x.2) x.1) cur) = ((v.cells.toList.zipIdx 0).foldl (fun (cs : Array Value) (x : Value × Nat) => cs.setIfInBounds (off + x.2) x.1) cur) := by
          rw [← Array.foldl_toList]; simp
        have hnew : RepL (splice cells off (cellsA x)) e ((v.cells.zipIdx.foldl (fun (cs : Array Value) (x : Value × Nat) => cs.setIfInBounds (off + x.2) x.1) cur)).toList := by
          rw [hz, hf]
          unfold splice
          have := ((hc.take off).app hv).app (hc.drop (off + (cellsA x).length))
          simpa [hvl] using this
        obtain ⟨out, g1, g2, g3⟩ := fill_sound hp parts vals _ _ res (by simpa using hl) (fun j p q hj hq => hr (j + 1) p q (by simpa using hj) (by simpa using hq)) hnew h
        refine ⟨out, ?_, g2, by rw [g3, splice_len (by omega)]⟩
        unfold Instr.fill
        rw [hp _ _ hpl]
        have : ¬ (v.cells.size ≠ size || decide (off + v.cells.size > cur.size)) = true := by simp; omega
        simp only [this, if_false]
        exact g1
      · cases h
  | [], _ :: _, _, _, _, hl, _, _, _ => by simp at hl
  | _ :: _, [], _, _, _, hl, _, _, _ => by simp at hl

/-! ### Cells written -/
theorem atw_setCell {w : World} {b o : Nat} {v : Value} (b' o' : Nat) (h : ¬ (b' = b ∧ o' = o)) : atw (w.setCell ⟨b, o, none⟩ v) b' o' = atw w b' o' := by
  unfold atw World.setCell
  simp only [Array.getElem?_modify]
  by_cases hb : b = b'
  · subst hb
    rw [if_pos rfl]
    cases hw : w.heap[b]? with
    | none => rfl
    | some x =>
      cases x <;> simp
      rw [Array.getElem?_setIfInBounds_ne (fun he => h ⟨rfl, he.symm⟩)]
  · rw [if_neg hb]
theorem atw_setCell_at {w : World} {b o : Nat} {u v : Value} (h : CellW w b o u) : CellW (w.setCell ⟨b, o, none⟩ v) b o v := by
  obtain ⟨arr, T, h1, h2⟩ := h.heap
  refine ⟨arr.size, T, ?_⟩
  unfold atw World.setCell
  have := (Array.getElem?_eq_some_iff.1 h2).1
  simp [Array.getElem?_modify, h1, this]
theorem setCells_facts (b : Nat) : ∀ (vs : List Value) (o : Nat) (w : World), (∀ j, j < vs.length → ∃ z, CellW w b (o + j) z) →
    (∀ b' o', ¬ (b' = b ∧ o ≤ o' ∧ o' < o + vs.length) → atw (w.setCells b o vs) b' o' = atw w b' o') ∧ (∀ (j : Nat) v, vs[j]? = some v → CellW (w.setCells b o vs) b (o + j) v) ∧
      (w.setCells b o vs).heap.size = w.heap.size ∧ (w.setCells b o vs).os = w.os ∧ (w.setCells b o vs).tape = w.tape ∧ (w.setCells b o vs).output = w.output
  | [], o, w, _ => ⟨fun _ _ _ => rfl, by simp, rfl, rfl, rfl, rfl⟩
  | v :: vs, o, w, h => by
    obtain ⟨u, hu⟩ := h 0 (by simp)
    simp only [Nat.add_zero] at hu
    obtain ⟨h1, h2, h3, h4, h5, h6⟩ := setCells_facts b vs (o + 1) (w.setCell ⟨b, o, none⟩ v) (fun j hj => by
      obtain ⟨z, hz⟩ := h (j + 1) (by simp; omega)
      rw [show o + 1 + j = o + (j + 1) by omega]
      exact ⟨z, hz.keep (atw_setCell _ _ (by omega))⟩)
    simp only [World.setCells]
    refine ⟨fun b' o' hn => ?_, fun j x hx => ?_, ?_, h4, h5, h6⟩
    · simp only [List.length_cons] at hn
      rw [h1 b' o' (by omega), atw_setCell _ _ (by omega)]
    · cases j with
      | zero =>
        simp only [List.getElem?_cons_zero, Option.some.injEq] at hx
        subst hx
        exact (atw_setCell_at hu).keep (h1 b o (by omega))
      | succ j =>
        rw [show o + (j + 1) = o + 1 + j by omega]
        exact h2 j x (by simpa using hx)
    · rw [h3]; simp [World.setCell]
theorem CellW.frozen {w : World} {b o : Nat} {z : Value} (h : CellW w b o z) : w.frozen? ⟨b, o, none⟩ = false := by
  obtain ⟨arr, T, h1, _⟩ := h.heap
  simp [World.frozen?, h1]

section
variable {P : Program} {T : Tab} {X : Ctx P T} {n : Nat} {e : Env} {fr : Nat → Prop} {s : List (Nat × AV)} {c : List Ch} {a : Act} {w : World} {ops : Array Oper}

theorem run_storeCellsW (b o : Nat) (vs : List Value) (h : ∀ j, j < vs.length → ∃ z, CellW w b (o + j) z) (h1 : ∀ v ∈ vs, v.oneCell' = true) :
    (storeCells ⟨b, o, none⟩ vs).run P w = .ok () (w.setCells b o vs) := by
  have := run_storeCells_cells (P := P) b o vs 0 w (fun j hj => by obtain ⟨z, hz⟩ := h j hj; simp [hz.cell]) (fun j hj => by obtain ⟨z, hz⟩ := h j hj; simpa using hz.frozen) h1
  simpa using this

theorem CellsW.write {e' : Env} {b β o : Nat} {cells new : List AV} {vs : List Value} (he : Env.le e e') (h : CellsW e w b β cells) (hv : RepL new e' vs) (hl : o + new.length ≤ cells.length) :
    CellsW e' (w.setCells b (β + o) vs) b β (splice cells o new) := by
  have hlen := hv.len
  have hex : ∀ j, j < vs.length → ∃ z, CellW w b (β + o + j) z := fun j hj => by
    obtain ⟨z, hz, _⟩ := h (o + j) cells[o + j] (by simp)
    exact ⟨z, by rwa [Nat.add_assoc]⟩
  obtain ⟨f1, f2, _⟩ := setCells_facts b vs (β + o) w hex
  intro j q hq
  rw [splice_get hl] at hq
  split at hq
  · obtain ⟨z, z1, z2, z3⟩ := hv.get _ _ hq
    refine ⟨z, ?_, z2, z3⟩
    have := f2 _ z z1
    rwa [show β + o + (j - o) = β + j by omega] at this
  · obtain ⟨z, z1, z2, z3⟩ := h j q hq
    exact ⟨z, z1.keep (f1 _ _ (by omega)), Rep.mono q he z2, z3⟩

theorem MemOK.box_write {k : Nat} {cells : List AV} (m : MemOK X e fr (.box k cells :: c) w) {o b β κ : Nat} {new : List AV} {vs : List Value} (hb : e.μ k = some (b, β, κ)) (hv : RepL new e vs) (hl : o + new.length ≤ cells.length) :
    (storeCells ⟨b, β + o, none⟩ vs).run P w = .ok () (w.setCells b (β + o) vs) ∧ MemOK X e fr (.box k (splice cells o new) :: c) (w.setCells b (β + o) vs) := by
  obtain ⟨F, ⟨b', β', κ', h1, h2, h3⟩, h4⟩ := m.head
  rw [hb] at h1; cases h1
  have hlen := hv.len
  have hex : ∀ j, j < vs.length → ∃ z, CellW w b (β + o + j) z := fun j hj => by
    obtain ⟨z, hz, _⟩ := h3 (o + j) cells[o + j] (by simp)
    exact ⟨z, by rwa [Nat.add_assoc]⟩
  obtain ⟨f1, f2, f3, f4, f5, f6⟩ := setCells_facts b vs (β + o) w hex
  refine ⟨run_storeCellsW b (β + o) vs hex hv.one, ?_⟩
  refine MemOK.upd1 (vs := [_]) m (Env.le_refl e) m.free f4 f5 f6 (Nat.le_of_eq f3.symm) fun Fu ⟨b', β', κ', g1, g2, g3⟩ hFu => ?_
  rw [hb] at g1; cases g1
  subst g2
  refine ⟨fun b' o' _ hn => f1 _ _ (by rintro ⟨rfl, h⟩; exact hn ⟨rfl, by omega, by omega⟩), fun x q => x = b ∧ β ≤ q ∧ q < β + (splice cells o new).length, SepOK.one.2 ⟨_, ⟨b, β, κ, hb, rfl, g3.write (Env.le_refl e) hv hl⟩, fun _ _ => .rfl⟩, ?_, fun _ _ _ h => .inl h⟩
  rintro x q ⟨rfl, q1, q2⟩
  rw [splice_len hl] at q2
  have := hFu x q ⟨rfl, q1, q2⟩
  exact ⟨.inl ⟨rfl, q1, q2⟩, by rw [f3]; exact this.1, this.2⟩

theorem MemOK.vec_write {k esz mm : Nat} {row : Nat → List AV} (m : MemOK X e fr (.vec k esz mm row :: c) w) {i o b β κ : Nat} {new : List AV} {vs : List Value} (hb : e.μ k = some (b, β, κ)) (hv : RepL new (.bare e.G) vs) (hi : i < mm) (hl : o + new.length ≤ esz) :
    (storeCells ⟨b, β + i * esz + o, none⟩ vs).run P w = .ok () (w.setCells b (β + i * esz + o) vs) ∧ MemOK X e fr (.vec k esz mm (fun q => if q = i then splice (row i) o new else row q) :: c) (w.setCells b (β + i * esz + o) vs) := by
  obtain ⟨F, ⟨b', β', κ', h1, h2, h2', h2'', h3, h5⟩, h4⟩ := m.head
  rw [hb] at h1; cases h1
  have hlen := hv.len
  have hin : ∀ q, q < mm → q * esz + esz ≤ κ * esz := fun q hq => by
    have : (q + 1) * esz ≤ κ * esz := Nat.mul_le_mul_right _ (by omega)
    rwa [Nat.add_mul, Nat.one_mul] at this
  have hex : ∀ j, j < vs.length → ∃ z, CellW w b (β + i * esz + o + j) z := fun j hj => h3 _ (by omega) (by have := hin i hi; omega)
  obtain ⟨f1, f2, f3, f4, f5, f6⟩ := setCells_facts b vs (β + i * esz + o) w hex
  refine ⟨run_storeCellsW b _ vs hex hv.one, ?_⟩
  refine MemOK.upd1 (vs := [_]) m (Env.le_refl e) m.free f4 f5 f6 (Nat.le_of_eq f3.symm) fun Fu ⟨b', β', κ', g1, _, _, g2, g3, g5⟩ hFu => ?_
  rw [hb] at g1; cases g1
  subst g2
  refine ⟨fun b' o' _ hn => f1 _ _ (by rintro ⟨rfl, h⟩; exact hn ⟨rfl, by omega, by have := hin i hi; omega⟩), fun x q => x = b ∧ β ≤ q ∧ q < β + κ * esz, SepOK.one.2 ⟨_, ⟨b, β, κ, hb, h2, h2', rfl, ?_, ?_⟩, fun _ _ => .rfl⟩, ?_, fun _ _ _ h => .inl h⟩
  · intro q q1 q2
    by_cases hq : β + i * esz + o ≤ q ∧ q < β + i * esz + o + vs.length
    · obtain ⟨v, hv'⟩ : ∃ v, vs[q - (β + i * esz + o)]? = some v := ⟨_, List.getElem?_eq_getElem (by omega)⟩
      have := f2 _ v hv'
      rw [show β + i * esz + o + (q - (β + i * esz + o)) = q by omega] at this
      exact ⟨v, this⟩
    · obtain ⟨z, hz⟩ := g3 q q1 q2
      exact ⟨z, hz.keep (f1 _ _ (by omega))⟩
  · intro q hq
    by_cases hqi : q = i
    · subst hqi
      simp only [if_true]
      have hr := (g5 q hq).1
      exact ⟨by rw [splice_len (by omega)]; exact hr, (g5 q hq).2.write (Env.le_refl _) hv (by omega)⟩
    · simp only [if_neg hqi]
      refine ⟨(g5 q hq).1, (g5 q hq).2.keep (Env.le_refl _) (fun p p1 p2 => f1 _ _ ?_)⟩
      rw [(g5 q hq).1] at p2
      rintro ⟨_, p3, p4⟩
      have : q * esz + esz ≤ i * esz ∨ i * esz + esz ≤ q * esz := by
        rcases Nat.lt_or_gt_of_ne hqi with h | h
        · left; have : (q + 1) * esz ≤ i * esz := Nat.mul_le_mul_right _ h; rwa [Nat.add_mul, Nat.one_mul] at this
        · right; have : (i + 1) * esz ≤ q * esz := Nat.mul_le_mul_right _ h; rwa [Nat.add_mul, Nat.one_mul] at this
      omega
  · rintro x q ⟨rfl, q1, q2⟩
    have := hFu x q ⟨rfl, q1, q2⟩
    exact ⟨.inl ⟨rfl, q1, q2⟩, by rw [f3]; exact this.1, this.2⟩
end
end Go.E

/- The walk anew, part 9: slices grown. -/
set_option linter.unusedSimpArgs false
set_option linter.unusedVariables false
namespace Go.E
open Go.RowKit

/-- The rows of one behind those of another. -/
def appRow (p : Nat) (row row2 : Nat → List AV) : Nat → List AV := fun q => if q < p then row q else row2 (q - p)
/-- What is read as the elements of a slice. -/
def Src (e : Env) (w : World) (esz m : Nat) (row : Nat → List AV) (v : Value) : Prop :=
  ∃ ao cc, v = .slice ao m cc ∧ (m = 0 ∨ ∃ b o, ao = some ⟨b, o, none⟩ ∧ ∀ q, q < m → (row q).length = esz ∧ Readable (.bare e.G) w b (o + q * esz) (row q))

section
variable {P : Program} {T : Tab} {X : Ctx P T} {n : Nat} {e : Env} {fr : Nat → Prop} {s : List (Nat × AV)} {c : List Ch} {a : Act} {w : World} {ops : Array Oper}

theorem run_append_zero {t ty el : TypeId} {pi : TypeInfo} (ht : P.underlying t = some (.slice el)) (hi : P.info? el = some pi) (s0 : Option Addr) (p cap : Nat) (ao : Option Addr) (cc : Nat) (h : p ≤ cap) :
    (Builtin.append_ #[t, t] ty #[.slice s0 p cap, .slice ao 0 cc]).run P w = .ok (.slice s0 p cap) w := by
  cases ao with
  | none => cases s0 <;> simp [Builtin.append_, run_underlying ht, sizeOf, typeInfo, hi, Builtin.lenOf, h, Builtin.firstCells, storeCells]
  | some ad =>
    have := run_loadCells (P := P) w ad 0 (fun _ => undef) (fun j hj => by omega)
    simp only [List.range_zero, List.map_nil] at this
    cases s0 <;> simp [Builtin.append_, run_underlying ht, sizeOf, typeInfo, hi, Builtin.lenOf, h, Builtin.firstCells, storeCells, this]

theorem rows_read {esz m b o : Nat} {row : Nat → List AV} (h : ∀ q, q < m → (row q).length = esz ∧ Readable e w b (o + q * esz) (row q)) :
    ∃ news : List Value, news.length = m * esz ∧ (∀ (j : Nat) u, news[j]? = some u → w.cell? ((⟨b, o, none⟩ : Addr).add j) = some u) ∧ (∀ u ∈ news, u.oneCell' = true) ∧ ∀ q, q < m → RepL (row q) e ((news.drop (q * esz)).take esz) := by
  have key : ∀ j, j < m * esz → ∃ z c, (row (j / esz))[j % esz]? = some c ∧ w.cell? ⟨b, o + j, none⟩ = some z ∧ Rep c e z ∧ z.oneCell' = true := by
    intro j hj
    have hes : 0 < esz := by rcases Nat.eq_zero_or_pos esz with h | h <;> simp_all
    have hq : j / esz < m := Nat.div_lt_of_lt_mul (by rw [Nat.mul_comm]; exact hj)
    have hr := Nat.mod_lt j hes
    obtain ⟨h1, h2⟩ := h _ hq
    have hc : (row (j / esz))[j % esz]? = some (row (j / esz))[j % esz] := List.getElem?_eq_getElem (by omega)
    obtain ⟨z, z1, z2, z3⟩ := h2 _ _ hc
    refine ⟨z, _, hc, ?_, z2, z3⟩
    have hdm := Nat.div_add_mod j esz
    rw [Nat.mul_comm] at hdm
    rwa [Nat.add_assoc, hdm] at z1
  refine ⟨(List.range (m * esz)).map fun j => (w.cell? ⟨b, o + j, none⟩).getD undef, by simp, fun j u hu => ?_, fun u hu => ?_, fun q hq => ?_⟩
  · rw [List.getElem?_map, Option.map_eq_some_iff] at hu
    obtain ⟨j', h1, rfl⟩ := hu
    obtain ⟨hj, rfl⟩ := List.getElem?_eq_some_iff.1 h1
    simp at hj
    obtain ⟨z, _, _, hz, _⟩ := key j hj
    simp [add_addr, hz]
  · obtain ⟨j, hj, rfl⟩ := List.mem_map.1 hu
    obtain ⟨z, _, _, hz, _, h3⟩ := key j (by simpa using hj)
    simp [hz, h3]
  · have hle : q * esz + esz ≤ m * esz := by have : (q + 1) * esz ≤ m * esz := Nat.mul_le_mul_right _ hq; rwa [Nat.add_mul, Nat.one_mul] at this
    refine .mk (by simp [(h q hq).1]; omega) fun j cc hc => ?_
    have hj := (List.getElem?_eq_some_iff.1 hc).1
    rw [(h q hq).1] at hj
    obtain ⟨z, z1, z2, z3⟩ := (h q hq).2 j cc hc
    rw [List.getElem?_take, if_pos hj, List.getElem?_drop, List.getElem?_map, List.getElem?_range (by omega)]
    refine ⟨z, ?_, z2, z3⟩
    simp only [Option.map_some, ← Nat.add_assoc, z1, Option.getD_some]

theorem CellsW.of_repL {b β : Nat} {cells : List AV} {ys : List Value} (h : RepL cells e ys) (k : ∀ (j : Nat) z, ys[j]? = some z → CellW w b (β + j) z) : CellsW e w b β cells := fun j cc hc =>
  let ⟨z, z1, z2, z3⟩ := h.get j cc hc; ⟨z, k j z z1, z2, z3⟩

/-- append: the elements that are there, from some place to the end, and others behind; the old object is no more. -/
theorem append_sound {t ty el k esz m i p m2 nm : Nat} {row row2 : Nat → List AV} {u v : Value} {pi : TypeInfo} {z : Value} (ht : P.underlying t = some (.slice el)) (hi : P.info? el = some pi) (hz : pi.zero = some z) (hsz : pi.size = esz) (hzs : z.cells.size = esz) (hpos : 0 < esz)
    (M : MemOK X e fr (.vec k esz m row :: c) w) (hv : Rep (.own k esz i p) e v) (hip : i + p = m) (hu : Src e w esz m2 row2 u) (hn : fr nm) (b1 : p + m2 ≤ maxLen) (b2 : (p + m2) * pi.bytes ≤ 140737488355328) :
    ∃ e' v' w', (Builtin.append_ #[t, t] ty #[v, u]).run P w = .ok v' w' ∧ Env.le e e' ∧ Rep (.own nm esz 0 (p + m2)) e' v' ∧ MemOK X e' (fun j => fr j ∧ j ≠ nm) (.vec nm esz (p + m2) (appRow p (fun q => row (i + q)) row2) :: c) w' := by
  obtain ⟨F, ⟨b, β, κ, h1, h2, h3, h4, h5, h6⟩, hF⟩ := M.head
  simp only [Rep] at hv
  obtain ⟨b', β', κ', ao, g1, g2, rfl, g3⟩ := hv
  rw [h1] at g1; cases g1
  subst h4
  obtain ⟨so, cc, rfl, hu⟩ := hu
  have hfree := M.free nm hn
  have hfr : ∀ q j, fr j ∧ j ≠ nm → (bind1 e nm q).μ j = none := fun q j hj => by rw [bind1_ne hj.2]; exact M.free j hj.1
  have hin : ∀ q, q < κ → q * esz + esz ≤ κ * esz := fun q hq => by
    have : (q + 1) * esz ≤ κ * esz := Nat.mul_le_mul_right _ (by omega)
    rwa [Nat.add_mul, Nat.one_mul] at this
  have hle : i * esz ≤ κ * esz := Nat.mul_le_mul_right _ (by omega)
  have hks : i * esz + (κ - i) * esz = κ * esz := by rw [← Nat.add_mul]; congr 1; omega
  by_cases hm0 : m2 = 0
  · subst hm0
    refine ⟨bind1 e nm (b, β + i * esz, κ - i), _, w, run_append_zero ht hi ao p (κ - i) so cc (by omega), bind1_le hfree, ?_, ?_⟩
    · simp only [Rep]
      exact ⟨b, β + i * esz, κ - i, ao, bind1_at, by omega, by simp, fun hlt => by rw [g3 (by omega)]; simp⟩
    · refine MemOK.upd1 (vs := [_]) M (bind1_le hfree) (hfr _) rfl rfl rfl (Nat.le_refl _) fun Fu ⟨b', β', κ', q1, _, _, q2, q3, q4⟩ hFu => ?_
      rw [h1] at q1; cases q1; subst q2
      refine ⟨fun _ _ _ _ => rfl, _, SepOK.one.2 ⟨_, ⟨b, β + i * esz, κ - i, bind1_at, by omega, by omega, rfl, fun o o1 o2 => q3 o (by omega) (by omega), fun q hq => ?_⟩, fun _ _ => .rfl⟩, ?_, fun _ _ _ h => .inl h⟩
      · unfold appRow
        rw [if_pos (by omega), Nat.add_assoc β, ← Nat.add_mul]
        exact ⟨(q4 (i + q) (by omega)).1, (q4 (i + q) (by omega)).2.keep (Env.le_refl _) (fun _ _ _ => rfl)⟩
      · rintro x o ⟨rfl, o1, o2⟩
        have := hFu x o ⟨rfl, by omega, by omega⟩
        exact ⟨.inl ⟨rfl, by omega, by omega⟩, this.1, this.2⟩
  · obtain ⟨sb, sof, rfl, hu2⟩ := hu.resolve_left hm0
    obtain ⟨news, n1, n2, n3, n4⟩ := rows_read hu2
    have olds : ∃ olds : List Value, olds.length = p * esz ∧ (∀ (j : Nat) x, olds[j]? = some x → w.cell? ⟨b, β + i * esz + j, none⟩ = some x) ∧ ∀ q, q < p → RepL (row (i + q)) (.bare e.G) ((olds.drop (q * esz)).take esz) := by
      obtain ⟨l, l1, l2, _, l3⟩ := rows_read (e := .bare e.G) (w := w) (esz := esz) (m := p) (b := b) (o := β + i * esz) (row := fun q => row (i + q)) (fun q hq => by
        have := h6 (i + q) (by omega)
        rw [Nat.add_mul, ← Nat.add_assoc] at this
        exact ⟨this.1, this.2.readable⟩)
      exact ⟨l, l1, fun j x hx => by have := l2 j x hx; rwa [add_addr] at this, l3⟩
    obtain ⟨olds, ol1, ol2, ol3⟩ := olds
    by_cases hroom : p + m2 ≤ κ - i
    · have hik : i < κ := by omega
      rw [g3 hik]
      have hex : ∀ j, j < news.length → ∃ y, CellW w b (β + i * esz + p * esz + j) y := fun j hj => by
        refine h5 _ (by omega) ?_
        rw [n1] at hj
        have : (i + p + m2) * esz ≤ κ * esz := Nat.mul_le_mul_right _ (by omega)
        rw [Nat.add_mul, Nat.add_mul] at this; omega
      obtain ⟨f1, f2, f3, f4, f5, f6⟩ := setCells_facts b news (β + i * esz + p * esz) w hex
      have hrun := run_append_room_cells (P := P) w t ty el pi ht hi b (β + i * esz) p (κ - i) ⟨sb, sof, none⟩ m2 cc news (by rw [hsz]; exact n1) n2 n3 hroom
        (fun j hj => by rw [hsz]; obtain ⟨y, hy⟩ := hex j hj; simp [hy.cell]) (fun j hj => by rw [hsz]; obtain ⟨y, hy⟩ := hex j hj; exact hy.frozen)
      rw [hsz] at hrun
      refine ⟨bind1 e nm (b, β + i * esz, κ - i), _, _, hrun, bind1_le hfree, ?_, ?_⟩
      · simp only [Rep]
        exact ⟨b, β + i * esz, κ - i, _, bind1_at, by omega, by simp; rfl, fun _ => by simp⟩
      · refine MemOK.upd1 (vs := [_]) M (bind1_le hfree) (hfr _) f4 f5 f6 (Nat.le_of_eq f3.symm) fun Fu ⟨b', β', κ', q1, _, _, q2, q3, q4⟩ hFu => ?_
        rw [h1] at q1; cases q1; subst q2
        have hpm : p * esz + m2 * esz ≤ (κ - i) * esz := by rw [← Nat.add_mul]; exact Nat.mul_le_mul_right _ hroom
        refine ⟨fun x o _ hno => f1 _ _ (by rintro ⟨rfl, o1, o2⟩; exact hno ⟨rfl, by omega, by omega⟩), _, SepOK.one.2 ⟨_, ⟨b, β + i * esz, κ - i, bind1_at, hroom, by omega, rfl, fun o o1 o2 => ?_, fun q hq => ?_⟩, fun _ _ => .rfl⟩, ?_, fun _ _ _ h => .inl h⟩
        · by_cases ho : β + i * esz + p * esz ≤ o ∧ o < β + i * esz + p * esz + news.length
          · obtain ⟨y, hy⟩ : ∃ y, news[o - (β + i * esz + p * esz)]? = some y := ⟨_, List.getElem?_eq_getElem (by omega)⟩
            have := f2 _ y hy
            rw [show β + i * esz + p * esz + (o - (β + i * esz + p * esz)) = o by omega] at this
            exact ⟨y, this⟩
          · obtain ⟨y, hy⟩ := q3 o (by omega) (by omega)
            exact ⟨y, hy.keep (f1 _ _ (by omega))⟩
        · unfold appRow
          by_cases hqp : q < p
          · rw [if_pos hqp, show β + i * esz + q * esz = β + (i + q) * esz by rw [Nat.add_mul, Nat.add_assoc]]
            have hl := (q4 (i + q) (by omega)).1
            refine ⟨hl, (q4 (i + q) (by omega)).2.keep (Env.le_refl _) (fun o o1 o2 => f1 _ _ ?_)⟩
            rw [hl] at o2
            have : q * esz + esz ≤ p * esz := by have : (q + 1) * esz ≤ p * esz := Nat.mul_le_mul_right _ hqp; rwa [Nat.add_mul, Nat.one_mul] at this
            rw [Nat.add_mul] at o2
            omega
          · rw [if_neg hqp]
            have hl := (hu2 (q - p) (by omega)).1
            refine ⟨hl, .of_repL (n4 (q - p) (by omega)) fun j y hy => ?_⟩
            have hj := (List.getElem?_eq_some_iff.1 hy).1
            rw [List.length_take] at hj
            rw [List.getElem?_take, if_pos (by omega), List.getElem?_drop] at hy
            have := f2 _ y hy
            have he : p * esz + (q - p) * esz = q * esz := by rw [← Nat.add_mul]; congr 1; omega
            rwa [show β + i * esz + p * esz + ((q - p) * esz + j) = β + i * esz + q * esz + j by omega] at this
        · rintro x o ⟨rfl, o1, o2⟩
          have := hFu x o ⟨rfl, by omega, by omega⟩
          exact ⟨.inl ⟨rfl, by omega, by omega⟩, by rw [f3]; exact this.1, this.2⟩
    · have hgrow : ∃ v' w', (Builtin.append_ #[t, t] ty #[.slice ao p (κ - i), .slice (some ⟨sb, sof, none⟩) m2 cc]).run P w = .ok v' w' ∧ w'.ownsRow w.heap.size el esz v' (p + m2) (olds ++ news) ∧ w.grownBy w' none := by
        cases ao with
        | some ad =>
          refine run_append_arg_grows (P := P) w t ty el pi z esz pi.bytes ht hi hz hsz rfl hzs hpos ad p (κ - i) olds ol1 (fun j x hx => ?_) ⟨sb, sof, none⟩ m2 cc news n1 n2 (by omega) b1 b2
          rcases Nat.lt_or_ge i κ with hik | hik
          · have := g3 hik; cases this
            rw [add_addr]; exact ol2 j x hx
          · have : p = 0 := by omega
            subst this
            have := (List.getElem?_eq_some_iff.1 hx).1
            omega
        | none =>
          have hki : ¬ i < κ := fun hik => by have := g3 hik; cases this
          have hp0 : p = 0 := by omega
          have hk0 : κ - i = 0 := by omega
          subst hp0
          rw [hk0]
          have : olds = [] := List.eq_nil_of_length_eq_zero (by omega)
          subst this
          obtain ⟨v', w', r1, r2, r3, _⟩ := run_append_own (P := P) w w.heap.size t ty el pi z esz pi.bytes ht hi hz hsz rfl hzs hpos (.slice none 0 0) 0 [] (World.ownsRow_nil w _ el esz) ⟨sb, sof, none⟩ m2 cc news n1 n2 n3 b1 b2 (Nat.le_refl _)
          exact ⟨v', w', r1, r2, r3⟩
      obtain ⟨v', w', r1, ⟨r2, r3⟩, r4⟩ := hgrow
      obtain ⟨g, cap, cur, rfl, c1, c2, c3, c4, c5, c6⟩ := r3.resolve_left (fun h => by omega)
      have hcell : ∀ (j : Nat) x, cur[j]? = some x → CellW w' g j x := fun j x hx => ⟨cur.size, el, by unfold atw; rw [c2]; simp [hx]⟩
      have hgs : g < w'.heap.size := (Array.getElem?_eq_some_iff.1 c2).1
      refine ⟨bind1 e nm (g, 0, cap), _, w', r1, bind1_le hfree, ?_, ?_⟩
      · simp only [Rep]
        exact ⟨g, 0, cap, _, bind1_at, by omega, rfl, fun _ => by simp⟩
      · have M' : MemOK X e fr ([.vec k esz m row] ++ c) w := M
        refine MemOK.upd (us := []) (vs := [_]) M'.drop (bind1_le hfree) (hfr _) r4.os r4.tape r4.output r4.size fun Fu hFu _ => ⟨fun x o hx _ => atw_of (r4.block x hx (by simp)) o, fun x o => x = g ∧ 0 ≤ o ∧ o < 0 + cap * esz, SepOK.one.2 ⟨_, ⟨g, 0, cap, bind1_at, c3, c4, rfl, fun o _ o2 => ?_, fun q hq => ?_⟩, fun _ _ => .rfl⟩, ?_, fun _ _ _ h => .inl h⟩
        · exact ⟨cur[o]'(by omega), hcell o _ (by simp)⟩
        · have hrow : ∃ ys : List Value, RepL (appRow p (fun q => row (i + q)) row2 q) (.bare e.G) ys ∧ ys = ((olds ++ news).drop (q * esz)).take esz := by
            refine ⟨_, ?_, rfl⟩
            unfold appRow
            by_cases hqp : q < p
            · rw [if_pos hqp]
              have := ol3 q hqp
              have hle2 : q * esz + esz ≤ p * esz := by have : (q + 1) * esz ≤ p * esz := Nat.mul_le_mul_right _ hqp; rwa [Nat.add_mul, Nat.one_mul] at this
              rw [List.drop_append_of_le_length (by omega), List.take_append_of_le_length (by simp; omega)]
              exact this
            · rw [if_neg hqp]
              have := n4 (q - p) (by omega)
              have he : p * esz + (q - p) * esz = q * esz := by rw [← Nat.add_mul]; congr 1; omega
              rw [List.drop_append, List.drop_eq_nil_of_le (by omega), List.nil_append, show q * esz - olds.length = (q - p) * esz by omega]
              exact this
          obtain ⟨ys, y1, y2⟩ := hrow
          have hyl := y1.len
          have hq2 : q * esz + esz ≤ (p + m2) * esz := by have : (q + 1) * esz ≤ (p + m2) * esz := Nat.mul_le_mul_right _ hq; rwa [Nat.add_mul, Nat.one_mul] at this
          have hlen : (appRow p (fun q => row (i + q)) row2 q).length = esz := by
            rw [← hyl, y2, List.length_take, List.length_drop, r2]; omega
          refine ⟨hlen, .of_repL y1 fun j y hy => ?_⟩
          have hj := (List.getElem?_eq_some_iff.1 hy).1
          rw [hyl, hlen] at hj
          rw [y2, List.getElem?_take, if_pos hj, List.getElem?_drop, ← c6, List.getElem?_take, if_pos (by omega)] at hy
          have := hcell _ y (by simpa using hy)
          simpa using this
        · rintro x o ⟨rfl, _, _⟩
          exact ⟨.inr c1, hgs, M.fresh c1⟩
end
end Go.E
