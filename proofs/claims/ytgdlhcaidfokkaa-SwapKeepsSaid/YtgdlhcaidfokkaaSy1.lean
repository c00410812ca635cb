/- The symbolic walk, part 1: abstract values, what they say of memory, and that it stays true as memory grows. Generic: no program in sight. -/
import Derived.WalkKit
import Derived.WalkLawsBesides
import Derived.WalkSpells
import Derived.Deep.Quiet
set_option linter.unusedSimpArgs false
set_option linter.unusedVariables false
namespace Go.Sy
open Go.RowKit

/-- What is known of immutable memory: block, offset, value. -/
abbrev IM := Nat → Nat → Option Value

def IM.le (G H : IM) : Prop := ∀ b o v, G b o = some v → H b o = some v
theorem IM.le_refl (G : IM) : IM.le G G := fun _ _ _ h => h
theorem IM.le_trans {F G H : IM} (h : IM.le F G) (k : IM.le G H) : IM.le F H := fun b o v e => k b o v (h b o v e)

/-- A property of a value over immutable memory that stays as memory grows. -/
structure RP where
  R : IM → Value → Prop
  mono : ∀ {G H : IM}, IM.le G H → ∀ {v}, R G v → R H v
  one : ∀ {G v}, R G v → v.oneCell' = true

inductive AV where
  | bad
  | v (x : Value)
  | s (l : List UInt8)
  | agg (cs : List AV)
  | tup (cs : List AV)
  | sl (n esz : Nat) (row : Nat → List AV)
  | cp (cells : List AV)
  | bp (k off : Nat)
  | own (k : Nat)
  | ep (k i esz j : Nat)
  | p (R : RP)

def S (l : List UInt8) : Value := .string ⟨l.toArray⟩

mutual
def RepI (G : IM) : AV → Value → Prop
  | .v x, y => y = x
  | .s l, y => y = S l
  | .agg cs, y => ∃ ys, y = .agg ys ∧ RepIL G cs ys.toList
  | .tup cs, y => ∃ ys, y = .tuple ys ∧ RepIT G cs ys.toList
  | .sl n esz row, y => ∃ a c, y = .slice a n c ∧ n ≤ c ∧ (n = 0 ∨ ∃ b o, a = some ⟨b, o, none⟩ ∧ ∀ i, i < n → CellsAt G (row i) b (o + i * esz))
  | .cp cells, y => ∃ b o, y = .pointer (some ⟨b, o, none⟩) ∧ CellsAt G cells b o
  | .p R, y => R.R G y
  | .bad, _ => False
  | .bp _ _, _ => False
  | .own _, _ => False
  | .ep _ _ _ _, _ => False
def RepIL (G : IM) : List AV → List Value → Prop
  | [], ys => ys = []
  | c :: cs, ys => ∃ z zs, ys = z :: zs ∧ RepI G c z ∧ z.oneCell' = true ∧ RepIL G cs zs
def RepIT (G : IM) : List AV → List Value → Prop
  | [], ys => ys = []
  | c :: cs, ys => ∃ z zs, ys = z :: zs ∧ RepI G c z ∧ RepIT G cs zs
def CellsAt (G : IM) : List AV → Nat → Nat → Prop
  | [], _, _ => True
  | c :: cs, b, o => (∃ z, G b o = some z ∧ RepI G c z ∧ z.oneCell' = true) ∧ CellsAt G cs b (o + 1)
end

mutual
theorem RepI.mono {G H : IM} (h : IM.le G H) : ∀ (x : AV) {y : Value}, RepI G x y → RepI H x y
  | .v x, y, r => by simpa [RepI] using r
  | .s l, y, r => by simpa [RepI] using r
  | .agg cs, y, r => by
    simp only [RepI] at r ⊢
    obtain ⟨ys, e, r⟩ := r
    exact ⟨ys, e, RepIL.mono h cs r⟩
  | .tup cs, y, r => by
    simp only [RepI] at r ⊢
    obtain ⟨ys, e, r⟩ := r
    exact ⟨ys, e, RepIT.mono h cs r⟩
  | .sl n esz row, y, r => by
    simp only [RepI] at r ⊢
    obtain ⟨a, c, e, hc, r⟩ := r
    refine ⟨a, c, e, hc, ?_⟩
    rcases r with r | ⟨b, o, ea, r⟩
    · exact .inl r
    · exact .inr ⟨b, o, ea, fun i hi => CellsAt.mono h (row i) (r i hi)⟩
  | .cp cells, y, r => by
    simp only [RepI] at r ⊢
    obtain ⟨b, o, e, r⟩ := r
    exact ⟨b, o, e, CellsAt.mono h cells r⟩
  | .p R, y, r => by
    simp only [RepI] at r ⊢
    exact R.mono h r
  | .bad, y, r => by simp [RepI] at r
  | .bp _ _, y, r => by simp [RepI] at r
  | .own _, y, r => by simp [RepI] at r
  | .ep _ _ _ _, y, r => by simp [RepI] at r
theorem RepIL.mono {G H : IM} (h : IM.le G H) : ∀ (cs : List AV) {ys : List Value}, RepIL G cs ys → RepIL H cs ys
  | [], ys, r => by simpa [RepIL] using r
  | c :: cs, ys, r => by
    simp only [RepIL] at r ⊢
    obtain ⟨z, zs, e, r1, r2, r3⟩ := r
    exact ⟨z, zs, e, RepI.mono h c r1, r2, RepIL.mono h cs r3⟩
theorem RepIT.mono {G H : IM} (h : IM.le G H) : ∀ (cs : List AV) {ys : List Value}, RepIT G cs ys → RepIT H cs ys
  | [], ys, r => by simpa [RepIT] using r
  | c :: cs, ys, r => by
    simp only [RepIT] at r ⊢
    obtain ⟨z, zs, e, r1, r3⟩ := r
    exact ⟨z, zs, e, RepI.mono h c r1, RepIT.mono h cs r3⟩
theorem CellsAt.mono {G H : IM} (h : IM.le G H) : ∀ (cs : List AV) {b o : Nat}, CellsAt G cs b o → CellsAt H cs b o
  | [], b, o, r => by simp [CellsAt]
  | c :: cs, b, o, r => by
    simp only [CellsAt] at r ⊢
    obtain ⟨⟨z, e, r1, r2⟩, r3⟩ := r
    exact ⟨⟨z, h _ _ _ e, RepI.mono h c r1, r2⟩, CellsAt.mono h cs r3⟩
end

structure Env where
  G : IM
  μ : Nat → Nat
  hd : Nat → Value

mutual
def Rep (e : Env) : AV → Value → Prop
  | .bad, _ => True
  | .bp k off, y => y = .pointer (some ⟨e.μ k, off, none⟩)
  | .own k, y => y = e.hd k ∧ ∃ a n c, y = .slice a n c
  | .ep k i esz j, y => y = .pointer (some ⟨(e.hd k).ownBlock.getD 0, i * esz + j, none⟩)
  | .agg cs, y => ∃ ys, y = .agg ys ∧ RepL e cs ys.toList
  | .tup cs, y => ∃ ys, y = .tuple ys ∧ RepT e cs ys.toList
  | .v x, y => y = x
  | .s l, y => y = S l
  | .sl n esz row, y => RepI e.G (.sl n esz row) y
  | .cp cells, y => RepI e.G (.cp cells) y
  | .p R, y => R.R e.G y
def RepL (e : Env) : List AV → List Value → Prop
  | [], ys => ys = []
  | c :: cs, ys => ∃ z zs, ys = z :: zs ∧ Rep e c z ∧ z.oneCell' = true ∧ RepL e cs zs
def RepT (e : Env) : List AV → List Value → Prop
  | [], ys => ys = []
  | c :: cs, ys => ∃ z zs, ys = z :: zs ∧ Rep e c z ∧ RepT e cs zs
end

/-- Does the abstract value not name object k? -/
def AV.no (k : Nat) : AV → Bool
  | .bp j _ => j != k
  | .own j => j != k
  | .ep j _ _ _ => j != k
  | .agg cs => noL k cs
  | .tup cs => noL k cs
  | _ => true
where noL (k : Nat) : List AV → Bool
  | [] => true
  | c :: cs => AV.no k c && noL k cs

mutual
theorem Rep.mono {e f : Env} (hG : IM.le e.G f.G) : ∀ (x : AV) {y : Value}, (∀ j, x.no j = false → f.μ j = e.μ j ∧ f.hd j = e.hd j) → Rep e x y → Rep f x y
  | .bad, y, _, _ => by simp [Rep]
  | .bp k off, y, h, r => by
    simp only [Rep] at r ⊢
    rw [(h k (by simp [AV.no])).1]; exact r
  | .own k, y, h, r => by
    simp only [Rep] at r ⊢
    rw [(h k (by simp [AV.no])).2]; exact r
  | .ep k i esz j, y, h, r => by
    simp only [Rep] at r ⊢
    rw [(h k (by simp [AV.no])).2]; exact r
  | .agg cs, y, h, r => by
    simp only [Rep] at r ⊢
    obtain ⟨ys, e, r⟩ := r
    exact ⟨ys, e, RepL.mono hG cs (fun j hj => h j (by simpa [AV.no] using hj)) r⟩
  | .tup cs, y, h, r => by
    simp only [Rep] at r ⊢
    obtain ⟨ys, e, r⟩ := r
    exact ⟨ys, e, RepT.mono hG cs (fun j hj => h j (by simpa [AV.no] using hj)) r⟩
  | .v x, y, _, r => by simpa [Rep] using r
  | .s x, y, _, r => by simpa [Rep] using r
  | .sl n esz row, y, _, r => by
    simp only [Rep] at r ⊢
    exact RepI.mono hG _ r
  | .cp cells, y, _, r => by
    simp only [Rep] at r ⊢
    exact RepI.mono hG _ r
  | .p R, y, _, r => by
    simp only [Rep] at r ⊢
    exact R.mono hG r
theorem RepL.mono {e f : Env} (hG : IM.le e.G f.G) : ∀ (cs : List AV) {ys : List Value}, (∀ j, AV.no.noL j cs = false → f.μ j = e.μ j ∧ f.hd j = e.hd j) → RepL e cs ys → RepL f cs ys
  | [], ys, _, r => by simpa [RepL] using r
  | c :: cs, ys, h, r => by
    simp only [RepL] at r ⊢
    obtain ⟨z, zs, e, r1, r2, r3⟩ := r
    exact ⟨z, zs, e, Rep.mono hG c (fun j hj => h j (by simp [AV.no.noL, hj])) r1, r2, RepL.mono hG cs (fun j hj => h j (by simp [AV.no.noL, hj])) r3⟩
theorem RepT.mono {e f : Env} (hG : IM.le e.G f.G) : ∀ (cs : List AV) {ys : List Value}, (∀ j, AV.no.noL j cs = false → f.μ j = e.μ j ∧ f.hd j = e.hd j) → RepT e cs ys → RepT f cs ys
  | [], ys, _, r => by simpa [RepT] using r
  | c :: cs, ys, h, r => by
    simp only [RepT] at r ⊢
    obtain ⟨z, zs, e, r1, r3⟩ := r
    exact ⟨z, zs, e, Rep.mono hG c (fun j hj => h j (by simp [AV.no.noL, hj])) r1, RepT.mono hG cs (fun j hj => h j (by simp [AV.no.noL, hj])) r3⟩
end

/-- Does the abstract value name no object at all, and is it good everywhere? -/
def AV.imm : AV → Bool
  | .bad => false
  | .bp _ _ => false
  | .own _ => false
  | .ep _ _ _ _ => false
  | .agg cs => immL cs
  | .tup cs => immL cs
  | _ => true
where immL : List AV → Bool
  | [] => true
  | c :: cs => AV.imm c && immL cs

mutual
theorem Rep.toI {e : Env} : ∀ (x : AV) {y : Value}, x.imm = true → Rep e x y → RepI e.G x y
  | .bad, y, h, _ => by simp [AV.imm] at h
  | .bp _ _, y, h, _ => by simp [AV.imm] at h
  | .own _, y, h, _ => by simp [AV.imm] at h
  | .ep _ _ _ _, y, h, _ => by simp [AV.imm] at h
  | .agg cs, y, h, r => by
    simp only [Rep, RepI] at r ⊢
    obtain ⟨ys, e, r⟩ := r
    exact ⟨ys, e, RepL.toI cs (by simpa [AV.imm] using h) r⟩
  | .tup cs, y, h, r => by
    simp only [Rep, RepI] at r ⊢
    obtain ⟨ys, e, r⟩ := r
    exact ⟨ys, e, RepT.toI cs (by simpa [AV.imm] using h) r⟩
  | .v x, y, _, r => by simpa [Rep, RepI] using r
  | .s x, y, _, r => by simpa [Rep, RepI] using r
  | .sl n esz row, y, _, r => by simpa only [Rep] using r
  | .cp cells, y, _, r => by simpa only [Rep] using r
  | .p R, y, _, r => by simpa [Rep, RepI] using r
theorem RepL.toI {e : Env} : ∀ (cs : List AV) {ys : List Value}, AV.imm.immL cs = true → RepL e cs ys → RepIL e.G cs ys
  | [], ys, _, r => by simpa [RepL, RepIL] using r
  | c :: cs, ys, h, r => by
    simp only [AV.imm.immL, Bool.and_eq_true] at h
    simp only [RepL, RepIL] at r ⊢
    obtain ⟨z, zs, e, r1, r2, r3⟩ := r
    exact ⟨z, zs, e, Rep.toI c h.1 r1, r2, RepL.toI cs h.2 r3⟩
theorem RepT.toI {e : Env} : ∀ (cs : List AV) {ys : List Value}, AV.imm.immL cs = true → RepT e cs ys → RepIT e.G cs ys
  | [], ys, _, r => by simpa [RepT, RepIT] using r
  | c :: cs, ys, h, r => by
    simp only [AV.imm.immL, Bool.and_eq_true] at h
    simp only [RepT, RepIT] at r ⊢
    obtain ⟨z, zs, e, r1, r3⟩ := r
    exact ⟨z, zs, e, Rep.toI c h.1 r1, RepT.toI cs h.2 r3⟩
end

mutual
theorem RepI.toRep {e : Env} : ∀ (x : AV) {y : Value}, RepI e.G x y → Rep e x y
  | .bad, y, h => by simp [RepI] at h
  | .bp _ _, y, h => by simp [RepI] at h
  | .own _, y, h => by simp [RepI] at h
  | .ep _ _ _ _, y, h => by simp [RepI] at h
  | .agg cs, y, r => by
    simp only [Rep, RepI] at r ⊢
    obtain ⟨ys, e, r⟩ := r
    exact ⟨ys, e, RepIL.toRep cs r⟩
  | .tup cs, y, r => by
    simp only [Rep, RepI] at r ⊢
    obtain ⟨ys, e, r⟩ := r
    exact ⟨ys, e, RepIT.toRep cs r⟩
  | .v x, y, r => by simpa [Rep, RepI] using r
  | .s x, y, r => by simpa [Rep, RepI] using r
  | .sl n esz row, y, r => by simpa only [Rep] using r
  | .cp cells, y, r => by simpa only [Rep] using r
  | .p R, y, r => by simpa [Rep, RepI] using r
theorem RepIL.toRep {e : Env} : ∀ (cs : List AV) {ys : List Value}, RepIL e.G cs ys → RepL e cs ys
  | [], ys, r => by simpa [RepL, RepIL] using r
  | c :: cs, ys, r => by
    simp only [RepL, RepIL] at r ⊢
    obtain ⟨z, zs, e, r1, r2, r3⟩ := r
    exact ⟨z, zs, e, RepI.toRep c r1, r2, RepIL.toRep cs r3⟩
theorem RepIT.toRep {e : Env} : ∀ (cs : List AV) {ys : List Value}, RepIT e.G cs ys → RepT e cs ys
  | [], ys, r => by simpa [RepT, RepIT] using r
  | c :: cs, ys, r => by
    simp only [RepT, RepIT] at r ⊢
    obtain ⟨z, zs, e, r1, r3⟩ := r
    exact ⟨z, zs, e, RepI.toRep c r1, RepIT.toRep cs r3⟩
end

/-- Owned memory whose addresses are known: what is said of it holds on as long as its blocks are as they were. -/
structure Abs where
  bs : List Nat
  ok : IM → World → Prop
  keep : ∀ {G H : IM} {w w' : World}, IM.le G H → (∀ b, b ∈ bs → w'.heap[b]? = w.heap[b]?) → ok G w → ok H w'

/-- Chunks of memory that this activation owns. -/
inductive Ch where
  | box (k : Nat) (T : TypeId) (cells : List AV)
  | vec (k : Nat) (T : TypeId) (esz n : Nat) (row : Nat → List AV)
  | obj (k : Nat) (o : Obj)
  | abs (A : Abs)

def Ch.id : Ch → Nat
  | .box k _ _ => k
  | .vec k _ _ _ _ => k
  | .obj k _ => k
  | .abs _ => 1000000
def Ch.no (j : Nat) : Ch → Bool
  | .box k _ cells => k != j && AV.no.noL j cells
  | .vec k _ _ _ _ => k != j
  | .obj k _ => k != j
  | .abs _ => true

def RowsL (G : IM) (esz n : Nat) (row : Nat → List AV) (xs : List Value) : Prop :=
  ∀ i, i < n → RepIL G (row i) ((xs.drop (i * esz)).take esz)

def ChOK (e : Env) (w : World) : Ch → List Nat → Prop
  | .box k T cells, bs => bs = [e.μ k] ∧ ∃ arr, w.heap[e.μ k]? = some (.cells arr T (0, 0)) ∧ RepL e cells arr.toList
  | .vec k T esz n row, bs => bs = (e.hd k).ownBlock.toList ∧ ∃ xs, w.ownsRow 0 T esz (e.hd k) n xs ∧ RowsL e.G esz n row xs
  | .obj k o, bs => bs = [e.μ k] ∧ w.heap[e.μ k]? = some o
  | .abs A, bs => bs = A.bs ∧ A.ok e.G w

theorem RowsL.mono {G H : IM} (h : IM.le G H) {esz n : Nat} {row : Nat → List AV} {xs : List Value} (r : RowsL G esz n row xs) : RowsL H esz n row xs :=
  fun i hi => RepIL.mono h (row i) (r i hi)

theorem ownsRow_of_blocks {w w' : World} {base e size : Nat} {v : Value} {n : Nat} {xs : List Value} (h : w.ownsRow base e size v n xs)
    (hb : ∀ b, v.ownBlock = some b → w'.heap[b]? = w.heap[b]?) : w'.ownsRow base e size v n xs := by
  refine ⟨h.1, ?_⟩
  rcases h.2 with hn | ⟨g, cap, cur, rfl, hbb, hg, rest⟩
  · exact .inl hn
  · refine .inr ⟨g, cap, cur, rfl, hbb, ?_, rest⟩
    rw [hb g (by simp [Value.ownBlock])]
    exact hg

/-- A chunk holds on, if its blocks are as they were. -/
theorem ChOK.keep {e f : Env} {w w' : World} (hG : IM.le e.G f.G) (c : Ch) {bs : List Nat} (hid : ∀ j, c.no j = false → f.μ j = e.μ j ∧ f.hd j = e.hd j)
    (hb : ∀ b, b ∈ bs → w'.heap[b]? = w.heap[b]?) (h : ChOK e w c bs) : ChOK f w' c bs := by
  cases c with
  | box k T cells =>
    obtain ⟨rfl, arr, h1, h2⟩ := h
    have hk := hid k (by simp [Ch.no])
    refine ⟨by rw [hk.1], arr, ?_, RepL.mono hG cells (fun j hj => hid j (by simp [Ch.no, hj])) h2⟩
    rw [hk.1, hb _ (by simp)]
    exact h1
  | vec k T esz n row =>
    obtain ⟨rfl, xs, h1, h2⟩ := h
    have hk := hid k (by simp [Ch.no])
    refine ⟨by rw [hk.2], xs, ?_, h2.mono hG⟩
    rw [hk.2]
    exact ownsRow_of_blocks h1 (fun b hbb => hb b (by simp [hbb]))
  | obj k o =>
    obtain ⟨rfl, h1⟩ := h
    have hk := hid k (by simp [Ch.no])
    refine ⟨by rw [hk.1], ?_⟩
    rw [hk.1, hb _ (by simp)]
    exact h1
  | abs A =>
    obtain ⟨rfl, h1⟩ := h
    exact ⟨rfl, A.keep hG hb h1⟩

/-! ### The types' table -/
inductive TD where
  | other
  | bool
  | int (k : IntKind)
  | str
  | struct (fs : List (Nat × Nat))
  | arr (len elem : Nat)
  | slice (elem : Nat)

structure TI where
  size : Nat
  bytes : Nat
  agg : Bool
  zero : List Value
  d : TD

abbrev Tab := Nat → Option TI

def TDOK (P : Program) : TD → TypeDesc → Prop
  | .other, _ => True
  | .bool, d => d = .bool
  | .int k, d => d = .int k
  | .str, d => d = .string
  | .struct fs, d => ∃ fields, d = .struct fields ∧ fields.toList.map (fun f => (f.offset, P.cellsOf f.type)) = fs ∧ ∀ f ∈ fields, (P.info? f.type).isSome = true
  | .arr len elem, d => d = .array len elem
  | .slice elem, d => d = .slice elem

structure TIOK (P : Program) (t : Nat) (i : TI) : Prop where
  info : ∃ pi z, P.info? t = some pi ∧ pi.size = i.size ∧ pi.bytes = i.bytes ∧ pi.zero = some z ∧ z.cells.toList = i.zero ∧ i.zero.all (·.oneCell') = true ∧ i.zero.length = i.size
  desc : ∃ d, P.underlying t = some d ∧ i.agg = (match d with | .struct _ | .array _ _ => true | _ => false) ∧ TDOK P i.d d

def TabOK (P : Program) (T : Tab) : Prop := ∀ t i, T t = some i → TIOK P t i


end Go.Sy
