/- The symbolic walk, part 1: abstract values, what they say of memory, and that it stays true as memory grows. Generic: no program in sight. -/
import Derived.WalkKit
import Derived.WalkLawsBesides
import Derived.WalkSpells
import Derived.Deep.Quiet
namespace Go.Sy
theorem pL : (∀ {p : Prop} [Decidable p], (decide p = true) = p) ∧ (∀ {p : Prop} [Decidable p], (decide p = false) = ¬ p) ∧ (∀ {b : Bool}, ((!b) = true) = (b = false)) ∧ (∀ {b : Bool}, ((!b) = false) = (b = true)) ∧ (∀ {α : Type} [BEq α] [LawfulBEq α] {a b : α}, ((a == b) = true) = (a = b)) ∧
    (∀ {α : Type} [BEq α] [LawfulBEq α] {a b : α}, ((a == b) = false) = ¬ (a = b)) ∧ (∀ {α : Type} [BEq α] [LawfulBEq α] {a b : α}, ((a != b) = true) = ¬ (a = b)) ∧ (∀ {α : Type} [BEq α] [LawfulBEq α] {a b : α}, ((a != b) = false) = (a = b)) ∧ (∀ {α : Type} {a b : α}, (a ≠ b) = ¬ (a = b)) ∧ (∀ {p : Prop}, (¬ ¬ p) = p) :=
  ⟨fun {p} _ => decide_eq_true_eq, fun {p} _ => by simp, fun {b} => by simp, fun {b} => by simp, fun {α} _ _ a b => by simp, fun {α} _ _ a b => by simp, fun {α} _ _ a b => by simp, fun {α} _ _ a b => by simp, rfl, fun {p} => by simp⟩
end Go.Sy
set_option linter.unusedSimpArgs false
set_option linter.unusedVariables false
namespace Go.Sy
open Go.RowKit

structure LzT where
  T : TypeId
  R : (Nat → Nat → Option Value) → (Nat → Option (List (Value × Value))) → List Value → Prop
  mono : ∀ {c c' : Nat → Nat → Option Value} {m m' : Nat → Option (List (Value × Value))}, (∀ b o v, c b o = some v → c' b o = some v) → (∀ b x, m b = some x → m' b = some x) → ∀ {l}, R c m l → R c' m' l

inductive MZ where
  | map (es : List (Value × Value))
  | lz (L : LzT)

structure IM where
  c : Nat → Nat → Option Value
  m : Nat → Option MZ
instance : CoeFun IM (fun _ => Nat → Nat → Option Value) := ⟨IM.c⟩
def IM.empty : IM := ⟨fun _ _ => none, fun _ => none⟩

def IM.free (G : IM) (b : Nat) : Prop := (∀ o, G b o = none) ∧ G.m b = none
def IM.le (G H : IM) : Prop := (∀ b o v, G b o = some v → H b o = some v) ∧ ∀ b x, G.m b = some x → H.m b = some x
theorem IM.le_refl (G : IM) : IM.le G G := ⟨fun _ _ _ h => h, fun _ _ h => h⟩
theorem IM.le_trans {F G H : IM} (h : IM.le F G) (k : IM.le G H) : IM.le F H := ⟨fun b o v e => k.1 b o v (h.1 b o v e), fun b x e => k.2 b x (h.2 b x e)⟩
theorem IM.empty_le (G : IM) : IM.le IM.empty G := ⟨fun _ _ _ h => absurd h (by simp [IM.empty]), fun _ _ h => absurd h (by simp [IM.empty])⟩

structure RP where
  R : IM → Value → Prop
  mono : ∀ {G H : IM}, IM.le G H → ∀ {v}, R G v → R H v
  one : ∀ {G v}, R G v → v.oneCell' = true

inductive AV where
  | bad
  | v (x : Value)
  | s (l : List UInt8)
  | agg (cs : List AV)
  | tup (cs : List AV)
  | sl (n esz : Nat) (row : Nat → List AV)
  | cp (cells : List AV)
  | bp (k off : Nat)
  | own (k : Nat)
  | ep (k i esz j : Nat)
  | p (R : RP)
  | clo (f : FuncId) (caps : List AV)
  | ifc (t : Nat) (x : AV)
  | mp (k : Nat)
  | mapI (ks : List Value) (xs : List AV)

def S (l : List UInt8) : Value := .string ⟨l.toArray⟩

mutual
def RepI (G : IM) : AV → Value → Prop
  | .v x, y => y = x
  | .s l, y => y = S l
  | .agg cs, y => ∃ ys, y = .agg ys ∧ RepIL G cs ys.toList
  | .tup cs, y => ∃ ys, y = .tuple ys ∧ RepIT G cs ys.toList
  | .sl n esz row, y => ∃ a c, y = .slice a n c ∧ n ≤ c ∧ (n = 0 ∨ ∃ b o, a = some ⟨b, o, none⟩ ∧ ∀ i, i < n → CellsAt G (row i) b (o + i * esz))
  | .cp cells, y => ∃ b o, y = .pointer (some ⟨b, o, none⟩) ∧ CellsAt G cells b o
  | .p R, y => R.R G y
  | .clo f caps, y => ∃ vs, y = .func (.func f) #[] vs ∧ RepIT G caps vs.toList
  | .ifc t x, y => ∃ v, y = .iface t v ∧ RepI G x v
  | .mapI ks xs, y => ∃ b vs, y = .map (some b) ∧ G.m b = some (.map (ks.zip vs)) ∧ ks.length = vs.length ∧ RepIT G xs vs
  | .mp _, _ => False
  | .bad, _ => False
  | .bp _ _, _ => False
  | .own _, _ => False
  | .ep _ _ _ _, _ => False
def RepIL (G : IM) : List AV → List Value → Prop
  | [], ys => ys = []
  | c :: cs, ys => ∃ z zs, ys = z :: zs ∧ RepI G c z ∧ z.oneCell' = true ∧ RepIL G cs zs
def RepIT (G : IM) : List AV → List Value → Prop
  | [], ys => ys = []
  | c :: cs, ys => ∃ z zs, ys = z :: zs ∧ RepI G c z ∧ RepIT G cs zs
def CellsAt (G : IM) : List AV → Nat → Nat → Prop
  | [], _, _ => True
  | c :: cs, b, o => (∃ z, G b o = some z ∧ RepI G c z ∧ z.oneCell' = true) ∧ CellsAt G cs b (o + 1)
end

mutual
theorem RepI.mono {G H : IM} (h : IM.le G H) : ∀ (x : AV) {y : Value}, RepI G x y → RepI H x y
  | .v x, y, r => by simpa [RepI] using r
  | .s l, y, r => by simpa [RepI] using r
  | .agg cs, y, r => by
    simp only [RepI] at r ⊢
    obtain ⟨ys, e, r⟩ := r
    exact ⟨ys, e, RepIL.mono h cs r⟩
  | .tup cs, y, r => by
    simp only [RepI] at r ⊢
    obtain ⟨ys, e, r⟩ := r
    exact ⟨ys, e, RepIT.mono h cs r⟩
  | .sl n esz row, y, r => by
    simp only [RepI] at r ⊢
    obtain ⟨a, c, e, hc, r⟩ := r
    refine ⟨a, c, e, hc, ?_⟩
    rcases r with r | ⟨b, o, ea, r⟩
    · exact .inl r
    · exact .inr ⟨b, o, ea, fun i hi => CellsAt.mono h (row i) (r i hi)⟩
  | .cp cells, y, r => by
    simp only [RepI] at r ⊢
    obtain ⟨b, o, e, r⟩ := r
    exact ⟨b, o, e, CellsAt.mono h cells r⟩
  | .p R, y, r => by
    simp only [RepI] at r ⊢
    exact R.mono h r
  | .clo f caps, y, r => by
    simp only [RepI] at r ⊢
    obtain ⟨vs, e, r⟩ := r
    exact ⟨vs, e, RepIT.mono h caps r⟩
  | .ifc t x, y, r => by
    simp only [RepI] at r ⊢
    obtain ⟨v, e, r⟩ := r
    exact ⟨v, e, RepI.mono h x r⟩
  | .mapI ks xs, y, r => by
    simp only [RepI] at r ⊢
    obtain ⟨b, vs, e, e2, e3, r⟩ := r
    exact ⟨b, vs, e, h.2 _ _ e2, e3, RepIT.mono h xs r⟩
  | .mp _, y, r => by simp [RepI] at r
  | .bad, y, r => by simp [RepI] at r
  | .bp _ _, y, r => by simp [RepI] at r
  | .own _, y, r => by simp [RepI] at r
  | .ep _ _ _ _, y, r => by simp [RepI] at r
theorem RepIL.mono {G H : IM} (h : IM.le G H) : ∀ (cs : List AV) {ys : List Value}, RepIL G cs ys → RepIL H cs ys
  | [], ys, r => by simpa [RepIL] using r
  | c :: cs, ys, r => by
    simp only [RepIL] at r ⊢
    obtain ⟨z, zs, e, r1, r2, r3⟩ := r
    exact ⟨z, zs, e, RepI.mono h c r1, r2, RepIL.mono h cs r3⟩
theorem RepIT.mono {G H : IM} (h : IM.le G H) : ∀ (cs : List AV) {ys : List Value}, RepIT G cs ys → RepIT H cs ys
  | [], ys, r => by simpa [RepIT] using r
  | c :: cs, ys, r => by
    simp only [RepIT] at r ⊢
    obtain ⟨z, zs, e, r1, r3⟩ := r
    exact ⟨z, zs, e, RepI.mono h c r1, RepIT.mono h cs r3⟩
theorem CellsAt.mono {G H : IM} (h : IM.le G H) : ∀ (cs : List AV) {b o : Nat}, CellsAt G cs b o → CellsAt H cs b o
  | [], b, o, r => by simp [CellsAt]
  | c :: cs, b, o, r => by
    simp only [CellsAt] at r ⊢
    obtain ⟨⟨z, e, r1, r2⟩, r3⟩ := r
    exact ⟨⟨z, h.1 _ _ _ e, RepI.mono h c r1, r2⟩, CellsAt.mono h cs r3⟩
end

structure Env where
  G : IM
  μ : Nat → Nat
  hd : Nat → Value

mutual
def Rep (e : Env) : AV → Value → Prop
  | .bad, _ => True
  | .bp k off, y => y = .pointer (some ⟨e.μ k, off, none⟩)
  | .own k, y => y = e.hd k ∧ ∃ a n c, y = .slice a n c
  | .ep k i esz j, y => y = .pointer (some ⟨(e.hd k).ownBlock.getD 0, i * esz + j, none⟩)
  | .agg cs, y => ∃ ys, y = .agg ys ∧ RepL e cs ys.toList
  | .tup cs, y => ∃ ys, y = .tuple ys ∧ RepT e cs ys.toList
  | .v x, y => y = x
  | .s l, y => y = S l
  | .sl n esz row, y => RepI e.G (.sl n esz row) y
  | .cp cells, y => RepI e.G (.cp cells) y
  | .p R, y => R.R e.G y
  | .clo f caps, y => ∃ vs, y = .func (.func f) #[] vs ∧ RepT e caps vs.toList
  | .ifc t x, y => ∃ v, y = .iface t v ∧ Rep e x v
  | .mapI ks xs, y => RepI e.G (.mapI ks xs) y
  | .mp k, y => y = .map (some (e.μ k))
def RepL (e : Env) : List AV → List Value → Prop
  | [], ys => ys = []
  | c :: cs, ys => ∃ z zs, ys = z :: zs ∧ Rep e c z ∧ z.oneCell' = true ∧ RepL e cs zs
def RepT (e : Env) : List AV → List Value → Prop
  | [], ys => ys = []
  | c :: cs, ys => ∃ z zs, ys = z :: zs ∧ Rep e c z ∧ RepT e cs zs
end

def AV.no (k : Nat) : AV → Bool
  | .bp j _ => j != k
  | .own j => j != k
  | .ep j _ _ _ => j != k
  | .mp j => j != k
  | .clo _ cs => noL k cs
  | .ifc _ x => AV.no k x
  | .agg cs => noL k cs
  | .tup cs => noL k cs
  | _ => true
where noL (k : Nat) : List AV → Bool
  | [] => true
  | c :: cs => AV.no k c && noL k cs

mutual
theorem Rep.mono {e f : Env} (hG : IM.le e.G f.G) : ∀ (x : AV) {y : Value}, (∀ j, x.no j = false → f.μ j = e.μ j ∧ f.hd j = e.hd j) → Rep e x y → Rep f x y
  | .bad, y, _, _ => by simp [Rep]
  | .bp k off, y, h, r => by
    simp only [Rep] at r ⊢
    rw [(h k (by simp [AV.no])).1]; exact r
  | .own k, y, h, r => by
    simp only [Rep] at r ⊢
    rw [(h k (by simp [AV.no])).2]; exact r
  | .ep k i esz j, y, h, r => by
    simp only [Rep] at r ⊢
    rw [(h k (by simp [AV.no])).2]; exact r
  | .agg cs, y, h, r => by
    simp only [Rep] at r ⊢
    obtain ⟨ys, e, r⟩ := r
    exact ⟨ys, e, RepL.mono hG cs (fun j hj => h j (by simpa [AV.no] using hj)) r⟩
  | .tup cs, y, h, r => by
    simp only [Rep] at r ⊢
    obtain ⟨ys, e, r⟩ := r
    exact ⟨ys, e, RepT.mono hG cs (fun j hj => h j (by simpa [AV.no] using hj)) r⟩
  | .v x, y, _, r => by simpa [Rep] using r
  | .s x, y, _, r => by simpa [Rep] using r
  | .sl n esz row, y, _, r => by
    simp only [Rep] at r ⊢
    exact RepI.mono hG _ r
  | .cp cells, y, _, r => by
    simp only [Rep] at r ⊢
    exact RepI.mono hG _ r
  | .p R, y, _, r => by
    simp only [Rep] at r ⊢
    exact R.mono hG r
  | .clo f caps, y, h, r => by
    simp only [Rep] at r ⊢
    obtain ⟨vs, e, r⟩ := r
    exact ⟨vs, e, RepT.mono hG caps (fun j hj => h j (by simpa [AV.no] using hj)) r⟩
  | .ifc t x, y, h, r => by
    simp only [Rep] at r ⊢
    obtain ⟨v, e, r⟩ := r
    exact ⟨v, e, Rep.mono hG x (fun j hj => h j (by simpa [AV.no] using hj)) r⟩
  | .mapI ks xs, y, _, r => by
    simp only [Rep] at r ⊢
    exact RepI.mono hG _ r
  | .mp k, y, h, r => by
    simp only [Rep] at r ⊢
    rw [(h k (by simp [AV.no])).1]; exact r
theorem RepL.mono {e f : Env} (hG : IM.le e.G f.G) : ∀ (cs : List AV) {ys : List Value}, (∀ j, AV.no.noL j cs = false → f.μ j = e.μ j ∧ f.hd j = e.hd j) → RepL e cs ys → RepL f cs ys
  | [], ys, _, r => by simpa [RepL] using r
  | c :: cs, ys, h, r => by
    simp only [RepL] at r ⊢
    obtain ⟨z, zs, e, r1, r2, r3⟩ := r
    exact ⟨z, zs, e, Rep.mono hG c (fun j hj => h j (by simp [AV.no.noL, hj])) r1, r2, RepL.mono hG cs (fun j hj => h j (by simp [AV.no.noL, hj])) r3⟩
theorem RepT.mono {e f : Env} (hG : IM.le e.G f.G) : ∀ (cs : List AV) {ys : List Value}, (∀ j, AV.no.noL j cs = false → f.μ j = e.μ j ∧ f.hd j = e.hd j) → RepT e cs ys → RepT f cs ys
  | [], ys, _, r => by simpa [RepT] using r
  | c :: cs, ys, h, r => by
    simp only [RepT] at r ⊢
    obtain ⟨z, zs, e, r1, r3⟩ := r
    exact ⟨z, zs, e, Rep.mono hG c (fun j hj => h j (by simp [AV.no.noL, hj])) r1, RepT.mono hG cs (fun j hj => h j (by simp [AV.no.noL, hj])) r3⟩
end

def AV.imm : AV → Bool
  | .bad => false
  | .bp _ _ => false
  | .own _ => false
  | .ep _ _ _ _ => false
  | .mp _ => false
  | .clo _ cs => immL cs
  | .ifc _ x => AV.imm x
  | .agg cs => immL cs
  | .tup cs => immL cs
  | _ => true
where immL : List AV → Bool
  | [] => true
  | c :: cs => AV.imm c && immL cs

mutual
theorem Rep.toI {e : Env} : ∀ (x : AV) {y : Value}, x.imm = true → Rep e x y → RepI e.G x y
  | .bad, y, h, _ => by simp [AV.imm] at h
  | .bp _ _, y, h, _ => by simp [AV.imm] at h
  | .own _, y, h, _ => by simp [AV.imm] at h
  | .ep _ _ _ _, y, h, _ => by simp [AV.imm] at h
  | .agg cs, y, h, r => by
    simp only [Rep, RepI] at r ⊢
    obtain ⟨ys, e, r⟩ := r
    exact ⟨ys, e, RepL.toI cs (by simpa [AV.imm] using h) r⟩
  | .tup cs, y, h, r => by
    simp only [Rep, RepI] at r ⊢
    obtain ⟨ys, e, r⟩ := r
    exact ⟨ys, e, RepT.toI cs (by simpa [AV.imm] using h) r⟩
  | .v x, y, _, r => by simpa [Rep, RepI] using r
  | .s x, y, _, r => by simpa [Rep, RepI] using r
  | .sl n esz row, y, _, r => by simpa only [Rep] using r
  | .cp cells, y, _, r => by simpa only [Rep] using r
  | .p R, y, _, r => by simpa [Rep, RepI] using r
  | .clo f caps, y, h, r => by
    simp only [Rep, RepI] at r ⊢
    obtain ⟨vs, e, r⟩ := r
    exact ⟨vs, e, RepT.toI caps (by simpa [AV.imm] using h) r⟩
  | .ifc t x, y, h, r => by
    simp only [Rep, RepI] at r ⊢
    obtain ⟨v, e, r⟩ := r
    exact ⟨v, e, Rep.toI x (by simpa [AV.imm] using h) r⟩
  | .mapI ks xs, y, _, r => by simpa only [Rep] using r
  | .mp _, y, h, _ => by simp [AV.imm] at h
theorem RepL.toI {e : Env} : ∀ (cs : List AV) {ys : List Value}, AV.imm.immL cs = true → RepL e cs ys → RepIL e.G cs ys
  | [], ys, _, r => by simpa [RepL, RepIL] using r
  | c :: cs, ys, h, r => by
    simp only [AV.imm.immL, Bool.and_eq_true] at h
    simp only [RepL, RepIL] at r ⊢
    obtain ⟨z, zs, e, r1, r2, r3⟩ := r
    exact ⟨z, zs, e, Rep.toI c h.1 r1, r2, RepL.toI cs h.2 r3⟩
theorem RepT.toI {e : Env} : ∀ (cs : List AV) {ys : List Value}, AV.imm.immL cs = true → RepT e cs ys → RepIT e.G cs ys
  | [], ys, _, r => by simpa [RepT, RepIT] using r
  | c :: cs, ys, h, r => by
    simp only [AV.imm.immL, Bool.and_eq_true] at h
    simp only [RepT, RepIT] at r ⊢
    obtain ⟨z, zs, e, r1, r3⟩ := r
    exact ⟨z, zs, e, Rep.toI c h.1 r1, RepT.toI cs h.2 r3⟩
end

mutual
theorem RepI.toRep {e : Env} : ∀ (x : AV) {y : Value}, RepI e.G x y → Rep e x y
  | .bad, y, h => by simp [RepI] at h
  | .bp _ _, y, h => by simp [RepI] at h
  | .own _, y, h => by simp [RepI] at h
  | .ep _ _ _ _, y, h => by simp [RepI] at h
  | .agg cs, y, r => by
    simp only [Rep, RepI] at r ⊢
    obtain ⟨ys, e, r⟩ := r
    exact ⟨ys, e, RepIL.toRep cs r⟩
  | .tup cs, y, r => by
    simp only [Rep, RepI] at r ⊢
    obtain ⟨ys, e, r⟩ := r
    exact ⟨ys, e, RepIT.toRep cs r⟩
  | .v x, y, r => by simpa [Rep, RepI] using r
  | .s x, y, r => by simpa [Rep, RepI] using r
  | .sl n esz row, y, r => by simpa only [Rep] using r
  | .cp cells, y, r => by simpa only [Rep] using r
  | .p R, y, r => by simpa [Rep, RepI] using r
  | .clo f caps, y, r => by
    simp only [Rep, RepI] at r ⊢
    obtain ⟨vs, e, r⟩ := r
    exact ⟨vs, e, RepIT.toRep caps r⟩
  | .ifc t x, y, r => by
    simp only [Rep, RepI] at r ⊢
    obtain ⟨v, e, r⟩ := r
    exact ⟨v, e, RepI.toRep x r⟩
  | .mapI ks xs, y, r => by simpa only [Rep] using r
  | .mp _, y, h => by simp [RepI] at h
theorem RepIL.toRep {e : Env} : ∀ (cs : List AV) {ys : List Value}, RepIL e.G cs ys → RepL e cs ys
  | [], ys, r => by simpa [RepL, RepIL] using r
  | c :: cs, ys, r => by
    simp only [RepL, RepIL] at r ⊢
    obtain ⟨z, zs, e, r1, r2, r3⟩ := r
    exact ⟨z, zs, e, RepI.toRep c r1, r2, RepIL.toRep cs r3⟩
theorem RepIT.toRep {e : Env} : ∀ (cs : List AV) {ys : List Value}, RepIT e.G cs ys → RepT e cs ys
  | [], ys, r => by simpa [RepT, RepIT] using r
  | c :: cs, ys, r => by
    simp only [RepT, RepIT] at r ⊢
    obtain ⟨z, zs, e, r1, r3⟩ := r
    exact ⟨z, zs, e, RepI.toRep c r1, RepIT.toRep cs r3⟩
end

structure Abs where
  bs : List Nat
  ok : IM → World → Prop
  keep : ∀ {G H : IM} {w w' : World}, IM.le G H → (∀ b, b ∈ bs → w'.heap[b]? = w.heap[b]?) → ok G w → ok H w'

inductive Ch where
  | box (k : Nat) (T : TypeId) (cells : List AV)
  | vec (k : Nat) (T : TypeId) (esz n : Nat) (row : Nat → List AV)
  | obj (k : Nat) (o : Obj)
  | mapc (k : Nat) (ks : List Value) (xs : List AV)
  | abs (A : Abs)

def Ch.id : Ch → Nat
  | .box k _ _ => k
  | .vec k _ _ _ _ => k
  | .obj k _ => k
  | .mapc k _ _ => k
  | .abs _ => 1000000
def Ch.no (j : Nat) : Ch → Bool
  | .box k _ cells => k != j && AV.no.noL j cells
  | .vec k _ _ _ _ => k != j
  | .obj k _ => k != j
  | .mapc k _ xs => k != j && AV.no.noL j xs
  | .abs _ => true

def RowsL (G : IM) (esz n : Nat) (row : Nat → List AV) (xs : List Value) : Prop :=
  ∀ i, i < n → RepIL G (row i) ((xs.drop (i * esz)).take esz)

def vOf : AV → Value
  | .v x => x
  | _ => undef

def ChOK (e : Env) (w : World) : Ch → List Nat → Prop
  | .box k T cells, bs => bs = [e.μ k] ∧ ∃ arr, w.heap[e.μ k]? = some (.cells arr T (0, 0)) ∧ RepL e cells arr.toList
  | .vec k T esz n row, bs => bs = (e.hd k).ownBlock.toList ∧ ∃ xs, w.ownsRow 0 T esz (e.hd k) n xs ∧ RowsL e.G esz n row xs
  | .obj k o, bs => bs = [e.μ k] ∧ w.heap[e.μ k]? = some o
  | .mapc k ks xs, bs => bs = [e.μ k] ∧ ∃ arr cl, w.heap[e.μ k]? = some (.map arr cl) ∧ (arr.toList.map fun en => (en.key, en.val)).Perm (ks.zip (xs.map vOf)) ∧ (arr.toList.map (·.born)).Nodup ∧ ∀ x ∈ arr.toList, x.born < cl
  | .abs A, bs => bs = A.bs ∧ A.ok e.G w

theorem RowsL.mono {G H : IM} (h : IM.le G H) {esz n : Nat} {row : Nat → List AV} {xs : List Value} (r : RowsL G esz n row xs) : RowsL H esz n row xs :=
  fun i hi => RepIL.mono h (row i) (r i hi)

theorem ownsRow_of_blocks {w w' : World} {base e size : Nat} {v : Value} {n : Nat} {xs : List Value} (h : w.ownsRow base e size v n xs)
    (hb : ∀ b, v.ownBlock = some b → w'.heap[b]? = w.heap[b]?) : w'.ownsRow base e size v n xs := by
  refine ⟨h.1, ?_⟩
  rcases h.2 with hn | ⟨g, cap, cur, rfl, hbb, hg, rest⟩
  · exact .inl hn
  · refine .inr ⟨g, cap, cur, rfl, hbb, ?_, rest⟩
    rw [hb g (by simp [Value.ownBlock])]
    exact hg

theorem ChOK.keep {e f : Env} {w w' : World} (hG : IM.le e.G f.G) (c : Ch) {bs : List Nat} (hid : ∀ j, c.no j = false → f.μ j = e.μ j ∧ f.hd j = e.hd j)
    (hb : ∀ b, b ∈ bs → w'.heap[b]? = w.heap[b]?) (h : ChOK e w c bs) : ChOK f w' c bs := by
  cases c with
  | box k T cells =>
    obtain ⟨rfl, arr, h1, h2⟩ := h
    have hk := hid k (by simp [Ch.no])
    refine ⟨by rw [hk.1], arr, ?_, RepL.mono hG cells (fun j hj => hid j (by simp [Ch.no, hj])) h2⟩
    rw [hk.1, hb _ (by simp)]
    exact h1
  | vec k T esz n row =>
    obtain ⟨rfl, xs, h1, h2⟩ := h
    have hk := hid k (by simp [Ch.no])
    refine ⟨by rw [hk.2], xs, ?_, h2.mono hG⟩
    rw [hk.2]
    exact ownsRow_of_blocks h1 (fun b hbb => hb b (by simp [hbb]))
  | obj k o =>
    obtain ⟨rfl, h1⟩ := h
    have hk := hid k (by simp [Ch.no])
    refine ⟨by rw [hk.1], ?_⟩
    rw [hk.1, hb _ (by simp)]
    exact h1
  | mapc k ks xs =>
    obtain ⟨rfl, arr, cl, h1, h2⟩ := h
    have hk := hid k (by simp [Ch.no])
    refine ⟨by rw [hk.1], arr, cl, ?_, h2⟩
    rw [hk.1, hb _ (by simp)]
    exact h1
  | abs A =>
    obtain ⟨rfl, h1⟩ := h
    exact ⟨rfl, A.keep hG hb h1⟩

inductive TD where
  | other
  | bool
  | int (k : IntKind)
  | str
  | struct (fs : List (Nat × Nat))
  | arr (len elem : Nat)
  | slice (elem : Nat)

structure TI where
  size : Nat
  bytes : Nat
  agg : Bool
  zero : List Value
  d : TD

abbrev Tab := Nat → Option TI

def TDOK (P : Program) : TD → TypeDesc → Prop
  | .other, _ => True
  | .bool, d => d = .bool
  | .int k, d => d = .int k
  | .str, d => d = .string
  | .struct fs, d => ∃ fields, d = .struct fields ∧ fields.toList.map (fun f => (f.offset, P.cellsOf f.type)) = fs ∧ ∀ f ∈ fields, (P.info? f.type).isSome = true
  | .arr len elem, d => d = .array len elem
  | .slice elem, d => d = .slice elem

structure TIOK (P : Program) (t : Nat) (i : TI) : Prop where
  info : ∃ pi z, P.info? t = some pi ∧ pi.size = i.size ∧ pi.bytes = i.bytes ∧ pi.zero = some z ∧ z.cells.toList = i.zero ∧ i.zero.all (·.oneCell') = true ∧ i.zero.length = i.size
  desc : ∃ d, P.underlying t = some d ∧ i.agg = (match d with | .struct _ | .array _ _ => true | _ => false) ∧ TDOK P i.d d

def TabOK (P : Program) (T : Tab) : Prop := ∀ t i, T t = some i → TIOK P t i

end Go.Sy

namespace Go.Sy
open Go.RowKit

structure St where
  s : List (Nat × AV)
  c : List Ch

def get : List (Nat × AV) → Nat → Option AV
  | [], _ => none
  | (j, x) :: r, i => match Nat.beq j i with
    | true => some x
    | false => get r i

structure Ctx (P : Program) (T : Tab) where
  ok : TabOK P T
  wide : P.follows .mixedOrders = true
  w0 : World
  G0 : IM
  bs : List Nat
  μ0 : Nat → Nat
  pan : List PanicEntry → Act → World → Prop
  dfr : List Deferred

def HeapOK {P : Program} {T : Tab} (X : Ctx P T) (e : Env) (w : World) (cs : List Ch) : Prop :=
  ∃ pl : List (Ch × List Nat), pl.map (·.1) = cs ∧ (∀ p ∈ pl, ChOK e w p.1 p.2) ∧ (pl.flatMap (·.2)).Nodup ∧
    ∀ b ∈ pl.flatMap (·.2), b < w.heap.size ∧ (X.w0.heap.size ≤ b ∨ b ∈ X.bs) ∧ e.G.free b

def IM.still (G : IM) (b : Nat) : Prop := ∀ L, G.m b ≠ some (.lz L)
def IM.maps (G : IM) : Nat → Option (List (Value × Value)) := fun b => match G.m b with
  | some (.map es) => some es
  | _ => none
def MzOK (G : IM) (w : World) (b : Nat) : MZ → Prop
  | .map es => ∃ arr cl, w.heap[b]? = some (.map arr cl) ∧ arr.toList.map (fun e => (e.key, e.val)) = es
  | .lz L => (∃ arr, w.heap[b]? = some (.cells arr L.T (0, 0)) ∧ L.R G.c G.maps arr.toList) ∧ ∀ o, G b o = none

structure Rel {P : Program} {T : Tab} (X : Ctx P T) (n : Nat) (e : Env) (st : St) (a : Act) (w : World) : Prop where
  defers : a.defers = X.dfr
  size : a.tmps.size = n
  slots : ∀ i x, get st.s i = some x → ∃ v, a.tmps[i]? = some v ∧ Rep e x v
  im : ∀ b o v, e.G b o = some v → w.cell? ⟨b, o, none⟩ = some v
  mz : ∀ b x, e.G.m b = some x → MzOK e.G w b x
  heap : HeapOK X e w st.c
  le : IM.le X.G0 e.G
  new : ∀ b o v, e.G b o = some v → X.G0 b o = some v ∨ X.w0.heap.size ≤ b ∨ b ∈ X.bs
  newm : ∀ b x, e.G.m b = some x → X.G0.m b = some x ∨ X.w0.heap.size ≤ b ∨ b ∈ X.bs
  os : w.os = X.w0.os
  tape : w.tape = X.w0.tape
  output : w.output = X.w0.output
  sz : X.w0.heap.size ≤ w.heap.size
  keep : ∀ b, b < X.w0.heap.size → b ∉ X.bs → X.G0.still b → w.heap[b]? = X.w0.heap[b]?
  fix : ∀ k, n ≤ k → e.μ k = X.μ0 k

theorem IM.maps_le {G H : IM} (h : IM.le G H) : ∀ b x, G.maps b = some x → H.maps b = some x := by
  intro b x hx
  unfold IM.maps at hx ⊢
  cases hm : G.m b with
  | none => rw [hm] at hx; cases hx
  | some y => rw [h.2 b y hm]; rw [hm] at hx; exact hx
theorem MzOK.lt {G : IM} {w : World} {b : Nat} : ∀ {x : MZ}, MzOK G w b x → b < w.heap.size
  | .map _, ⟨_, _, h, _⟩ => (Array.getElem?_eq_some_iff.1 h).1
  | .lz _, ⟨⟨_, h, _⟩, _⟩ => (Array.getElem?_eq_some_iff.1 h).1
theorem MzOK.keep {G H : IM} {w w' : World} {b : Nat} (hG : IM.le G H) (hb : w'.heap[b]? = w.heap[b]?) (hn : ∀ o v, H b o = some v → ∃ u, G b o = some u) : ∀ {x : MZ}, MzOK G w b x → MzOK H w' b x
  | .map _, ⟨arr, cl, h, h2⟩ => ⟨arr, cl, by rw [hb]; exact h, h2⟩
  | .lz L, ⟨⟨arr, h, h2⟩, h3⟩ => ⟨⟨arr, by rw [hb]; exact h, L.mono hG.1 (IM.maps_le hG) h2⟩, fun o => by
    cases hx : H b o with
    | none => rfl
    | some v => obtain ⟨u, hu⟩ := hn o v hx; rw [h3 o] at hu; cases hu⟩
theorem MzOK.keep0 {G : IM} {w w' : World} {b : Nat} (hb : w'.heap[b]? = w.heap[b]?) {x : MZ} (h : MzOK G w b x) : MzOK G w' b x :=
  h.keep (IM.le_refl _) hb (fun _ v hv => ⟨v, hv⟩)
theorem Rel.glt0 {P : Program} {T : Tab} {X : Ctx P T} {n : Nat} {e : Env} {st : St} {a : Act} {w : World} (r : Rel X n e st a w) : ∀ b o v, e.G b o = some v → b < w.heap.size :=
  fun b o v h => Go.block_lt_of_cell (r.im b o v h)
theorem Rel.free {P : Program} {T : Tab} {X : Ctx P T} {n : Nat} {e : Env} {st : St} {a : Act} {w : World} (r : Rel X n e st a w) {b : Nat} (hb : w.heap.size ≤ b) : e.G.free b := by
  refine ⟨fun o => ?_, ?_⟩
  · cases hg : e.G b o with
    | none => rfl
    | some v => exact absurd (r.glt0 _ _ _ hg) (by omega)
  · cases hg : e.G.m b with
    | none => rfl
    | some v => exact absurd (r.mz _ _ hg).lt (by omega)
theorem Rel.mzKeep {P : Program} {T : Tab} {X : Ctx P T} {n : Nat} {e : Env} {st : St} {a : Act} {w w' : World} (r : Rel X n e st a w) (h : ∀ b, b < w.heap.size → ¬ e.G.free b → w'.heap[b]? = w.heap[b]?) : ∀ b x, e.G.m b = some x → MzOK e.G w' b x :=
  fun b x hx => (r.mz b x hx).keep0 (h b (r.mz b x hx).lt (fun hf => by rw [hf.2] at hx; cases hx))

theorem perm_map {α β : Type} {f : α → β} {cs cs' : List β} (h : cs.Perm cs') : ∀ pl : List α, pl.map f = cs → ∃ pl', pl.Perm pl' ∧ pl'.map f = cs' := by
  induction h with
  | nil => intro pl h; exact ⟨pl, .refl _, h⟩
  | cons x _ ih =>
    intro pl h
    cases pl with
    | nil => simp at h
    | cons p pl =>
      simp only [List.map_cons, List.cons.injEq] at h
      obtain ⟨pl', h1, h2⟩ := ih pl h.2
      exact ⟨p :: pl', .cons _ h1, by simp [h.1, h2]⟩
  | swap x y l =>
    intro pl h
    match pl, h with
    | p :: q :: pl, h =>
      simp only [List.map_cons, List.cons.injEq] at h
      exact ⟨q :: p :: pl, .swap _ _ _, by simp [h.1, h.2.1, h.2.2]⟩
  | trans _ _ ih1 ih2 =>
    intro pl h
    obtain ⟨p1, h1, h2⟩ := ih1 pl h
    obtain ⟨p2, h3, h4⟩ := ih2 p1 h2
    exact ⟨p2, h1.trans h3, h4⟩

theorem HeapOK.perm {P : Program} {T : Tab} {X : Ctx P T} {e : Env} {w : World} {cs cs' : List Ch} (hp : cs.Perm cs') (h : HeapOK X e w cs) : HeapOK X e w cs' := by
  obtain ⟨pl, h1, h2, h3, h4⟩ := h
  obtain ⟨pl', hp', h1'⟩ := perm_map hp pl h1
  have hf : (pl.flatMap (·.2)).Perm (pl'.flatMap (·.2)) := List.Perm.flatMap_right _ hp'
  exact ⟨pl', h1', fun p hm => h2 p (hp'.mem_iff.2 hm), hf.nodup_iff.1 h3, fun b hb => h4 b (hf.mem_iff.2 hb)⟩

def takeCh (k : Nat) : List Ch → Option (Ch × List Ch)
  | [] => none
  | c :: r => match Nat.beq c.id k with
    | true => some (c, r)
    | false => match takeCh k r with
      | some (d, r') => some (d, c :: r')
      | none => none

theorem takeCh_perm {k : Nat} : ∀ {cs : List Ch} {c : Ch} {r : List Ch}, takeCh k cs = some (c, r) → cs.Perm (c :: r)
  | [], c, r, h => by simp [takeCh] at h
  | d :: cs, c, r, h => by
    simp only [takeCh] at h
    split at h
    · simp only [Option.some.injEq, Prod.mk.injEq] at h
      obtain ⟨rfl, rfl⟩ := h
      exact .refl _
    · split at h
      · rename_i d' r' hh
        simp only [Option.some.injEq, Prod.mk.injEq] at h
        obtain ⟨rfl, rfl⟩ := h
        exact ((takeCh_perm hh).cons d).trans (.swap _ _ _)
      · cases h

theorem HeapOK.drop {P : Program} {T : Tab} {X : Ctx P T} {e : Env} {w : World} {c : Ch} {cs : List Ch} (h : HeapOK X e w (c :: cs)) : HeapOK X e w cs := by
  obtain ⟨pl, h1, h2, h3, h4⟩ := h
  cases pl with
  | nil => simp at h1
  | cons p pl =>
    simp only [List.map_cons, List.cons.injEq] at h1
    simp only [List.flatMap_cons] at h3 h4
    exact ⟨pl, h1.2, fun q hq => h2 q (List.mem_cons_of_mem _ hq), (List.nodup_append.1 h3).2.1, fun b hb => h4 b (List.mem_append.2 (.inr hb))⟩

theorem HeapOK.update {P : Program} {T : Tab} {X : Ctx P T} {e f : Env} {w w' : World} {c c' : Ch} {r : List Ch} (h : HeapOK X e w (c :: r)) (hG : IM.le e.G f.G)
    (hid : ∀ d ∈ r, ∀ j, d.no j = false → f.μ j = e.μ j ∧ f.hd j = e.hd j)
    (upd : ∀ bs, ChOK e w c bs → bs.Nodup → (∀ b ∈ bs, b < w.heap.size ∧ (X.w0.heap.size ≤ b ∨ b ∈ X.bs) ∧ e.G.free b) →
      (∀ b, b < w.heap.size → b ∉ bs → w'.heap[b]? = w.heap[b]?) ∧
      ∃ bs', ChOK f w' c' bs' ∧ bs'.Nodup ∧ (∀ b ∈ bs', b ∈ bs ∨ w.heap.size ≤ b) ∧
        ∀ b ∈ bs', b < w'.heap.size ∧ (X.w0.heap.size ≤ b ∨ b ∈ X.bs) ∧ f.G.free b)
    (hsz : w.heap.size ≤ w'.heap.size) (hGn : ∀ b, b < w.heap.size → (∀ bs, ChOK e w c bs → b ∉ bs) → e.G.free b → f.G.free b) : HeapOK X f w' (c' :: r) := by
  obtain ⟨pl, h1, h2, h3, h4⟩ := h
  cases pl with
  | nil => simp at h1
  | cons p pl =>
    simp only [List.map_cons, List.cons.injEq] at h1
    obtain ⟨rfl, rfl⟩ := h1
    simp only [List.flatMap_cons] at h3 h4
    obtain ⟨n1, n2, n3⟩ := List.nodup_append.1 h3
    have hp := h2 p (List.mem_cons_self ..)
    obtain ⟨hk, bs', g1, g2, g3, g4⟩ := upd p.2 hp n1 (fun b hb => h4 b (List.mem_append.2 (.inl hb)))
    have huniq : ∀ bs, ChOK e w p.1 bs → bs = p.2 := by
      intro bs hbs
      cases hc : p.1 with
      | box k T cells => rw [hc] at hbs hp; rw [hbs.1, hp.1]
      | vec k T esz n row => rw [hc] at hbs hp; rw [hbs.1, hp.1]
      | obj k o => rw [hc] at hbs hp; rw [hbs.1, hp.1]
      | mapc k ks xs => rw [hc] at hbs hp; rw [hbs.1, hp.1]
      | abs A => rw [hc] at hbs hp; rw [hbs.1, hp.1]
    refine ⟨(c', bs') :: pl, rfl, ?_, ?_, ?_⟩
    · intro q hq
      rcases List.mem_cons.1 hq with rfl | hq
      · exact g1
      · refine ChOK.keep hG q.1 (hid q.1 (List.mem_map.2 ⟨q, hq, rfl⟩)) ?_ (h2 q (List.mem_cons_of_mem _ hq))
        intro b hb
        have hbf : b ∈ pl.flatMap (·.2) := List.mem_flatMap.2 ⟨q, hq, hb⟩
        exact hk b (h4 b (List.mem_append.2 (.inr hbf))).1 (fun hin => n3 b hin b hbf rfl)
    · simp only [List.flatMap_cons]
      refine List.nodup_append.2 ⟨g2, n2, ?_⟩
      rintro b hb b' hbf rfl
      rcases g3 b hb with h | h
      · exact n3 b h b hbf rfl
      · exact absurd (h4 b (List.mem_append.2 (.inr hbf))).1 (by omega)
    · intro b hb
      simp only [List.flatMap_cons] at hb
      rcases List.mem_append.1 hb with hb | hb
      · exact g4 b hb
      · obtain ⟨q1, q2, q3⟩ := h4 b (List.mem_append.2 (.inr hb))
        refine ⟨by omega, q2, hGn b q1 ?_ q3⟩
        intro bs hbs hin
        rw [huniq bs hbs] at hin
        exact n3 b hin b hb rfl

theorem HeapOK.push {P : Program} {T : Tab} {X : Ctx P T} {e f : Env} {w w' : World} {c' : Ch} {r : List Ch} (h : HeapOK X e w r) (hG : IM.le e.G f.G)
    (hid : ∀ d ∈ r, ∀ j, d.no j = false → f.μ j = e.μ j ∧ f.hd j = e.hd j)
    (hk : ∀ b, b < w.heap.size → w'.heap[b]? = w.heap[b]?) {bs' : List Nat} (g1 : ChOK f w' c' bs') (g2 : bs'.Nodup) (g3 : ∀ b ∈ bs', w.heap.size ≤ b)
    (g4 : ∀ b ∈ bs', b < w'.heap.size ∧ (X.w0.heap.size ≤ b ∨ b ∈ X.bs) ∧ f.G.free b)
    (hsz : w.heap.size ≤ w'.heap.size) (hGn : ∀ b, b < w.heap.size → e.G.free b → f.G.free b) : HeapOK X f w' (c' :: r) := by
  obtain ⟨pl, h1, h2, h3, h4⟩ := h
  subst h1
  refine ⟨(c', bs') :: pl, rfl, ?_, ?_, ?_⟩
  · intro q hq
    rcases List.mem_cons.1 hq with rfl | hq
    · exact g1
    · refine ChOK.keep hG q.1 (hid q.1 (List.mem_map.2 ⟨q, hq, rfl⟩)) ?_ (h2 q hq)
      intro b hb
      exact hk b (h4 b (List.mem_flatMap.2 ⟨q, hq, hb⟩)).1
  · simp only [List.flatMap_cons]
    refine List.nodup_append.2 ⟨g2, h3, ?_⟩
    rintro b hb b' hbf rfl
    exact absurd (h4 b hbf).1 (by have := g3 b hb; omega)
  · intro b hb
    simp only [List.flatMap_cons] at hb
    rcases List.mem_append.1 hb with hb | hb
    · exact g4 b hb
    · obtain ⟨q1, q2, q3⟩ := h4 b hb
      exact ⟨by omega, q2, hGn b q1 q3⟩

theorem HeapOK.grow {P : Program} {T : Tab} {X : Ctx P T} {e f : Env} {w w' : World} {r : List Ch} (h : HeapOK X e w r) (hG : IM.le e.G f.G)
    (hid : ∀ d ∈ r, ∀ j, d.no j = false → f.μ j = e.μ j ∧ f.hd j = e.hd j)
    (hk : ∀ b, b < w.heap.size → w'.heap[b]? = w.heap[b]?)
    (hsz : w.heap.size ≤ w'.heap.size) (hGn : ∀ b, b < w.heap.size → e.G.free b → f.G.free b) : HeapOK X f w' r := by
  obtain ⟨pl, h1, h2, h3, h4⟩ := h
  subst h1
  refine ⟨pl, rfl, ?_, h3, ?_⟩
  · intro q hq
    refine ChOK.keep hG q.1 (hid q.1 (List.mem_map.2 ⟨q, hq, rfl⟩)) ?_ (h2 q hq)
    intro b hb
    exact hk b (h4 b (List.mem_flatMap.2 ⟨q, hq, hb⟩)).1
  · intro b hb
    obtain ⟨q1, q2, q3⟩ := h4 b hb
    exact ⟨by omega, q2, hGn b q1 q3⟩

def conc {P : Program} {T : Tab} (X : Ctx P T) (n : Nat) (Q : Exit → St → Prop) : Exit → Act → World → Prop
  | .panic ch, a, w => a.defers = X.dfr ∧ X.pan ch a w
  | .outgrown, _, _ => False
  | ex, a, w => ∃ e st, Rel X n e st a w ∧ Q ex st

def QX {P : Program} {T : Tab} (X : Ctx P T) : Type := { Q : Exit → Act → World → Prop // ∀ ch a w, a.defers = X.dfr → X.pan ch a w → Q (.panic ch) a w }
instance {P : Program} {T : Tab} {X : Ctx P T} : CoeFun (QX X) (fun _ => Exit → Act → World → Prop) := ⟨Subtype.val⟩
instance {P : Program} {T : Tab} {X : Ctx P T} : CoeOut (QX X) (Exit → Act → World → Prop) := ⟨Subtype.val⟩
abbrev concX {P : Program} {T : Tab} (X : Ctx P T) (n : Nat) (Q : Exit → St → Prop) : QX X := ⟨conc X n Q, fun _ _ _ hd h => ⟨hd, h⟩⟩

def SymC {P : Program} {T : Tab} (X : Ctx P T) (n : Nat) (c : Code) (st : St) (Q : Exit → St → Prop) : Prop :=
  ∀ e a w, Rel X n e st a w → c.wp P (conc X n Q) a w

def SymO {P : Program} {T : Tab} (X : Ctx P T) (n : Nat) (ops : Array Oper) (l : List Oper) (st : St) (K : St → Prop) : Prop :=
  ∀ e a w (Q : QX X), Rel X n e st a w → (∀ e' st' a' w', K st' → Rel X n e' st' a' w' → Q .normal a' w') → wpList P ops Q l a w

section
variable {P : Program} {T : Tab} {X : Ctx P T} {n : Nat} {st : St} {Q : Exit → St → Prop}

theorem SymC.mono {c : Code} {Q' : Exit → St → Prop} (h : SymC X n c st Q) (hq : ∀ ex s, Q ex s → Q' ex s) : SymC X n c st Q' := by
  intro e a w r
  refine Code.wp_mono (fun ex a' w' hc => ?_) (h e a w r)
  cases ex <;> first | exact hc | (obtain ⟨e', st', h1, h2⟩ := hc; exact ⟨e', st', h1, hq _ _ h2⟩)

theorem C_skip (h : Q .normal st) : SymC X n .skip st Q := fun e _ _ r => wp_skip ⟨e, st, r, h⟩
theorem C_label {l : Nat} (h : Q .normal st) : SymC X n (.label l) st Q := fun e _ _ r => wp_label ⟨e, st, r, h⟩
theorem C_exit {id : Nat} (h : Q (.exit id) st) : SymC X n (.exit id) st Q := fun e _ _ r => wp_exit ⟨e, st, r, h⟩
theorem C_ret (h : Q .ret st) : SymC X n .ret st Q := fun e _ _ r => wp_ret ⟨e, st, r, h⟩

theorem C_seq {x y : Code} (h : SymC X n x st (fun ex s => match ex with
    | .normal => SymC X n y s Q
    | ex => Q ex s)) : SymC X n (.seq x y) st Q := by
  intro e a w r
  refine wp_seq (Code.wp_mono (fun ex a' w' hc => ?_) (h e a w r))
  cases ex with
  | normal => obtain ⟨e', st', h1, h2⟩ := hc; exact h2 e' a' w' h1
  | exit id => exact hc
  | goto l => exact hc
  | ret => exact hc
  | panic ch => exact hc
  | outgrown => exact hc

theorem C_block {id : Nat} {c : Code} (h : SymC X n c st (fun ex s => match ex with
    | .exit j => (match Nat.beq j id with
      | true => Q .normal s
      | false => Q (.exit j) s)
    | ex => Q ex s)) : SymC X n (.block id c) st Q := by
  intro e a w r
  refine wp_block (Code.wp_mono (fun ex a' w' hc => ?_) (h e a w r))
  cases ex with
  | exit j =>
    obtain ⟨e', st', h1, h2⟩ := hc
    simp only [Exit.inBlock]
    by_cases hj : j = id
    · subst hj
      simp only [Nat.beq_refl] at h2
      rw [if_pos rfl]
      exact ⟨e', st', h1, h2⟩
    · rw [if_neg hj]
      have : Nat.beq j id = false := by
        cases hb : Nat.beq j id
        · rfl
        · exact absurd (Nat.eq_of_beq_eq_true hb) hj
      simp only [this] at h2
      exact ⟨e', st', h1, h2⟩
  | normal => exact hc
  | goto l => exact hc
  | ret => exact hc
  | panic ch => exact hc
  | outgrown => exact hc

theorem O_nil {ops : Array Oper} {K : St → Prop} (h : K st) : SymO X n ops [] st K :=
  fun e a w _ r hq => wpList_nil (hq e st a w h r)
end

def opd (s : List (Nat × AV)) : Operand → Option AV
  | .tmp t => get s t
  | .const (.string ⟨⟨l⟩⟩) => some (.s l)
  | .const (.agg _) => none
  | .const c => some (.v c)
  | .func f => some (.v (.func (.func f) #[] #[]))
  | .global g => some (.v (.pointer (some ⟨g, 0, none⟩)))

theorem opd_sound {P : Program} {T : Tab} {X : Ctx P T} {n : Nat} {e : Env} {st : St} {a : Act} {w : World} (r : Rel X n e st a w) {o : Operand} {x : AV} (h : opd st.s o = some x) : Rep e x (a.eval o) := by
  cases o with
  | tmp t =>
    obtain ⟨v, h1, h2⟩ := r.slots t x h
    simp only [Act.eval, Array.getD_eq_getD_getElem?, h1, Option.getD_some]
    exact h2
  | const c =>
    cases c <;> simp [opd] at h <;> subst h <;> simp [Act.eval, Rep, S]
  | func f => simp [opd] at h; subst h; simp [Act.eval, Rep]
  | global g => simp [opd] at h; subst h; simp [Act.eval, Rep]

theorem get_cons (d : Nat) (x : AV) (s : List (Nat × AV)) (i : Nat) : get ((d, x) :: s) i = if d = i then some x else get s i := by
  simp only [get]
  by_cases h : d = i
  · subst h; simp [Nat.beq_refl]
  · have : Nat.beq d i = false := by
      cases hb : Nat.beq d i
      · rfl
      · exact absurd (Nat.eq_of_beq_eq_true hb) h
    rw [this, if_neg h]

theorem Rel.put {P : Program} {T : Tab} {X : Ctx P T} {n : Nat} {e : Env} {st : St} {a : Act} {w : World} (r : Rel X n e st a w) {d : Nat} {x : AV} {v : Value} (hd : Nat.blt d n = true) (hv : Rep e x v) :
    Rel X n e ⟨(d, x) :: st.s, st.c⟩ (a.put (some d) v) w := by
  have hd' : d < n := by have := hd; simp [Nat.blt] at this; omega
  refine { r with defers := r.defers, size := by simp [Act.put, r.size], slots := ?_ }
  intro i y hy
  rw [get_cons] at hy
  by_cases h : d = i
  · subst h
    simp only [if_true, Option.some.injEq] at hy
    subst hy
    exact ⟨v, by simp [Act.put, r.size, hd'], hv⟩
  · rw [if_neg h] at hy
    obtain ⟨u, h1, h2⟩ := r.slots i y hy
    exact ⟨u, by simp only [Act.put]; rw [Array.getElem?_setIfInBounds_ne h]; exact h1, h2⟩

end Go.Sy

namespace Go.Sy
open Go.RowKit

theorem TabOK.size {P : Program} {T : Tab} (h : TabOK P T) {t : Nat} {i : TI} (ht : T t = some i) (w : World) : (sizeOf t).run P w = .ok i.size w := by
  obtain ⟨pi, z, h1, h2, _⟩ := (h t i ht).info
  simp [sizeOf, typeInfo, h1, h2]

theorem TabOK.isAgg {P : Program} {T : Tab} (h : TabOK P T) {t : Nat} {i : TI} (ht : T t = some i) (w : World) : (isAgg t).run P w = .ok i.agg w := by
  obtain ⟨d, h1, h2, _⟩ := (h t i ht).desc
  rw [h2]
  unfold Go.isAgg
  rw [Sem.run_bind, run_underlying h1 w]
  cases d <;> simp

def bitsV (op : BinOp) (k : IntKind) (a b : Int) : Int :=
  match op with
  | .and => k.wrap (BitVec.ofInt k.bits a &&& BitVec.ofInt k.bits b).toNat
  | .or => k.wrap (BitVec.ofInt k.bits a ||| BitVec.ofInt k.bits b).toNat
  | .xor => k.wrap (BitVec.ofInt k.bits a ^^^ BitVec.ofInt k.bits b).toNat
  | _ => k.wrap (BitVec.ofInt k.bits a &&& ~~~ BitVec.ofInt k.bits b).toNat

def binI (op : BinOp) (k : IntKind) (a b : Int) : Option AV :=
  match op with
  | .add => some (.v (.int k (k.wrap (a + b))))
  | .sub => some (.v (.int k (k.wrap (a - b))))
  | .mul => some (.v (.int k (k.wrap (a * b))))
  | .eql => some (.v (.bool (a == b)))
  | .neq => some (.v (.bool (a != b)))
  | .lss => some (.v (.bool (decide (a < b))))
  | .leq => some (.v (.bool (decide (a ≤ b))))
  | .gtr => some (.v (.bool (decide (b < a))))
  | .geq => some (.v (.bool (decide (b ≤ a))))
  | .and => some (.v (.int k (bitsV .and k a b)))
  | .or => some (.v (.int k (bitsV .or k a b)))
  | .xor => some (.v (.int k (bitsV .xor k a b)))
  | .andNot => some (.v (.int k (bitsV .andNot k a b)))
  | _ => none

def binS (op : BinOp) (a b : List UInt8) : Option AV :=
  match op with
  | .eql => some (.v (.bool (a == b)))
  | .neq => some (.v (.bool (!(a == b))))
  | .lss => some (.v (.bool (Op.bytesLess a b)))
  | .leq => some (.v (.bool (Op.bytesLess a b || a == b)))
  | .gtr => some (.v (.bool !(Op.bytesLess a b || a == b)))
  | .geq => some (.v (.bool !(Op.bytesLess a b)))
  | _ => none

def kindEq : IntKind → IntKind → Bool
  | .i8, .i8 | .i16, .i16 | .i32, .i32 | .i64, .i64 | .u8, .u8 | .u16, .u16 | .u32, .u32 | .u64, .u64 => true
  | _, _ => false
theorem kindEq_eq {j k : IntKind} (h : kindEq j k = true) : j = k := by cases j <;> cases k <;> simp [kindEq] at h <;> rfl

def bin (T : Tab) (t : Nat) (op : BinOp) (x y : AV) : Option AV :=
  match x, y with
  | .v (.int k a), .v (.int j b) => (match kindEq k j with
    | true => binI op k a b
    | false => none)
  | .s a, .s b => binS op a b
  | .v (.bool a), .v (.bool b) => (match T t with
    | some ⟨_, _, _, _, .bool⟩ => (match op with
      | .eql => some (.v (.bool (a == b)))
      | .neq => some (.v (.bool (a != b)))
      | _ => none)
    | _ => none)
  | _, _ => none

def loadA (i : TI) (cells : List AV) : Option AV :=
  match i.agg with
  | true => (match Nat.ble i.size cells.length with
    | true => some (.agg (cells.take i.size))
    | false => none)
  | false => cells.head?

def boxCells (k : Nat) (cs : List Ch) : Option (List AV) :=
  match takeCh k cs with
  | some (.box _ _ cells, _) => some cells
  | _ => none

def cellsA : AV → List AV
  | .agg cs => cs
  | x => [x]

def AV.cellB : AV → Bool
  | .v x => x.oneCell'
  | .bad => false
  | .agg _ => false
  | .tup _ => false
  | _ => true

def still (T : Tab) (st : St) : Op → Option AV
  | .move x => opd st.s x
  | .assign x => opd st.s x
  | .pick c a b => (match opd st.s c with
    | some (.v (.bool true)) => opd st.s a
    | some (.v (.bool false)) => opd st.s b
    | _ => none)
  | .binOp op t x y _ => (match opd st.s x, opd st.s y with
    | some p, some q => bin T t op p q
    | _, _ => none)
  | .unOp op _ x => (match op, opd st.s x with
    | .not, some (.v (.bool b)) => some (.v (.bool (!b)))
    | .neg, some (.v (.int k a)) => some (.v (.int k (k.wrap (0 - a))))
    | _, _ => none)
  | .convert src dst x => (match T src, T dst, opd st.s x with
    | some _, some ⟨_, _, _, _, .int k⟩, some (.v (.int _ a)) => some (.v (.int k (k.wrap a)))
    | some ⟨_, _, _, _, .str⟩, some ⟨_, _, _, _, .str⟩, some (.s l) => some (.s l)
    | _, _, _ => none)
  | .fieldAddr t x f => (match T t with
    | some ⟨_, _, _, _, .struct fs⟩ => (match fs[f]? with
      | some (off, _ + 1) => (match opd st.s x with
        | some (.bp k o) => some (.bp k (o + off))
        | some (.cp cells) => some (.cp (cells.drop off))
        | some (.ep k i esz j) => some (.ep k i esz (j + off))
        | some (.v (.pointer (some ⟨b, o, none⟩))) => some (.v (.pointer (some ⟨b, o + off, none⟩)))
        | _ => none)
      | _ => none)
    | _ => none)
  | .load t x => (match T t with
    | some i => (match opd st.s x with
      | some (.bp k o) => (match boxCells k st.c with
        | some cells => loadA i (cells.drop o)
        | none => none)
      | some (.cp cells) => loadA i cells
      | _ => none)
    | none => none)
  | .extract x i => (match opd st.s x with
    | some (.tup cs) => cs[i]?
    | _ => none)
  | .nilCheck x => (match opd st.s x with
    | some (.bp k o) => some (.bp k o)
    | some (.v (.pointer (some ad))) => some (.v (.pointer (some ad)))
    | some (.cp cells) => some (.cp cells)
    | _ => none)
  | .field t x f => (match T t with
    | some ⟨_, _, _, _, .struct fs⟩ => (match fs[f]?, opd st.s x with
      | some (_, _), some (.agg _) => none
      | _, _ => none)
    | _ => none)
  | .call { callee := .builtin b, args, argTypes } => (match b, args.toList, argTypes.toList with
    | .len, [x], [t] => (match T t, opd st.s x with
      | some ⟨_, _, _, _, .str⟩, some (.s l) => some (.v (.int .i64 l.length))
      | some ⟨_, _, _, _, .slice _⟩, some (.sl n _ _) => some (.v (.int .i64 n))
      | some ⟨_, _, _, _, .slice _⟩, some (.v (.slice _ n _)) => some (.v (.int .i64 n))
      | some ⟨_, _, _, _, .slice _⟩, some (.own k) => (match takeCh k st.c with
        | some (.vec _ _ _ n _, _) => some (.v (.int .i64 n))
        | _ => none)
      | _, _ => none)
    | .min, [x, y], _ => (match opd st.s x, opd st.s y with
      | some (.v (.int k a)), some (.v (.int _ b)) => some (.v (.int k (min a b)))
      | _, _ => none)
    | .max, [x, y], _ => (match opd st.s x, opd st.s y with
      | some (.v (.int k a)), some (.v (.int _ b)) => some (.v (.int k (max a b)))
      | _, _ => none)
    | _, _, _ => none)
  | _ => none

def Readable (e : Env) (w : World) (b o : Nat) (cells : List AV) : Prop :=
  ∀ (j : Nat) (c : AV), cells[j]? = some c → ∃ z, w.cell? ⟨b, o + j, none⟩ = some z ∧ Rep e c z ∧ z.oneCell' = true

theorem CellsAt.get {G : IM} : ∀ {cells : List AV} {b o : Nat}, CellsAt G cells b o → ∀ (j : Nat) (c : AV), cells[j]? = some c → ∃ z, G b (o + j) = some z ∧ RepI G c z ∧ z.oneCell' = true
  | [], _, _, _, j, c, h => by simp at h
  | d :: cs, b, o, r, j, c, h => by
    simp only [CellsAt] at r
    cases j with
    | zero => simp at h; subst h; simpa using r.1
    | succ j =>
      have := CellsAt.get r.2 j c (by simpa using h)
      rwa [show o + (j + 1) = o + 1 + j by omega]

theorem CellsAt.drop {G : IM} : ∀ (k : Nat) {cells : List AV} {b o : Nat}, CellsAt G cells b o → CellsAt G (cells.drop k) b (o + k)
  | 0, cells, b, o, r => by simpa using r
  | k + 1, [], b, o, r => by simp [CellsAt]
  | k + 1, c :: cs, b, o, r => by
    simp only [CellsAt] at r
    have := CellsAt.drop k r.2
    rwa [show o + (k + 1) = o + 1 + k by omega]

theorem RepL.get {e : Env} : ∀ {cs : List AV} {ys : List Value}, RepL e cs ys → ∀ (j : Nat) (c : AV), cs[j]? = some c → ∃ z, ys[j]? = some z ∧ Rep e c z ∧ z.oneCell' = true
  | [], ys, _, j, c, h => by simp at h
  | d :: cs, ys, r, j, c, h => by
    simp only [RepL] at r
    obtain ⟨z, zs, rfl, r1, r2, r3⟩ := r
    cases j with
    | zero => simp at h; subst h; exact ⟨z, by simp, r1, r2⟩
    | succ j => simpa using RepL.get r3 j c (by simpa using h)

theorem RepL.len {e : Env} : ∀ {cs : List AV} {ys : List Value}, RepL e cs ys → ys.length = cs.length
  | [], ys, r => by simp only [RepL] at r; subst r; rfl
  | d :: cs, ys, r => by
    simp only [RepL] at r
    obtain ⟨z, zs, rfl, r1, r2, r3⟩ := r
    simp [RepL.len r3]

theorem RepL.mk {e : Env} : ∀ {cs : List AV} {ys : List Value}, ys.length = cs.length → (∀ (j : Nat) (c : AV), cs[j]? = some c → ∃ z, ys[j]? = some z ∧ Rep e c z ∧ z.oneCell' = true) → RepL e cs ys
  | [], ys, hl, _ => by simp only [RepL]; exact List.eq_nil_of_length_eq_zero hl
  | d :: cs, [], hl, _ => by simp at hl
  | d :: cs, y :: ys, hl, h => by
    simp only [RepL]
    obtain ⟨z, h1, h2, h3⟩ := h 0 d (by simp)
    simp at h1; subst h1
    exact ⟨y, ys, rfl, h2, h3, RepL.mk (by simpa using hl) fun j c hc => by simpa using h (j + 1) c (by simpa using hc)⟩

theorem boxCells_sound {P : Program} {T : Tab} {X : Ctx P T} {e : Env} {w : World} {cs : List Ch} (h : HeapOK X e w cs) {k : Nat} {cells : List AV} (hb : boxCells k cs = some cells) :
    ∃ arr T, w.heap[e.μ k]? = some (.cells arr T (0, 0)) ∧ RepL e cells arr.toList := by
  unfold boxCells at hb
  split at hb
  · rename_i k' T cells' rest ht
    simp only [Option.some.injEq] at hb
    subst hb
    have hid : k' = k := by
      have : ∀ {cs : List Ch} {c r}, takeCh k cs = some (c, r) → c.id = k := by
        intro cs
        induction cs with
        | nil => intro c r h; simp [takeCh] at h
        | cons d cs ih =>
          intro c r h
          simp only [takeCh] at h
          split at h
          · rename_i hbq
            simp only [Option.some.injEq, Prod.mk.injEq] at h
            obtain ⟨rfl, rfl⟩ := h
            exact Nat.eq_of_beq_eq_true hbq
          · split at h
            · rename_i hh
              simp only [Option.some.injEq, Prod.mk.injEq] at h
              obtain ⟨rfl, rfl⟩ := h
              exact ih hh
            · cases h
      exact this ht
    subst hid
    obtain ⟨pl, h1, h2, _⟩ := h.perm (takeCh_perm ht)
    cases pl with
    | nil => simp at h1
    | cons p pl =>
      simp only [List.map_cons, List.cons.injEq] at h1
      have := h2 p (List.mem_cons_self ..)
      rw [h1.1] at this
      obtain ⟨_, arr, h3, h4⟩ := this
      exact ⟨arr, T, h3, h4⟩
  · cases hb

theorem readable_cp {P : Program} {T : Tab} {X : Ctx P T} {n : Nat} {e : Env} {st : St} {a : Act} {w : World} (r : Rel X n e st a w) {cells : List AV} {b o : Nat} (h : CellsAt e.G cells b o) : Readable e w b o cells := by
  intro j c hc
  obtain ⟨z, h1, h2, h3⟩ := h.get j c hc
  exact ⟨z, r.im _ _ _ h1, RepI.toRep c h2, h3⟩

theorem readable_bp {e : Env} {w : World} {b : Nat} {arr : Array Value} {T : TypeId} {cells : List AV} (h1 : w.heap[b]? = some (.cells arr T (0, 0))) (h2 : RepL e cells arr.toList) (o : Nat) :
    Readable e w b o (cells.drop o) := by
  intro j c hc
  rw [List.getElem?_drop] at hc
  obtain ⟨z, h3, h4, h5⟩ := h2.get _ c hc
  refine ⟨z, ?_, h4, h5⟩
  rw [cell_of_row w b (o + j) arr T (0, 0) h1]
  simpa using h3

def SameAs (w w' : World) : Prop := ∀ b, b < w.heap.size → w'.heap[b]? = w.heap[b]?
theorem SameAs.refl (w : World) : SameAs w w := fun _ _ => rfl
theorem SameAs.cell {w w' : World} (h : SameAs w w') {b o : Nat} {z : Value} (hc : w.cell? ⟨b, o, none⟩ = some z) : w'.cell? ⟨b, o, none⟩ = some z := by
  have hb := block_lt_of_cell hc
  simp only [World.cell?] at hc ⊢
  rw [h b hb]
  exact hc

theorem load_sound {P : Program} {T : Tab} (hT : TabOK P T) {t : Nat} {i : TI} (ht : T t = some i) {e : Env} {w : World} {b o : Nat} {cells : List AV} (hr : Readable e w b o cells) {av : AV}
    (h : loadA i cells = some av) : ∃ v, Rep e av v ∧ ∀ w', SameAs w w' → (loadVar t ⟨b, o, none⟩).run P w' = .ok v w' := by
  unfold loadA at h
  unfold loadVar
  split at h
  · rename_i hagg
    split at h
    · rename_i hle
      simp only [Option.some.injEq] at h
      subst h
      have hle' : i.size ≤ cells.length := Nat.le_of_ble_eq_true hle
      have hz : ∀ j, j < i.size → ∃ z c, cells[j]? = some c ∧ w.cell? ⟨b, o + j, none⟩ = some z ∧ Rep e c z ∧ z.oneCell' = true := by
        intro j hj
        obtain ⟨z, h1, h2, h3⟩ := hr j cells[j] (by simp)
        exact ⟨z, cells[j], by simp, h1, h2, h3⟩
      have hc := fun (w' : World) (hs : SameAs w w') => run_loadCells (P := P) w' ⟨b, o, none⟩ i.size (fun j => (w.cell? ⟨b, o + j, none⟩).getD undef) (fun j hj => by
        have hadd : (⟨b, o, none⟩ : Addr).add j = ⟨b, o + j, none⟩ := by unfold Addr.add; split <;> simp_all
        obtain ⟨z, c, _, h2, _⟩ := hz j hj
        rw [hadd, hs.cell h2, h2]; rfl)
      refine ⟨.agg ((List.range i.size).map fun j => (w.cell? ⟨b, o + j, none⟩).getD undef).toArray, ?_, fun w' hs => ?_⟩
      case refine_2 => simp only [Sem.run_bind, hT.isAgg ht w', hT.size ht w', Result.andThen_ok, hagg, if_true, hc w' hs, Sem.run_pure]
      · simp only [Rep]
        refine ⟨_, rfl, RepL.mk (by simp; omega) ?_⟩
        intro j c hc
        have hj : j < i.size := by
          rcases Nat.lt_or_ge j i.size with h | h
          · exact h
          · rw [List.getElem?_eq_none (by simp; omega)] at hc; cases hc
        rw [List.getElem?_take, if_pos hj] at hc
        obtain ⟨z, c', h1, h2, h3, h4⟩ := hz j hj
        rw [h1] at hc; cases hc
        exact ⟨z, by simp [hj, h2], h3, h4⟩
    · cases h
  · rename_i hagg
    cases cells with
    | nil => simp at h
    | cons c cs =>
      simp at h; subst h
      obtain ⟨z, h1, h2, h3⟩ := hr 0 c (by simp)
      refine ⟨z, h2, fun w' hs => ?_⟩
      simp only [Nat.add_zero] at h1
      simp [hT.isAgg ht w', hagg, run_load, hs.cell h1]

theorem Rep_v {e : Env} {x : Value} : Rep e (.v x) x := by simp only [Rep]
theorem Rep_s {e : Env} {l : List UInt8} : Rep e (.s l) (S l) := by simp only [Rep]
theorem Rep_bp {e : Env} {k o : Nat} : Rep e (.bp k o) (.pointer (some ⟨e.μ k, o, none⟩)) := by simp only [Rep]

theorem toList_mk (l : List UInt8) : (ByteArray.mk l.toArray).toList = l := by rw [ByteArray.toList_eq]

theorem len_S (l : List UInt8) : (ByteArray.mk l.toArray).size = l.length := by simp [ByteArray.size]

theorem run_equalIn_bool {P : Program} {t : Nat} (h : P.underlying t = some .bool) (a b : Bool) (w : World) (d : Nat) : (Op.equalIn (d + 1) t (.bool a) (.bool b)).run P w = .ok (a == b) w := by
  simp [Op.equalIn, run_underlying h]
theorem run_equal_bool {P : Program} {t : Nat} (h : P.underlying t = some .bool) (a b : Bool) (w : World) : (Op.equal t (.bool a) (.bool b)).run P w = .ok (a == b) w :=
  run_equalIn_bool h a b w 9999

theorem bin_sound {P : Program} {T : Tab} (hT : TabOK P T) {e : Env} {t : Nat} {op : BinOp} {x y av : AV} {p q : Value} (hx : Rep e x p) (hy : Rep e y q) (h : bin T t op x y = some av) (ox oy : Operand) :
    ∃ z, av = .v z ∧ ∀ w : World, (do eqGuard op t ox oy p q; binOp op t p q : Sem Value).run P w = .ok z w := by
  unfold bin at h
  split at h
  · -- ints
    rename_i k a j b
    simp only [Rep] at hx hy
    subst hx hy
    split at h
    · rename_i hk
      have := kindEq_eq hk
      subst this
      cases op <;> simp [binI] at h <;> subst h <;> simp [eqGuard, binOp, Op.intArith, Op.intCmp, Op.intBits, bitsV]
    · cases h
  · rename_i a b
    simp only [Rep, S] at hx hy
    subst hx hy
    cases op <;> simp [binS] at h <;> subst h <;> simp [eqGuard, binOp, Op.stringOp, toList_mk]
  · rename_i a b
    simp only [Rep] at hx hy
    subst hx hy
    split at h
    · rename_i hTt
      obtain ⟨d, h1, _, h3⟩ := (hT t _ hTt).desc
      simp only [TDOK] at h3
      subst h3
      have he := fun w => run_equal_bool h1 a b w
      cases op <;> simp at h <;> subst h <;> simp [eqGuard, binOp, he] <;> cases a <;> cases b <;> rfl
    · cases h
  · cases h

theorem kid_of_take {k : Nat} : ∀ {cs : List Ch} {c : Ch} {r : List Ch}, takeCh k cs = some (c, r) → c.id = k
  | [], c, r, h => by simp [takeCh] at h
  | d :: cs, c, r, h => by
    simp only [takeCh] at h
    split at h
    · rename_i hbq
      simp only [Option.some.injEq, Prod.mk.injEq] at h
      obtain ⟨rfl, rfl⟩ := h
      exact Nat.eq_of_beq_eq_true hbq
    · split at h
      · rename_i hh
        simp only [Option.some.injEq, Prod.mk.injEq] at h
        obtain ⟨rfl, rfl⟩ := h
        exact kid_of_take hh
      · cases h

theorem HeapOK.head {P : Program} {T : Tab} {X : Ctx P T} {e : Env} {w : World} {c : Ch} {cs : List Ch} (h : HeapOK X e w (c :: cs)) : ∃ bs, ChOK e w c bs ∧ bs.Nodup ∧ ∀ b ∈ bs, b < w.heap.size ∧ (X.w0.heap.size ≤ b ∨ b ∈ X.bs) ∧ e.G.free b := by
  obtain ⟨pl, h1, h2, h3, h4⟩ := h
  cases pl with
  | nil => simp at h1
  | cons p pl =>
    simp only [List.map_cons, List.cons.injEq] at h1
    obtain ⟨rfl, _⟩ := h1
    simp only [List.flatMap_cons] at h3 h4
    exact ⟨p.2, h2 p (List.mem_cons_self ..), (List.nodup_append.1 h3).1, fun b hb => h4 b (List.mem_append.2 (.inl hb))⟩

theorem add_addr (b o n : Nat) : (⟨b, o, none⟩ : Addr).add n = ⟨b, o + n, none⟩ := by unfold Addr.add; split <;> simp_all

theorem still_sound {P : Program} {T : Tab} {X : Ctx P T} {n : Nat} {e : Env} {st : St} {a : Act} {w : World} (r : Rel X n e st a w) {o : Oper} {av : AV} (h : still T st o.op = some av) :
    ∃ v, Rep e av v ∧ ∀ w', SameAs w w' → (execOp a.eval o).run P w' = .ok (.value v) w' := by
  have hT := X.ok
  obtain ⟨dst, op, ty, pos, aft, gd⟩ := o
  simp only at h
  cases op with
  | move x => exact ⟨_, opd_sound r h, fun w' _ => rfl⟩
  | assign x => exact ⟨_, opd_sound r h, fun w' _ => rfl⟩
  | pick c p q =>
    simp only [still] at h
    split at h
    · rename_i hc
      have := opd_sound r hc
      simp only [Rep] at this
      exact ⟨_, opd_sound r h, fun w' _ => by simp [execOp, this, asBool]⟩
    · rename_i hc
      have := opd_sound r hc
      simp only [Rep] at this
      exact ⟨_, opd_sound r h, fun w' _ => by simp [execOp, this, asBool]⟩
    · cases h
  | binOp op t x y u =>
    simp only [still] at h
    split at h
    · rename_i p q hx hy
      obtain ⟨z, rfl, h1⟩ := bin_sound hT (opd_sound r hx) (opd_sound r hy) h x y
      refine ⟨z, by simp [Rep], fun w' _ => ?_⟩
      simp only [execOp]
      rw [Sem.run_bind, h1 w']
      rfl
    · cases h
  | unOp op t x =>
    simp only [still] at h
    split at h
    · rename_i hx
      have := opd_sound r hx
      simp only [Rep] at this
      simp only [Option.some.injEq] at h
      subst h
      exact ⟨_, Rep_v, fun w' _ => by simp only [execOp, this]; rfl⟩
    · rename_i hx
      have := opd_sound r hx
      simp only [Rep] at this
      simp only [Option.some.injEq] at h
      subst h
      exact ⟨_, Rep_v, fun w' _ => by simp only [execOp, this]; rfl⟩
    · cases h
  | convert src dst x =>
    simp only [still] at h
    split at h
    · rename_i i1 s b ag z k k' m h1 h2 h3
      have := opd_sound r h3
      simp only [Rep] at this
      simp only [Option.some.injEq] at h
      subst h
      obtain ⟨d1, e1, _, _⟩ := (hT _ _ h1).desc
      obtain ⟨d2, e2, _, e3⟩ := (hT _ _ h2).desc
      simp only [TDOK] at e3
      subst e3
      refine ⟨.int k (k.wrap m), by simp [Rep], fun w' _ => ?_⟩
      simp only [execOp, this, Go.convert, Sem.run_bind, run_underlying e1, run_underlying e2, Result.andThen_ok]
      rfl
    · rename_i l h1 h2 h3
      have := opd_sound r h3
      simp only [Rep] at this
      simp only [Option.some.injEq] at h
      subst h
      obtain ⟨d1, e1, _, e4⟩ := (hT _ _ h1).desc
      obtain ⟨d2, e2, _, e3⟩ := (hT _ _ h2).desc
      simp only [TDOK] at e3 e4
      subst e3 e4
      refine ⟨S l, by simp [Rep], fun w' _ => ?_⟩
      simp only [execOp, this, Go.convert, Sem.run_bind, run_underlying e1, run_underlying e2, Result.andThen_ok]
      rfl
    · cases h
  | fieldAddr t x f =>
    simp only [still] at h
    split at h
    · rename_i s b ag z fs hTt
      split at h
      · rename_i off sz hf
        obtain ⟨d, e1, _, e3⟩ := (hT _ _ hTt).desc
        simp only [TDOK] at e3
        obtain ⟨fields, rfl, e4, e5⟩ := e3
        have hfield : ∃ fl, fields[f]? = some fl ∧ fl.offset = off ∧ P.cellsOf fl.type = sz + 1 := by
          rw [← e4] at hf
          simp only [List.getElem?_map, Array.getElem?_toList, Option.map_eq_some_iff, Prod.mk.injEq] at hf
          obtain ⟨fl, g1, g2, g3⟩ := hf
          exact ⟨fl, g1, g2, g3⟩
        obtain ⟨fl, g1, g2, g3⟩ := hfield
        have g4 : ∃ pi, P.info? fl.type = some pi ∧ pi.size = sz + 1 := by
          cases hq : P.info? fl.type with
          | none => simp [Program.cellsOf, hq] at g3
          | some pi => exact ⟨pi, rfl, by simpa [Program.cellsOf, hq] using g3⟩
        obtain ⟨pi, g5, g6⟩ := g4
        have key : ∀ b o (w : World), a.eval x = .pointer (some ⟨b, o, none⟩) →
            (execOp a.eval ⟨dst, .fieldAddr t x f, ty, pos, aft, gd⟩).run P w = .ok (.value (.pointer (some ⟨b, o + off, none⟩))) w := by
          intro b o w hx
          simp only [execOp, hx, Instr.fieldAt, Sem.run_bind, run_underlying e1, Result.andThen_ok, g1, Instr.sureAddr, Sem.run_pure, fieldPlace, sizeOf, typeInfo, run_program, g5, g6]
          simp [g2, add_addr]
        split at h
        · rename_i k o hx
          simp only [Option.some.injEq] at h
          subst h
          have := opd_sound r hx
          simp only [Rep] at this
          exact ⟨_, Rep_bp, fun w' _ => key _ _ w' this⟩
        · rename_i cells hx
          simp only [Option.some.injEq] at h
          subst h
          have := opd_sound r hx
          simp only [Rep, RepI] at this
          obtain ⟨b, o, h1, h2⟩ := this
          exact ⟨_, by simp only [Rep, RepI]; exact ⟨b, o + off, rfl, h2.drop off⟩, fun w' _ => key _ _ w' h1⟩
        · rename_i k i esz j hx
          simp only [Option.some.injEq] at h
          subst h
          have := opd_sound r hx
          simp only [Rep] at this
          exact ⟨_, by simp only [Rep]; rfl, fun w' _ => by rw [← Nat.add_assoc]; exact key _ _ w' this⟩
        · rename_i b o hx
          simp only [Option.some.injEq] at h
          subst h
          have := opd_sound r hx
          simp only [Rep] at this
          exact ⟨_, by simp only [Rep], fun w' _ => key _ _ w' this⟩
        · cases h
      · cases h
    · cases h
  | load t x =>
    simp only [still] at h
    split at h
    · rename_i i hTt
      split at h
      · rename_i k o hx
        split at h
        · rename_i cells hb
          have := opd_sound r hx
          simp only [Rep] at this
          obtain ⟨arr, Tt, g1, g2⟩ := boxCells_sound r.heap hb
          obtain ⟨v, g4, g3⟩ := load_sound hT hTt (readable_bp g1 g2 o) h
          refine ⟨v, g4, fun w' hs => ?_⟩
          simp only [execOp, this, Instr.loadAt, Instr.sureAddr, Sem.run_bind, Sem.run_pure, Result.andThen_ok, g3 w' hs]
        · cases h
      · rename_i cells hx
        have := opd_sound r hx
        simp only [Rep, RepI] at this
        obtain ⟨b, o, h1, h2⟩ := this
        obtain ⟨v, g4, g3⟩ := load_sound hT hTt (readable_cp r h2) h
        refine ⟨v, g4, fun w' hs => ?_⟩
        simp only [execOp, h1, Instr.loadAt, Instr.sureAddr, Sem.run_bind, Sem.run_pure, Result.andThen_ok, g3 w' hs]
      · cases h
    · cases h
  | extract x i =>
    simp only [still] at h
    split at h
    · rename_i cs hx
      have := opd_sound r hx
      simp only [Rep] at this
      obtain ⟨ys, h1, h2⟩ := this
      have : ∀ {cs : List AV} {ys : List Value}, RepT e cs ys → ∀ (j : Nat) (c : AV), cs[j]? = some c → ∃ z, ys[j]? = some z ∧ Rep e c z := by
        intro cs
        induction cs with
        | nil => intro ys _ j c h; simp at h
        | cons d cs ih =>
          intro ys r j c h
          simp only [RepT] at r
          obtain ⟨z, zs, rfl, r1, r3⟩ := r
          cases j with
          | zero => simp at h; subst h; exact ⟨z, by simp, r1⟩
          | succ j => simpa using ih r3 j c (by simpa using h)
      obtain ⟨z, h3, h4⟩ := this h2 i av h
      refine ⟨z, h4, fun w' _ => ?_⟩
      have h5 : ys[i]? = some z := by simpa using h3
      simp [execOp, h1, Instr.extract, h5]
    · cases h
  | field t x f =>
    simp only [still] at h
    split at h
    · split at h <;> cases h
    · cases h
  | nilCheck x =>
    simp only [still] at h
    split at h
    · rename_i k o hx
      have := opd_sound r hx
      simp only [Rep] at this
      simp only [Option.some.injEq] at h
      subst h
      exact ⟨_, Rep_bp, fun w' _ => by simp only [execOp, this]; rfl⟩
    · rename_i ad hx
      have := opd_sound r hx
      simp only [Rep] at this
      simp only [Option.some.injEq] at h
      subst h
      exact ⟨_, Rep_v, fun w' _ => by simp only [execOp, this]; rfl⟩
    · rename_i cells hx
      have h0 := opd_sound r hx
      have h1 := h0
      simp only [Rep, RepI] at h1
      obtain ⟨b, o, h1, _⟩ := h1
      simp only [Option.some.injEq] at h
      subst h
      exact ⟨_, h0, fun w' _ => by simp only [execOp, h1]; rfl⟩
    · cases h
  | call c =>
    obtain ⟨cal, args, atys⟩ := c
    cases cal with
    | value f => simp [still] at h
    | invoke f m => simp [still] at h
    | builtin b =>
      simp only [still] at h
      split at h
      · rename_i x t ha ht
        have ha' : args = #[x] := by cases args; simpa using ha
        have ht' : atys = #[t] := by cases atys; simpa using ht
        subst ha' ht'
        have key : ∀ (m : Nat) (w : World), (Builtin.len_ #[t] ty #[a.eval x]).run P w = .ok (.int .i64 m) w → (execOp a.eval ⟨dst, .call ⟨.builtin .len, #[x], #[t]⟩, ty, pos, aft, gd⟩).run P w = .ok (.value (.int .i64 m)) w := by
          intro m w hm
          simp only [execOp, resolve, invoke, builtin, Sem.run_bind, Sem.run_pure, Result.andThen_ok, List.map_toArray, List.map_cons, List.map_nil, hm]
        split at h
        · rename_i l h1 h2
          simp only [Option.some.injEq] at h
          subst h
          obtain ⟨d, e1, _, e3⟩ := (hT _ _ h1).desc
          simp only [TDOK] at e3
          subst e3
          have := opd_sound r h2
          simp only [Rep] at this
          exact ⟨_, Rep_v, fun w' _ => key l.length w' (by simp [Builtin.len_, this, S, run_underlying e1, goInt, len_S])⟩
        · rename_i m esz row h1 h2
          simp only [Option.some.injEq] at h
          subst h
          obtain ⟨d, e1, _, e3⟩ := (hT _ _ h1).desc
          simp only [TDOK] at e3
          subst e3
          have := opd_sound r h2
          simp only [Rep, RepI] at this
          obtain ⟨aa, cc, e5, _, _⟩ := this
          exact ⟨_, Rep_v, fun w' _ => key m w' (by simp [Builtin.len_, e5, run_underlying e1, goInt])⟩
        · rename_i aa m cc h1 h2
          simp only [Option.some.injEq] at h
          subst h
          obtain ⟨d, e1, _, e3⟩ := (hT _ _ h1).desc
          simp only [TDOK] at e3
          subst e3
          have := opd_sound r h2
          simp only [Rep] at this
          exact ⟨_, Rep_v, fun w' _ => key m w' (by simp [Builtin.len_, this, run_underlying e1, goInt])⟩
        · rename_i k h1 h2
          split at h
          · rename_i k' T' esz m row rest htk
            simp only [Option.some.injEq] at h
            subst h
            obtain ⟨d, e1, _, e3⟩ := (hT _ _ h1).desc
            simp only [TDOK] at e3
            subst e3
            have := opd_sound r h2
            simp only [Rep] at this
            have hkk : k' = k := kid_of_take htk
            subst hkk
            obtain ⟨bs, ⟨_, xs, g1, g2⟩, _⟩ := (r.heap.perm (takeCh_perm htk)).head
            have : ∃ aa cc, a.eval x = .slice aa m cc := by
              rcases g1.2 with ⟨g3, g4⟩ | ⟨g, cap, cur, g3, _⟩
              · exact ⟨none, 0, by rw [this.1, g3, g4]⟩
              · exact ⟨_, _, by rw [this.1, g3]⟩
            obtain ⟨aa, cc, g5⟩ := this
            exact ⟨_, Rep_v, fun w' _ => key m w' (by simp [Builtin.len_, g5, run_underlying e1, goInt])⟩
          · cases h
        · cases h
      · rename_i x y ha
        have ha' : args = #[x, y] := by cases args; simpa using ha
        subst ha'
        split at h
        · rename_i k p k' q h1 h2
          simp only [Option.some.injEq] at h
          subst h
          have e1 := opd_sound r h1
          have e2 := opd_sound r h2
          simp only [Rep] at e1 e2
          have : (if q < p then q else p) = min p q := by simp only [Int.min_def]; split <;> split <;> omega
          refine ⟨.int k (min p q), by simp [Rep], fun w' _ => ?_⟩
          simp [execOp, resolve, invoke, builtin, Builtin.min_, Builtin.min2, e1, e2, this]
        · cases h
      · rename_i x y ha
        have ha' : args = #[x, y] := by cases args; simpa using ha
        subst ha'
        split at h
        · rename_i k p k' q h1 h2
          simp only [Option.some.injEq] at h
          subst h
          have e1 := opd_sound r h1
          have e2 := opd_sound r h2
          simp only [Rep] at e1 e2
          have : (if q > p then q else p) = max p q := by simp only [Int.max_def]; split <;> split <;> omega
          refine ⟨.int k (max p q), by simp [Rep], fun w' _ => ?_⟩
          simp [execOp, resolve, invoke, builtin, Builtin.max_, Builtin.max2, e1, e2, this]
        · cases h
      · cases h
  | _ => simp [still] at h

end Go.Sy

namespace Go.Sy
open Go.RowKit

def intOpd (s : List (Nat × AV)) (o : Operand) : Option Int :=
  match opd s o with
  | some (.v (.int _ i)) => some i
  | _ => none

def still1 (T : Tab) (st : St) : Op → Option (Prop × AV)
  | .binOp op _ x y _ => (match opd st.s x, opd st.s y with
    | some (.v (.int k a)), some (.v (.int j b)) => (match op with
      | .quo => (match kindEq k j with
        | true => some (b ≠ 0, .v (.int k (k.wrap (a.tdiv b))))
        | false => none)
      | .rem => (match kindEq k j with
        | true => some (b ≠ 0, .v (.int k (a.tmod b)))
        | false => none)
      | .shl => some (0 ≤ b, .v (.int k (k.wrap (a * 2 ^ min b.toNat k.bits))))
      | .shr => some (0 ≤ b, .v (.int k (a.fdiv (2 ^ min b.toNat k.bits))))
      | _ => none)
    | some (.s a), some (.s b) => (match op with
      | .add => some (a.length + b.length ≤ 9223372036854775807, .s (a ++ b))
      | _ => none)
    | _, _ => none)
  | .indexAddr t x i => (match T t, opd st.s x, intOpd st.s i with
    | some ⟨_, _, _, _, .slice el⟩, some (.sl n esz row), some i => (match T el with
      | some ti => (match Nat.beq ti.size esz with
        | true => some (0 ≤ i ∧ i < n, .cp (row i.toNat))
        | false => none)
      | none => none)
    | some ⟨_, _, _, _, .arr len el⟩, some (.bp k o), some i => (match T el with
      | some ⟨sz, _, _, _, _⟩ => some (0 ≤ i ∧ i < len, .bp k (o + i.toNat * sz))
      | none => none)
    | some ⟨_, _, _, _, .slice el⟩, some (.own k), some i => (match T el, takeCh k st.c with
      | some ti, some (.vec _ _ esz m _, _) => (match Nat.beq ti.size esz with
        | true => some (0 ≤ i ∧ i < m, .ep k i.toNat esz 0)
        | false => none)
      | _, _ => none)
    | some ⟨_, _, _, _, .slice el⟩, some (.v (.slice (some ⟨g, o, none⟩) m cc)), some i => (match T el with
      | some ⟨sz, _, _, _, _⟩ => some (0 ≤ i ∧ i < m, .v (.pointer (some ⟨g, o + i.toNat * sz, none⟩)))
      | none => none)
    | _, _, _ => none)
  | .load t x => (match T t, opd st.s x with
    | some ti, some (.ep k i esz j) => (match takeCh k st.c with
      | some (.vec _ _ esz' m row, _) => (match Nat.beq esz esz' with
        | true => (match loadA ti ((row i).drop j) with
          | some av => some (i < m, av)
          | none => none)
        | false => none)
      | _ => none)
    | _, _ => none)
  | .index t x i => (match T t, opd st.s x, intOpd st.s i with
    | some ⟨_, _, _, _, .str⟩, some (.s l), some i => some (0 ≤ i ∧ i < l.length, .v (.int .u8 (l.getD i.toNat 0).toNat))
    | _, _, _ => none)
  | .slice t x lo hi none => (match T t, opd st.s x, lo, hi with
    | some ⟨_, _, _, _, .str⟩, some (.s l), none, none => some (True, .s l)
    | some ⟨_, _, _, _, .str⟩, some (.s l), some lo, none => (match intOpd st.s lo with
      | some i => some (0 ≤ i ∧ i ≤ l.length, .s (l.drop i.toNat))
      | none => none)
    | some ⟨_, _, _, _, .str⟩, some (.s l), none, some hi => (match intOpd st.s hi with
      | some j => some (0 ≤ j ∧ j ≤ l.length, .s (l.take j.toNat))
      | none => none)
    | some ⟨_, _, _, _, .str⟩, some (.s l), some lo, some hi => (match intOpd st.s lo, intOpd st.s hi with
      | some i, some j => some (0 ≤ i ∧ i ≤ j ∧ j ≤ l.length, .s ((l.drop i.toNat).take (j.toNat - i.toNat)))
      | _, _ => none)
    | some ⟨_, _, _, _, .slice el⟩, some (.sl n esz row), none, none => (match T el with
      | some _ => some (True, .sl n esz row)
      | none => none)
    | some ⟨_, _, _, _, .slice el⟩, some (.sl n esz row), some lo, none => (match T el, intOpd st.s lo with
      | some ti, some i => (match Nat.beq ti.size esz with
        | true => some (0 ≤ i ∧ i ≤ n, .sl (n - i.toNat) esz (fun j => row (i.toNat + j)))
        | false => none)
      | _, _ => none)
    | some ⟨_, _, _, _, .slice el⟩, some (.sl n esz row), none, some hi => (match T el, intOpd st.s hi with
      | some _, some j => some (0 ≤ j ∧ j ≤ n, .sl j.toNat esz row)
      | _, _ => none)
    | some ⟨_, _, _, _, .slice el⟩, some (.sl n esz row), some lo, some hi => (match T el, intOpd st.s lo, intOpd st.s hi with
      | some ti, some i, some j => (match Nat.beq ti.size esz with
        | true => some (0 ≤ i ∧ i ≤ j ∧ j ≤ n, .sl (j.toNat - i.toNat) esz (fun q => row (i.toNat + q)))
        | false => none)
      | _, _, _ => none)
    | _, _, _, _ => none)
  | _ => none

theorem intOpd_sound {P : Program} {T : Tab} {X : Ctx P T} {n : Nat} {e : Env} {st : St} {a : Act} {w : World} (r : Rel X n e st a w) {o : Operand} {i : Int} (h : intOpd st.s o = some i) : ∃ k, a.eval o = .int k i := by
  unfold intOpd at h
  split at h
  · rename_i k j hj
    simp only [Option.some.injEq] at h
    subst h
    have := opd_sound r hj
    simp only [Rep] at this
    exact ⟨k, this⟩
  · cases h

theorem extract_S (l : List UInt8) (i j : Nat) : (ByteArray.mk l.toArray).extract i j = ByteArray.mk ((l.drop i).take (j - i)).toArray := by
  have h := ByteArray.data_extract (a := ByteArray.mk l.toArray) (b := i) (e := j)
  apply ByteArray.ext
  rw [h]
  apply Array.ext'
  simp [Array.toList_extract, List.extract_eq_take_drop]

theorem run_sliceBound {P : Program} {w : World} {k : IntKind} {i : Int} {y : Nat} (code : BoundsCode) (h0 : 0 ≤ i) (h1 : i ≤ y) : (Instr.sliceBound (.int k i) y code).run P w = .ok i.toNat w := by
  simp [Instr.sliceBound, asIntOf, h0, h1]

theorem run_bounds {P : Program} {w : World} (sl : Bool) (len cap : Nat) (lo hi : Option Value) (i j : Int) (h0 : 0 ≤ i) (hij : i ≤ j) (hj : j ≤ len) (hc : len ≤ cap)
    (hlo : (lo = none ∧ i = 0) ∨ ∃ k, lo = some (.int k i)) (hhi : (hi = none ∧ j = len) ∨ ∃ k, hi = some (.int k j)) :
    (Instr.sliceBounds sl len cap lo hi none).run P w = .ok (i.toNat, j.toNat, cap) w := by
  rcases hhi with ⟨rfl, rfl⟩ | ⟨kh, rfl⟩ <;> rcases hlo with ⟨rfl, rfl⟩ | ⟨kl, rfl⟩
  · simp [Instr.sliceBounds]
  · simp [Instr.sliceBounds, run_sliceBound _ h0 hij]
  · simp [Instr.sliceBounds, run_sliceBound _ (show (0 : Int) ≤ j by omega) (show j ≤ (cap : Int) by omega)]
  · simp [Instr.sliceBounds, run_sliceBound _ (show (0 : Int) ≤ j by omega) (show j ≤ (cap : Int) by omega), run_sliceBound _ h0 (show i ≤ (j.toNat : Int) by omega)]

theorem RepIL.get {G : IM} : ∀ {cs : List AV} {ys : List Value}, RepIL G cs ys → ∀ (j : Nat) (c : AV), cs[j]? = some c → ∃ z, ys[j]? = some z ∧ RepI G c z ∧ z.oneCell' = true
  | [], ys, _, j, c, h => by simp at h
  | d :: cs, ys, r, j, c, h => by
    simp only [RepIL] at r
    obtain ⟨z, zs, rfl, r1, r2, r3⟩ := r
    cases j with
    | zero => simp at h; subst h; exact ⟨z, by simp, r1, r2⟩
    | succ j => simpa using RepIL.get r3 j c (by simpa using h)

theorem HeapOK.vecread {P : Program} {T : Tab} {X : Ctx P T} {e : Env} {w : World} {c rest : List Ch} {k kk t esz m : Nat} {row : Nat → List AV} (h : HeapOK X e w c) (hk : takeCh k c = some (.vec kk t esz m row, rest)) {i : Nat} (hi : i < m) :
    ∃ cap, e.hd k = .slice (some ⟨(e.hd k).ownBlock.getD 0, 0, none⟩) m cap ∧ Readable e w ((e.hd k).ownBlock.getD 0) (i * esz) (row i) := by
  have hkk : kk = k := kid_of_take hk
  subst hkk
  have hh := h.perm (takeCh_perm hk)
  obtain ⟨bs, ⟨hbs, xs, g1, g2⟩, _, hgood⟩ := hh.head
  rcases g1.2 with ⟨hnil, hm⟩ | ⟨g, cap, cur, hsl, _, hg, hcap, hmax, hcs, htake⟩
  · omega
  · have hb : (e.hd kk).ownBlock.getD 0 = g := by rw [hsl]; rfl
    rw [hb]
    refine ⟨cap, hsl, fun j c hc => ?_⟩
    have z0 := g2 i hi
    obtain ⟨z, z1, z2, z3⟩ := z0.get j c hc
    have hj : j < esz := by
      rcases Nat.lt_or_ge j esz with h | h
      · exact h
      · rw [List.getElem?_eq_none (by simp; omega)] at z1; cases z1
    have hlt : i * esz + j < m * esz := by
      have : (i + 1) * esz ≤ m * esz := Nat.mul_le_mul_right _ hi
      rw [Nat.add_mul] at this; omega
    refine ⟨z, ?_, RepI.toRep _ z2, z3⟩
    rw [cell_of_row w g _ cur t (0, 0) hg]
    rw [List.getElem?_take, if_pos hj, List.getElem?_drop, ← htake, List.getElem?_take, if_pos hlt] at z1
    simpa using z1

theorem still1_sound {P : Program} {T : Tab} {X : Ctx P T} {n : Nat} {e : Env} {st : St} {a : Act} {w : World} (r : Rel X n e st a w) {o : Oper} {vc : Prop} {av : AV}
    (h : still1 T st o.op = some (vc, av)) (hvc : vc) : ∃ v, Rep e av v ∧ ∀ w', SameAs w w' → (execOp a.eval o).run P w' = .ok (.value v) w' := by
  have hT := X.ok
  obtain ⟨dst, op, ty, pos, aft, gd⟩ := o
  simp only at h
  cases op with
  | binOp op t x y u =>
    simp only [still1] at h
    split at h
    · rename_i k p j q hx hy
      have hx := opd_sound r hx
      have hy := opd_sound r hy
      simp only [Rep] at hx hy
      split at h
      · split at h
        · rename_i hk
          have := kindEq_eq hk
          subst this
          simp only [Option.some.injEq, Prod.mk.injEq] at h
          obtain ⟨rfl, rfl⟩ := h
          exact ⟨_, Rep_v, fun w' _ => by simp [execOp, hx, hy, eqGuard, binOp, Op.intDiv, hvc]⟩
        · cases h
      · split at h
        · rename_i hk
          have := kindEq_eq hk
          subst this
          simp only [Option.some.injEq, Prod.mk.injEq] at h
          obtain ⟨rfl, rfl⟩ := h
          exact ⟨_, Rep_v, fun w' _ => by simp [execOp, hx, hy, eqGuard, binOp, Op.intDiv, hvc]⟩
        · cases h
      · simp only [Option.some.injEq, Prod.mk.injEq] at h
        obtain ⟨rfl, rfl⟩ := h
        have : ¬ q < 0 := by omega
        exact ⟨_, Rep_v, fun w' _ => by simp [execOp, hx, hy, eqGuard, binOp, Op.shift, this]⟩
      · simp only [Option.some.injEq, Prod.mk.injEq] at h
        obtain ⟨rfl, rfl⟩ := h
        have : ¬ q < 0 := by omega
        exact ⟨_, Rep_v, fun w' _ => by simp [execOp, hx, hy, eqGuard, binOp, Op.shift, this]⟩
      · cases h
    · rename_i p q hx hy
      have hx := opd_sound r hx
      have hy := opd_sound r hy
      simp only [Rep, S] at hx hy
      split at h
      · simp only [Option.some.injEq, Prod.mk.injEq] at h
        obtain ⟨rfl, rfl⟩ := h
        have h1 : (((ByteArray.mk p.toArray).size : Nat) : Int) + (((ByteArray.mk q.toArray).size : Nat) : Int) ≤ 9223372036854775807 := by
          rw [len_S, len_S]; omega
        have h2 : ByteArray.mk p.toArray ++ ByteArray.mk q.toArray = ByteArray.mk (p ++ q).toArray := by
          apply ByteArray.ext; simp
        refine ⟨S (p ++ q), by simp [Rep], fun w' _ => ?_⟩
        simp only [execOp, hx, hy, eqGuard, binOp, Op.stringOp, S]
        simp [h1, h2]
      · cases h
    · cases h
  | indexAddr t x i =>
    simp only [still1] at h
    split at h
    · rename_i el m esz row i' h1 h2 h3
      split at h
      · rename_i ti h4
        split at h
        · rename_i h5
          have h5 := Nat.eq_of_beq_eq_true h5
          simp only [Option.some.injEq, Prod.mk.injEq] at h
          obtain ⟨rfl, rfl⟩ := h
          obtain ⟨k, hk⟩ := intOpd_sound r h3
          have hx := opd_sound r h2
          simp only [Rep, RepI] at hx
          obtain ⟨aa, c, e1, e2, e3⟩ := hx
          obtain ⟨d, e4, _, e5⟩ := (hT _ _ h1).desc
          simp only [TDOK] at e5
          subst e5
          rcases e3 with e3 | ⟨b, o, rfl, e3⟩
          · omega
          · refine ⟨.pointer (some ⟨b, o + i'.toNat * esz, none⟩), ?_, fun w' _ => ?_⟩
            case refine_2 =>
              simp only [execOp, e1, hk, Instr.indexAt, asIntOf, Sem.run_bind, Sem.run_pure, Result.andThen_ok, run_underlying e4, hT.size h4, h5]
              simp [run_underlying e4, hvc, hT.size h4, h5, add_addr]
            · simp only [Rep, RepI]
              exact ⟨b, _, rfl, e3 i'.toNat (by omega)⟩
        · cases h
      · cases h
    · rename_i len el k' o i' h1 h2 h3
      split at h
      · rename_i sz _ _ _ _ h4
        simp only [Option.some.injEq, Prod.mk.injEq] at h
        obtain ⟨rfl, rfl⟩ := h
        obtain ⟨k, hk⟩ := intOpd_sound r h3
        have hx := opd_sound r h2
        simp only [Rep] at hx
        obtain ⟨d, e4, _, e5⟩ := (hT _ _ h1).desc
        simp only [TDOK] at e5
        subst e5
        refine ⟨.pointer (some ⟨e.μ k', o + i'.toNat * sz, none⟩), by simp [Rep], fun w' _ => ?_⟩
        simp only [execOp, hx, hk, Instr.indexAt, asIntOf, Instr.sureAddr, Sem.run_bind, Sem.run_pure, Result.andThen_ok, run_underlying e4, hT.size h4]
        simp [run_underlying e4, hvc, hT.size h4, add_addr]
      · cases h
    · rename_i el k' i' h1 h2 h3
      split at h
      · rename_i ti kk tt esz m row rest h4 h6
        split at h
        · rename_i h5
          have h5 := Nat.eq_of_beq_eq_true h5
          simp only [Option.some.injEq, Prod.mk.injEq] at h
          obtain ⟨rfl, rfl⟩ := h
          obtain ⟨k, hk⟩ := intOpd_sound r h3
          have hx := opd_sound r h2
          simp only [Rep] at hx
          obtain ⟨hx, _⟩ := hx
          obtain ⟨cap, e1, _⟩ := r.heap.vecread h6 (i := i'.toNat) (by omega)
          rw [e1] at hx
          obtain ⟨d, e4, _, e5⟩ := (hT _ _ h1).desc
          simp only [TDOK] at e5
          subst e5
          refine ⟨.pointer (some ⟨(e.hd k').ownBlock.getD 0, i'.toNat * esz + 0, none⟩), by simp only [Rep], fun w' _ => ?_⟩
          simp only [execOp, hx, hk, Instr.indexAt, asIntOf, Sem.run_bind, Sem.run_pure, Result.andThen_ok, run_underlying e4, hT.size h4, h5]
          simp [run_underlying e4, hvc, hT.size h4, h5, add_addr]
        · cases h
      · cases h
    · rename_i el g o m cc i' h1 h2 h3
      split at h
      · rename_i sz _ _ _ _ h4
        simp only [Option.some.injEq, Prod.mk.injEq] at h
        obtain ⟨rfl, rfl⟩ := h
        obtain ⟨k, hk⟩ := intOpd_sound r h3
        have hx := opd_sound r h2
        simp only [Rep] at hx
        obtain ⟨d, e4, _, e5⟩ := (hT _ _ h1).desc
        simp only [TDOK] at e5
        subst e5
        refine ⟨.pointer (some ⟨g, o + i'.toNat * sz, none⟩), by simp [Rep], fun w' _ => ?_⟩
        simp only [execOp, hx, hk, Instr.indexAt, asIntOf, Sem.run_bind, Sem.run_pure, Result.andThen_ok, run_underlying e4, hT.size h4]
        simp [run_underlying e4, hvc, hT.size h4, add_addr]
      · cases h
    · cases h
  | load t x =>
    simp only [still1] at h
    split at h
    · rename_i ti k i esz j hTt hx
      split at h
      · rename_i kk tt esz' m row rest h6
        split at h
        · rename_i h5
          have h5 := Nat.eq_of_beq_eq_true h5
          subst h5
          split at h
          · rename_i av' hl
            simp only [Option.some.injEq, Prod.mk.injEq] at h
            obtain ⟨rfl, rfl⟩ := h
            obtain ⟨cap, e1, e2⟩ := r.heap.vecread h6 hvc
            have := opd_sound r hx
            simp only [Rep] at this
            have hrd : Readable e w ((e.hd k).ownBlock.getD 0) (i * esz + j) ((row i).drop j) := by
              intro q c hc
              rw [List.getElem?_drop] at hc
              have := e2 (j + q) c hc
              rwa [← Nat.add_assoc] at this
            obtain ⟨v, g4, g3⟩ := load_sound hT hTt hrd hl
            refine ⟨v, g4, fun w' hs => ?_⟩
            simp only [execOp, this, Instr.loadAt, Instr.sureAddr, Sem.run_bind, Sem.run_pure, Result.andThen_ok, g3 w' hs]
          · cases h
        · cases h
      · cases h
    · cases h
  | index t x i =>
    simp only [still1] at h
    split at h
    · rename_i l i' h1 h2 h3
      simp only [Option.some.injEq, Prod.mk.injEq] at h
      obtain ⟨rfl, rfl⟩ := h
      obtain ⟨k, hk⟩ := intOpd_sound r h3
      have hx := opd_sound r h2
      simp only [Rep, S] at hx
      obtain ⟨d, e4, _, e5⟩ := (hT _ _ h1).desc
      simp only [TDOK] at e5
      subst e5
      have hlt : i'.toNat < l.length := by omega
      have hg : (ByteArray.mk l.toArray)[i'.toNat]? = some (l.getD i'.toNat 0) := by
        rw [getElem?_pos _ _ (by rw [len_S]; exact hlt)]
        simp [List.getD, List.getElem?_eq_getElem hlt]
        rfl
      refine ⟨.int .u8 (l.getD i'.toNat 0).toNat, by simp [Rep], fun w' _ => ?_⟩
      simp only [execOp, hx, hk, Instr.index, asIntOf, Sem.run_bind, Sem.run_pure, Result.andThen_ok, run_underlying e4]
      simp [hvc.1, hg]
    · cases h
  | slice t x lo hi mx =>
    cases mx with
    | some m => simp [still1] at h
    | none =>
    simp only [still1] at h
    have strk : ∀ {sz by_ : Nat} {ag : Bool} {z : List Value} (l : List UInt8) (i j : Int), T t = some ⟨sz, by_, ag, z, .str⟩ → a.eval x = S l → 0 ≤ i → i ≤ j → j ≤ l.length →
        ((lo.map a.eval = none ∧ i = 0) ∨ ∃ k, lo.map a.eval = some (.int k i)) → ((hi.map a.eval = none ∧ j = l.length) ∨ ∃ k, hi.map a.eval = some (.int k j)) →
        ∀ w : World, (execOp a.eval ⟨dst, .slice t x lo hi none, ty, pos, aft, gd⟩).run P w = .ok (.value (S ((l.drop i.toNat).take (j.toNat - i.toNat)))) w := by
      intro sz by_ ag z l i j h1 h2 h3 h4 h5 h6 h7 w
      obtain ⟨d, e4, _, e5⟩ := (hT _ _ h1).desc
      simp only [TDOK] at e5
      subst e5
      have hb := run_bounds (P := P) (w := w) false l.length l.length _ _ i j h3 h4 h5 (Nat.le_refl _) h6 h7
      simp only [execOp, h2, S, Instr.sliceAt, Instr.slice, Sem.run_bind, run_underlying e4, Result.andThen_ok]
      simp [run_underlying e4, len_S, hb, extract_S]
    have slk : ∀ {sz by_ el : Nat} {ag : Bool} {z : List Value} {ti : TI} (n esz : Nat) (row : Nat → List AV) (i j : Int), T t = some ⟨sz, by_, ag, z, .slice el⟩ → T el = some ti → (i ≠ 0 → ti.size = esz) →
        Rep e (.sl n esz row) (a.eval x) → 0 ≤ i → i ≤ j → j ≤ n →
        ((lo.map a.eval = none ∧ i = 0) ∨ ∃ k, lo.map a.eval = some (.int k i)) → ((hi.map a.eval = none ∧ j = n) ∨ ∃ k, hi.map a.eval = some (.int k j)) →
        ∃ v, Rep e (.sl (j.toNat - i.toNat) esz (fun q => row (i.toNat + q))) v ∧ ∀ w : World, (execOp a.eval ⟨dst, .slice t x lo hi none, ty, pos, aft, gd⟩).run P w = .ok (.value v) w := by
      intro sz by_ el ag z ti n esz row i j h1 ht h1' h2 h3 h4 h5 h6 h7
      obtain ⟨d, e4, _, e5⟩ := (hT _ _ h1).desc
      simp only [TDOK] at e5
      subst e5
      simp only [Rep, RepI] at h2
      obtain ⟨aa, c, e1, e2, e3⟩ := h2
      have hb := fun w : World => run_bounds (P := P) (w := w) true n c _ _ i j h3 h4 h5 e2 h6 h7
      refine ⟨.slice (if c = i.toNat then aa else aa.map (·.add (i.toNat * ti.size))) (j.toNat - i.toNat) (c - i.toNat), ?_, fun w => ?_⟩
      case refine_2 =>
        simp only [execOp, e1, Instr.sliceAt, Instr.slice, Sem.run_bind, run_underlying e4, Result.andThen_ok]
        simp [run_underlying e4, hb, X.ok.size ht]
      · simp only [Rep, RepI]
        refine ⟨_, _, rfl, by omega, ?_⟩
        by_cases hz : j.toNat - i.toNat = 0
        · exact .inl hz
        · refine .inr ?_
          rcases e3 with e3 | ⟨b, o, rfl, e3⟩
          · omega
          · rw [if_neg (by omega)]
            refine ⟨b, o + i.toNat * ti.size, by simp [add_addr], fun q hq => ?_⟩
            have := e3 (i.toNat + q) (by omega)
            rcases Nat.eq_zero_or_pos i.toNat with h0 | h0
            · rw [h0] at this ⊢; simpa using this
            · rw [h1' (by omega)]
              rwa [Nat.add_mul, ← Nat.add_assoc] at this
    split at h
    · rename_i l h1 h2
      simp only [Option.some.injEq, Prod.mk.injEq] at h
      obtain ⟨rfl, rfl⟩ := h
      have hx := opd_sound r h2
      simp only [Rep] at hx
      have := strk l 0 l.length h1 hx (by omega) (by omega) (by omega) (.inl ⟨rfl, rfl⟩) (.inl ⟨rfl, rfl⟩)
      exact ⟨_, by simp [Rep], fun w' _ => this w'⟩
    · rename_i l lo' h1 h2
      split at h
      · rename_i i hi'
        simp only [Option.some.injEq, Prod.mk.injEq] at h
        obtain ⟨rfl, rfl⟩ := h
        have hx := opd_sound r h2
        simp only [Rep] at hx
        obtain ⟨k, hk⟩ := intOpd_sound r hi'
        have := strk l i l.length h1 hx (by omega) (by omega) (by omega) (.inr ⟨k, by simp [hk]⟩) (.inl ⟨rfl, rfl⟩)
        refine ⟨_, ?_, fun w' _ => this w'⟩
        simp only [Rep]
        congr 1
        rw [List.take_of_length_le (by simp)]
      · cases h
    · rename_i l hi' h1 h2
      split at h
      · rename_i j hj'
        simp only [Option.some.injEq, Prod.mk.injEq] at h
        obtain ⟨rfl, rfl⟩ := h
        have hx := opd_sound r h2
        simp only [Rep] at hx
        obtain ⟨k, hk⟩ := intOpd_sound r hj'
        have := strk l 0 j h1 hx (by omega) (by omega) (by omega) (.inl ⟨rfl, rfl⟩) (.inr ⟨k, by simp [hk]⟩)
        exact ⟨_, by simp [Rep], fun w' _ => this w'⟩
      · cases h
    · rename_i l lo' hi' h1 h2
      split at h
      · rename_i i j hl' hj'
        simp only [Option.some.injEq, Prod.mk.injEq] at h
        obtain ⟨rfl, rfl⟩ := h
        have hx := opd_sound r h2
        simp only [Rep] at hx
        obtain ⟨k, hk⟩ := intOpd_sound r hl'
        obtain ⟨k2, hk2⟩ := intOpd_sound r hj'
        have := strk l i j h1 hx (by omega) (by omega) (by omega) (.inr ⟨k, by simp [hk]⟩) (.inr ⟨k2, by simp [hk2]⟩)
        exact ⟨_, by simp [Rep], fun w' _ => this w'⟩
      · cases h
    · rename_i el m esz row h1 h2
      split at h
      · rename_i ti hti
        simp only [Option.some.injEq, Prod.mk.injEq] at h
        obtain ⟨rfl, rfl⟩ := h
        obtain ⟨v, g2, g1⟩ := slk m esz row 0 m h1 hti (by omega) (opd_sound r h2) (by omega) (by omega) (by omega) (.inl ⟨rfl, rfl⟩) (.inl ⟨rfl, rfl⟩)
        exact ⟨v, by simpa using g2, fun w' _ => g1 w'⟩
      · cases h
    · rename_i el m esz row lo' h1 h2
      split at h
      · rename_i ti i hti hi'
        split at h
        · rename_i hs
          simp only [Option.some.injEq, Prod.mk.injEq] at h
          obtain ⟨rfl, rfl⟩ := h
          obtain ⟨k, hk⟩ := intOpd_sound r hi'
          obtain ⟨v, g2, g1⟩ := slk m esz row i m h1 hti (fun _ => Nat.eq_of_beq_eq_true hs) (opd_sound r h2) (by omega) (by omega) (by omega) (.inr ⟨k, by simp [hk]⟩) (.inl ⟨rfl, rfl⟩)
          exact ⟨v, by simpa using g2, fun w' _ => g1 w'⟩
        · cases h
      · cases h
    · rename_i el m esz row hi' h1 h2
      split at h
      · rename_i ti j hti hj'
        simp only [Option.some.injEq, Prod.mk.injEq] at h
        obtain ⟨rfl, rfl⟩ := h
        obtain ⟨k, hk⟩ := intOpd_sound r hj'
        obtain ⟨v, g2, g1⟩ := slk m esz row 0 j h1 hti (by omega) (opd_sound r h2) (by omega) (by omega) (by omega) (.inl ⟨rfl, rfl⟩) (.inr ⟨k, by simp [hk]⟩)
        exact ⟨v, by simpa using g2, fun w' _ => g1 w'⟩
      · cases h
    · rename_i el m esz row lo' hi' h1 h2
      split at h
      · rename_i ti i j hti hl' hj'
        split at h
        · rename_i hs
          simp only [Option.some.injEq, Prod.mk.injEq] at h
          obtain ⟨rfl, rfl⟩ := h
          obtain ⟨k, hk⟩ := intOpd_sound r hl'
          obtain ⟨k2, hk2⟩ := intOpd_sound r hj'
          obtain ⟨v, g2, g1⟩ := slk m esz row i j h1 hti (fun _ => Nat.eq_of_beq_eq_true hs) (opd_sound r h2) (by omega) (by omega) (by omega) (.inr ⟨k, by simp [hk]⟩) (.inr ⟨k2, by simp [hk2]⟩)
          exact ⟨v, g2, fun w' _ => g1 w'⟩
        · cases h
      · cases h
    · cases h
  | _ => simp [still1] at h

end Go.Sy
