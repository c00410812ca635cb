/- The symbolic walk, part 8: checking a types' table. -/
import Derived.Test.YtgdlhcaidfokkaaSy7
set_option linter.unusedSimpArgs false
set_option linter.unusedVariables false
namespace Go.Sy
open Go.RowKit

def eqv : Value → Value → Bool
  | .bool a, .bool b => a == b
  | .int j a, .int k b => kindEq j k && a == b
  | .string a, .string b => a.data.toList == b.data.toList
  | .pointer none, .pointer none => true
  | .slice none 0 0, .slice none 0 0 => true
  | .map none, .map none => true
  | .nilFunc, .nilFunc => true
  | .nilIface, .nilIface => true
  | _, _ => false
theorem eqv_eq {x y : Value} (h : eqv x y = true) : x = y := by
  unfold eqv at h
  split at h
  · simpa using h
  · simp only [Bool.and_eq_true, beq_iff_eq] at h
    rw [kindEq_eq h.1, h.2]
  · rename_i a b
    simp only [beq_iff_eq] at h
    congr 1
    cases a; cases b
    congr 1
    exact Array.ext' h
  all_goals first | rfl | cases h

def eqvL : List Value → List Value → Bool
  | [], [] => true
  | x :: xs, y :: ys => eqv x y && eqvL xs ys
  | _, _ => false
theorem eqvL_eq : ∀ {xs ys : List Value}, eqvL xs ys = true → xs = ys
  | [], [], _ => rfl
  | x :: xs, y :: ys, h => by
    simp only [eqvL, Bool.and_eq_true] at h
    rw [eqv_eq h.1, eqvL_eq h.2]
  | [], _ :: _, h => by simp [eqvL] at h
  | _ :: _, [], h => by simp [eqvL] at h

def pairsB : List (Nat × Nat) → List (Nat × Nat) → Bool
  | [], [] => true
  | (a, b) :: r, (c, d) :: s => Nat.beq a c && Nat.beq b d && pairsB r s
  | _, _ => false
theorem pairsB_eq : ∀ {xs ys : List (Nat × Nat)}, pairsB xs ys = true → xs = ys
  | [], [], _ => rfl
  | (a, b) :: xs, (c, d) :: ys, h => by
    simp only [pairsB, Bool.and_eq_true] at h
    rw [Nat.eq_of_beq_eq_true h.1.1, Nat.eq_of_beq_eq_true h.1.2, pairsB_eq h.2]
  | [], _ :: _, h => by simp [pairsB] at h
  | _ :: _, [], h => by simp [pairsB] at h

def descB (P : Program) : TD → TypeDesc → Bool
  | .other, _ => true
  | .bool, .bool => true
  | .int k, .int j => kindEq k j
  | .str, .string => true
  | .struct fs, .struct fields => pairsB (fields.toList.map (fun f => (f.offset, P.cellsOf f.type))) fs && fields.toList.all (fun f => (P.info? f.type).isSome)
  | .arr n e, .array m d => Nat.beq n m && Nat.beq e d
  | .slice e, .slice d => Nat.beq e d
  | _, _ => false
theorem descB_ok {P : Program} {x : TD} {d : TypeDesc} (h : descB P x d = true) : TDOK P x d := by
  unfold descB at h
  split at h
  · trivial
  · rfl
  · simp only [TDOK]; rw [kindEq_eq h]
  · rfl
  · rename_i fs fields
    simp only [Bool.and_eq_true, List.all_eq_true] at h
    exact ⟨fields, rfl, pairsB_eq h.1, fun f hf => h.2 f (by simpa using hf)⟩
  · simp only [Bool.and_eq_true] at h
    simp only [TDOK]
    rw [Nat.eq_of_beq_eq_true h.1, Nat.eq_of_beq_eq_true h.2]
  · simp only [TDOK]; rw [Nat.eq_of_beq_eq_true h]
  · cases h

def checkTI (P : Program) (t : Nat) (i : TI) : Bool :=
  match P.info? t, P.underlying t with
  | some pi, some d => Nat.beq pi.size i.size && Nat.beq pi.bytes i.bytes &&
      (match pi.zero with
        | some z => eqvL z.cells.toList i.zero && i.zero.all (·.oneCell') && Nat.beq i.zero.length i.size
        | none => false) &&
      (i.agg == (match d with | .struct _ | .array _ _ => true | _ => false)) && descB P i.d d
  | _, _ => false

theorem checkTI_ok {P : Program} {t : Nat} {i : TI} (h : checkTI P t i = true) : TIOK P t i := by
  unfold checkTI at h
  split at h
  · rename_i pi d h1 h2
    simp only [Bool.and_eq_true] at h
    obtain ⟨⟨⟨⟨k1, k2⟩, k3⟩, k4⟩, k5⟩ := h
    split at k3
    · rename_i z hz
      simp only [Bool.and_eq_true] at k3
      exact ⟨⟨pi, z, h1, Nat.eq_of_beq_eq_true k1, Nat.eq_of_beq_eq_true k2, hz, eqvL_eq k3.1.1, k3.1.2, Nat.eq_of_beq_eq_true k3.2⟩, ⟨d, h2, eq_of_beq k4, descB_ok k5⟩⟩
    · cases k3
  · cases h

def mkTab (N : Nat) (f : Tab) : Tab := fun t => match Nat.blt t N with
  | true => f t
  | false => none

def checkTab (P : Program) (f : Tab) : List Nat → Bool
  | [] => true
  | t :: r => (match f t with
    | none => true
    | some i => checkTI P t i) && checkTab P f r

theorem checkTab_mem {P : Program} {f : Tab} : ∀ {l : List Nat}, checkTab P f l = true → ∀ t ∈ l, ∀ i, f t = some i → checkTI P t i = true
  | [], _, t, h, _, _ => by simp at h
  | u :: l, hc, t, h, i, hi => by
    simp only [checkTab, Bool.and_eq_true] at hc
    rcases List.mem_cons.1 h with rfl | h
    · have := hc.1
      rw [hi] at this
      exact this
    · exact checkTab_mem hc.2 t h i hi

theorem tabOK {P : Program} {N : Nat} {f : Tab} (h : checkTab P f (List.range N) = true) : TabOK P (mkTab N f) := by
  intro t i hi
  unfold mkTab at hi
  split at hi
  · rename_i hb
    have hlt : t < N := by have := hb; simp [Nat.blt] at this; omega
    exact checkTI_ok (checkTab_mem h t (List.mem_range.2 hlt) i hi)
  · cases hi
end Go.Sy
