/- The symbolic walk, part 19: text of an owned list of bytes. -/
import Derived.Test.YtgdlhcaidfokkaaSy18
set_option linter.unusedSimpArgs false
set_option linter.unusedVariables false
namespace Go.Sy
open Go.RowKit

abbrev U8c (b : UInt8) : List AV := [.v (.int .u8 (b.toNat : Int))]

section
variable {P : Program} {T : Tab} {X : Ctx P T} {n : Nat} {e : Env} {st : St} {a : Act} {w : World} {ops : Array Oper} {K : St → Prop}

theorem text_run (r : Rel X n e st a w) {src dst' : TypeId} {x : Operand} {dst : Option Tmp} {ty : TypeId} {pos : String} {aft : Array Edge} {gd : Option (Nat × Bool)} {l : List UInt8} {b off cap el : Nat} {s1 s2 s3 s4 s5 s6 : Nat} {g1 g2 g3 : Bool} {z1 z2 z3 : List Value}
    (t1 : T src = some ⟨s1, s2, g1, z1, .slice el⟩) (t2 : T dst' = some ⟨s3, s4, g2, z2, .str⟩) (t3 : T el = some ⟨s5, s6, g3, z3, .int .u8⟩)
    (hx : a.eval x = .slice (some ⟨b, off, none⟩) l.length cap) (hr : ∀ i, i < l.length → Readable e w b (off + i) (U8c (l.getD i default))) :
    ∀ w', SameAs w w' → (execOp a.eval ⟨dst, .convert src dst' x, ty, pos, aft, gd⟩).run P w' = .ok (.value (S l)) w' := by
  have hT := X.ok
  obtain ⟨d1, e1, _, e2⟩ := (hT _ _ t1).desc
  obtain ⟨d2, e3, _, e4⟩ := (hT _ _ t2).desc
  obtain ⟨d3, e5, _, e6⟩ := (hT _ _ t3).desc
  simp only [TDOK] at e2 e4 e6
  subst e2 e4 e6
  intro w' hs
  have := run_convert_bytes_arg (P := P) w' src el e1 e5 b off l.length cap (l.map (fun b => (b.toNat : Int))) (by simp) (fun i hi => by
    obtain ⟨z, z1, z2, z3⟩ := hr i hi 0 _ rfl
    simp only [Rep] at z2
    subst z2
    have hg : (l.map (fun b => (b.toNat : Int))).getD i 0 = ((l.getD i default).toNat : Int) := by
      simp [List.getD, List.getElem?_eq_getElem hi]
    rw [hg]
    exact hs.cell z1) dst' e3
  simp only [execOp, hx, Sem.run_bind, this, Result.andThen_ok, Sem.run_pure]
  unfold strOfNums S
  have hid : (l.map (fun b => (b.toNat : Int))).map (fun n => UInt8.ofNat n.toNat) = l := by
    rw [List.map_map]
    conv => rhs; rw [← List.map_id l]
    refine List.map_congr_left (fun b _ => ?_)
    simp
  rw [hid]

/-- The text of an owned list of bytes. -/
theorem O_text (l : List UInt8) {dst : Nat} {src dst' : TypeId} {x : Operand} {ty : TypeId} {pos : String} {aft : Array Edge} {rest : List Oper} {s : List (Nat × AV)} {c r1 : List Ch} {k tt el : Nat} {s1 s2 s3 s4 s5 s6 : Nat} {g1 g2 g3 : Bool} {z1 z2 z3 : List Value}
    (t1 : T src = some ⟨s1, s2, g1, z1, .slice el⟩) (t2 : T dst' = some ⟨s3, s4, g2, z2, .str⟩) (t3 : T el = some ⟨s5, s6, g3, z3, .int .u8⟩)
    (hx : opd s x = some (.own k)) (hk : takeCh k c = some (VEC k tt 1 U8c l, r1)) (hl : 0 < l.length) (hd : Nat.blt dst n = true)
    (h : SymO X n ops rest ⟨(dst, .s l) :: s, c⟩ K) :
    SymO X n ops (⟨some dst, .convert src dst' x, ty, pos, aft, none⟩ :: rest) ⟨s, c⟩ K := by
  intro e a w Q r hq
  have h0 := opd_sound r hx
  simp only [Rep] at h0
  obtain ⟨hx', _⟩ := h0
  obtain ⟨cap, e1, _⟩ := r.heap.vecread hk (i := 0) hl
  rw [e1] at hx'
  have hrun := text_run (dst := some dst) (ty := ty) (pos := pos) (aft := aft) (gd := none) r t1 t2 t3 hx' (fun i hi => by
    obtain ⟨_, _, e2⟩ := r.heap.vecread hk (i := i) hi
    simpa using e2)
  unfold wpList
  rw [if_pos (guardA_sound r (o := ⟨some dst, .convert src dst' x, ty, pos, aft, none⟩) (b := true) rfl)]
  refine .inl ?_
  unfold Oper.wp
  rw [hrun w (SameAs.refl w)]
  exact h e _ w Q (r.put hd Rep_s) hq
end
end Go.Sy
