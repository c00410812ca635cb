/- The symbolic walk, part 46: elements of several cells stored in slices of known headers. -/
import Derived.Test.YtgmdpfoccnalnaaGreatE4
import Derived.Laws.LoneSync
import Derived.Defers
import Derived.Test.YtgmdpfoccnalnaaGreatE2
import Derived.Test.YtgmdpfoccnalnaaGreatChecked
import Derived.KernelRfl
import Derived.Tactics
import Derived.Tactics2
import Derived.RegionTactic
import Derived.RegionCalls
import Derived.Shelf.Small.Strs
import Derived.Shelf.Strings.Search3
import Derived.Ground.Names2Prog
import Derived.Test.YtgmdpfoccnalnaaGreatProg
import Derived.Test.YtgmdpfoccnalnaaGreatE3
import Derived.Laws.StructEq
set_option linter.unusedSimpArgs false
set_option linter.unusedVariables false
namespace Go.Sy
open Go.RowKit

section
variable {P : Program} {T : Tab} {X : Ctx P T} {n : Nat} {e : Env} {st : St} {a : Act} {w : World} {ops : Array Oper} {K : St → Prop}

/-- s[i] = x, x of several cells. -/
theorem X_storeV (q i : Nat) {p : Pl} {g o m cc : Nat} {t tt : TypeId} {esz by_ : Nat} {z : List Value} {dd : TD} {row row' : Nat → List AV} {ad xo : Operand} {cells : List AV} {ty : TypeId} {pos : String} {aft : Array Edge} {gd : Option (Nat × Bool)} {jj : Nat} {Si : List (Nat × AV)} {c cr : List Ch}
    (hT : T t = some ⟨esz, by_, true, z, dd⟩) (hg : guardA ops ⟨Si, c⟩ ⟨none, .store t ad xo, ty, pos, aft, gd⟩ = some true) (had : opd Si ad = some (PT g o)) (ho : o = i * esz) (hx : opd Si xo = some (.agg cells)) (hlen : cells.length = esz) (himm : AV.imm.immL cells = true)
    (hi : i < m) (hp : nthA q c = some (vecA (HD g m cc) tt esz m row, cr)) (hrow : ∀ j, j < m → row' j = if j = i then cells else row j) :
    StepX X n ops p Si c (.abs (vecA (HD g m cc) tt esz m row') :: cr) jj ⟨none, .store t ad xo, ty, pos, aft, gd⟩ .bad :=
  StepX.skip hg rfl (fun e a w S r r' => by
    have h1 := opd_sound r' had
    have h2 := opd_sound r' hx
    simp only [Rep] at h1 h2
    obtain ⟨ys, h2, h3⟩ := h2
    obtain ⟨⟨xs, g1, g2⟩, hgood, _⟩ := r.heap.nth hp
    rcases g1.2 with ⟨hnil, _⟩ | ⟨g', cap, cur, hsl, _, hgc, hcap, hmax, hcs, htake⟩
    · cases hnil
    simp only [HD, Value.slice.injEq, Option.some.injEq, Addr.mk.injEq, and_true, true_and] at hsl
    obtain ⟨rfl, rfl⟩ := hsl
    have hyl : ys.toList.length = esz := by rw [← hlen]; exact RepIL.len (RepL.toI cells himm h3)
    have hle : (i + 1) * esz ≤ m * esz := Nat.mul_le_mul_right _ hi
    have hle2 : m * esz ≤ cc * esz := Nat.mul_le_mul_right _ hcap
    rw [Nat.add_mul] at hle
    have hfit : o + ys.toList.length ≤ cur.size := by rw [hyl, hcs, ho]; omega
    have hone : ∀ v ∈ ys.toList, v.oneCell' = true := RepL.one h3
    have hrun0 := run_storeCells_cells (P := P) g o ys.toList 0 w (fun j hj => by
        rw [Nat.add_zero, cell_of_row w g _ cur tt (0, 0) hgc]
        rw [Array.getElem?_eq_getElem (by omega)]; rfl) (fun j hj => by simp [World.frozen?, hgc]) hone
    rw [Nat.add_zero] at hrun0
    have hsz : ys.size = esz := by simpa using hyl
    have hrun : (execOp a.eval ⟨none, .store t ad xo, ty, pos, aft, gd⟩).run P w = .ok .skip (w.setCells g o ys.toList) := by
      simp only [execOp, Instr.storeAt, h1, h2, Instr.sureAddr, Sem.run_bind, Sem.run_pure, Result.andThen_ok, storeVar, X.ok.size hT]
      have hc : (Value.agg ys).cells = ys := rfl
      simp [hc, hsz, hrun0]
    refine ⟨_, e, hrun, r.absTurn (st := ⟨S, c⟩) hp rfl ?_ (fun b hb => ?_) ?_ ?_⟩
    · have hh := setCells_heap ys.toList g o w cur tt (0, 0) hgc
      refine ⟨(writeAt cur o ys.toList).toList.take (m * esz), ⟨?_, .inr ⟨g, cc, _, rfl, Nat.zero_le _, hh, hcap, hmax, by rw [writeAt_size]; exact hcs, rfl⟩⟩, ?_⟩
      · simp only [List.length_take, Array.length_toList, writeAt_size]; omega
      · intro j hj
        rw [hrow j hj]
        have hjle : (j + 1) * esz ≤ m * esz := Nat.mul_le_mul_right _ hj
        rw [Nat.add_mul] at hjle
        refine RepIL.mk ?_ (fun k y hy => ?_)
        · simp only [List.length_take, List.length_drop, Array.length_toList, writeAt_size]
          have hrl := (g2 j hj).len
          simp only [List.length_take, List.length_drop] at hrl
          have hxl := g1.1
          split
          · rw [hlen]; omega
          · rw [← hrl, hxl]; omega
        · have hk : k < esz := by
            have hrl := (g2 j hj).len
            simp only [List.length_take, List.length_drop] at hrl
            rcases Nat.lt_or_ge k esz with h | h
            · exact h
            · rw [List.getElem?_eq_none] at hy
              · cases hy
              · split
                · omega
                · rw [← hrl]; omega
          rw [List.getElem?_take, if_pos hk, List.getElem?_drop, List.getElem?_take, if_pos (by omega), Array.getElem?_toList, writeAt_get _ _ _ _ hfit]
          by_cases hji : j = i
          · subst hji
            rw [if_pos rfl] at hy
            rw [if_pos (by rw [hyl]; omega)]
            obtain ⟨zz, z1, z2, z3⟩ := (RepL.toI cells himm h3).get k y hy
            exact ⟨zz, by rw [show j * esz + k - o = k by omega]; exact z1, z2, z3⟩
          · rw [if_neg hji] at hy
            rw [if_neg (by
              rw [hyl, ho]
              rcases Nat.lt_or_gt_of_ne hji with h | h
              · have : (j + 1) * esz ≤ i * esz := Nat.mul_le_mul_right _ h
                rw [Nat.add_mul] at this; omega
              · have : (i + 1) * esz ≤ j * esz := Nat.mul_le_mul_right _ h
                rw [Nat.add_mul] at this; omega)]
            obtain ⟨zz, z1, z2, z3⟩ := (g2 j hj).get k y hy
            rw [List.getElem?_take, if_pos hk, List.getElem?_drop, ← htake, List.getElem?_take, if_pos (by omega)] at z1
            exact ⟨zz, by simpa using z1, z2, z3⟩
    · exact setCells_other ys.toList g o b w (fun he => hb (by subst he; simp [vecA, HD, Value.ownBlock]))
    · exact (setCells_misc ys.toList g o w).2
    · exact (setCells_misc ys.toList g o w).1)
end
end Go.Sy

/- The symbolic walk, part 47: functions of sync/atomic and internal/race over cells at known addresses; deferred calls. -/
set_option linter.unusedSimpArgs false
set_option linter.unusedVariables false
namespace Go.Sy
open Go.RowKit

section
variable {P : Program} {T : Tab} {X : Ctx P T} {n : Nat} {e : Env} {st : St} {a : Act} {w : World} {ops : Array Oper} {K : St → Prop}

end
end Go.Sy

/- The symbolic walk, part 48: changes of memory, one behind the other. -/
set_option linter.unusedSimpArgs false
set_option linter.unusedVariables false
namespace Go.Sy
open Go.RowKit

end Go.Sy

/- The symbolic walk, part 49: cuts of lists that are only read. -/
set_option linter.unusedSimpArgs false
set_option linter.unusedVariables false
namespace Go.Sy
open Go.RowKit

section
variable {P : Program} {T : Tab} {X : Ctx P T} {n : Nat} {e : Env} {st : St} {a : Act} {w : World} {ops : Array Oper} {K : St → Prop}

end
end Go.Sy

/- The symbolic walk, part 50: data of a type that holds itself. -/
set_option linter.unusedSimpArgs false
set_option linter.unusedVariables false
namespace Go.Sy
open Go.RowKit

end Go.Sy

/- The symbolic walk, part 51: pure calls in drawn regions of effects. -/
set_option linter.unusedSimpArgs false
set_option linter.unusedVariables false
namespace Go.Sy
open Go.RowKit

section
variable {P : Program} {T : Tab} {X : Ctx P T} {n : Nat} {e : Env} {st : St} {a : Act} {w : World} {ops : Array Oper} {K : St → Prop}

end
end Go.Sy

/- The table of the types of this seat, as the walk wants it. -/
set_option linter.unusedSimpArgs false
set_option linter.unusedVariables false
namespace Go.Proofs
open Go.Sy
def Tryz.tabF : Tab := fun t =>
 (bif Nat.blt t 220 then
 (bif Nat.blt t 108 then
  (bif Nat.blt t 52 then
   (bif Nat.blt t 26 then
    (bif Nat.blt t 13 then
     (bif Nat.blt t 7 then
      (bif Nat.blt t 4 then
       (bif Nat.blt t 2 then
        (bif Nat.beq t 1 then some ⟨1, 8, false, [.nilFunc], .other⟩ else none)
        else (bif Nat.blt t 3 then
         some ⟨1, 8, false, [.int .i64 0], .int .i64⟩
         else some ⟨1, 8, false, [.int .i64 0], .int .i64⟩))
       else (bif Nat.blt t 5 then
        some ⟨1, 1, false, [.bool false], .bool⟩
        else (bif Nat.blt t 6 then
         some ⟨1, 1, false, [.int .u8 0], .int .u8⟩
         else some ⟨1, 1, false, [.int .u8 0], .int .u8⟩)))
      else (bif Nat.blt t 10 then
       (bif Nat.blt t 8 then
        some ⟨4, 24, true, [.int .i64 0, .int .i64 0, .bool false, .int .u8 0], .struct [(0, 1), (1, 1), (2, 1), (3, 1)]⟩
        else (bif Nat.blt t 9 then
         some ⟨4, 24, true, [.int .i64 0, .int .i64 0, .bool false, .int .u8 0], .struct [(0, 1), (1, 1), (2, 1), (3, 1)]⟩
         else some ⟨1, 16, false, [.string ⟨#[]⟩], .str⟩))
       else (bif Nat.blt t 11 then
        some ⟨1, 16, false, [.string ⟨#[]⟩], .str⟩
        else (bif Nat.blt t 12 then
         some ⟨1, 16, false, [.string ⟨#[]⟩], .str⟩
         else some ⟨1, 8, false, [.int .u64 0], .int .u64⟩))))
     else (bif Nat.blt t 19 then
      (bif Nat.blt t 16 then
       (bif Nat.blt t 14 then
        some ⟨2, 24, true, [.string ⟨#[]⟩, .int .u64 0], .struct [(0, 1), (1, 1)]⟩
        else (bif Nat.blt t 15 then
         some ⟨2, 24, true, [.string ⟨#[]⟩, .int .u64 0], .struct [(0, 1), (1, 1)]⟩
         else some ⟨1, 8, false, [.pointer none], .other⟩))
       else (bif Nat.blt t 17 then
        some ⟨1, 8, false, [.pointer none], .other⟩
        else (bif Nat.blt t 18 then
         some ⟨1, 8, false, [.pointer none], .other⟩
         else some ⟨1, 8, true, [.pointer none], .struct [(0, 1)]⟩)))
      else (bif Nat.blt t 22 then
       (bif Nat.blt t 20 then
        some ⟨1, 8, true, [.pointer none], .struct [(0, 1)]⟩
        else (bif Nat.blt t 21 then
         some ⟨1, 16, false, [.nilIface], .other⟩
         else some ⟨1, 4, false, [.int .i32 0], .int .i32⟩))
       else (bif Nat.blt t 24 then
        (bif Nat.blt t 23 then
         some ⟨1, 24, false, [.slice none 0 0], .slice 30⟩
         else some ⟨1, 24, false, [.slice none 0 0], .slice 39⟩)
        else (bif Nat.blt t 25 then
         some ⟨1, 8, false, [.nilFunc], .other⟩
         else some ⟨1, 24, false, [.slice none 0 0], .slice 34⟩)))))
    else (bif Nat.blt t 38 then
     (bif Nat.blt t 32 then
      (bif Nat.blt t 29 then
       (bif Nat.blt t 27 then
        some ⟨1, 8, false, [.int .i64 0], .int .i64⟩
        else (bif Nat.blt t 28 then
         some ⟨6, 64, true, [.int .i64 0, .int .i64 0, .int .i64 0, .string ⟨#[]⟩, .int .i64 0, .string ⟨#[]⟩], .struct [(0, 1), (1, 1), (2, 1), (3, 1), (4, 1), (5, 1)]⟩
         else some ⟨6, 64, true, [.int .i64 0, .int .i64 0, .int .i64 0, .string ⟨#[]⟩, .int .i64 0, .string ⟨#[]⟩], .struct [(0, 1), (1, 1), (2, 1), (3, 1), (4, 1), (5, 1)]⟩))
       else (bif Nat.blt t 30 then
        some ⟨8, 80, true, [.int .i64 0, .int .i64 0, .int .i64 0, .int .i64 0, .int .i64 0, .string ⟨#[]⟩, .int .i64 0, .string ⟨#[]⟩], .struct [(0, 1), (1, 1), (2, 6)]⟩
        else (bif Nat.blt t 31 then
         some ⟨8, 80, true, [.int .i64 0, .int .i64 0, .int .i64 0, .int .i64 0, .int .i64 0, .string ⟨#[]⟩, .int .i64 0, .string ⟨#[]⟩], .struct [(0, 1), (1, 1), (2, 6)]⟩
         else some ⟨6, 64, true, [.int .i64 0, .int .i64 0, .int .i64 0, .string ⟨#[]⟩, .int .i64 0, .string ⟨#[]⟩], .struct [(0, 1), (1, 1), (2, 1), (3, 1), (4, 1), (5, 1)]⟩)))
      else (bif Nat.blt t 35 then
       (bif Nat.blt t 33 then
        some ⟨1, 8, false, [.nilFunc], .other⟩
        else (bif Nat.blt t 34 then
         some ⟨8, 80, true, [.int .i64 0, .int .i64 0, .int .i64 0, .int .i64 0, .int .i64 0, .string ⟨#[]⟩, .int .i64 0, .string ⟨#[]⟩], .struct [(0, 1), (1, 1), (2, 6)]⟩
         else some ⟨8, 80, true, [.int .i64 0, .int .i64 0, .int .i64 0, .int .i64 0, .int .i64 0, .string ⟨#[]⟩, .int .i64 0, .string ⟨#[]⟩], .struct [(0, 1), (1, 1), (2, 6)]⟩))
       else (bif Nat.blt t 36 then
        some ⟨1, 24, false, [.slice none 0 0], .slice 37⟩
        else (bif Nat.blt t 37 then
         some ⟨7, 48, true, [.int .i64 0, .int .i64 0, .int .i64 0, .int .i64 0, .int .i64 0, .bool false, .bool false], .struct [(0, 1), (1, 1), (2, 1), (3, 1), (4, 1), (5, 1), (6, 1)]⟩
         else some ⟨7, 48, true, [.int .i64 0, .int .i64 0, .int .i64 0, .int .i64 0, .int .i64 0, .bool false, .bool false], .struct [(0, 1), (1, 1), (2, 1), (3, 1), (4, 1), (5, 1), (6, 1)]⟩))))
     else (bif Nat.blt t 44 then
      (bif Nat.blt t 41 then
       (bif Nat.blt t 39 then
        some ⟨1, 8, false, [.nilFunc], .other⟩
        else (bif Nat.blt t 40 then
         some ⟨7, 48, true, [.int .i64 0, .int .i64 0, .int .i64 0, .int .i64 0, .int .i64 0, .bool false, .bool false], .struct [(0, 1), (1, 1), (2, 1), (3, 1), (4, 1), (5, 1), (6, 1)]⟩
         else some ⟨1, 8, false, [.nilFunc], .other⟩))
       else (bif Nat.blt t 42 then
        some ⟨1, 8, false, [.nilFunc], .other⟩
        else (bif Nat.blt t 43 then
         some ⟨1, 8, false, [.nilFunc], .other⟩
         else some ⟨1, 8, false, [.nilFunc], .other⟩)))
      else (bif Nat.blt t 47 then
       (bif Nat.blt t 45 then
        some ⟨1, 24, false, [.slice none 0 0], .slice 3⟩
        else (bif Nat.blt t 46 then
         some ⟨1, 8, false, [.nilFunc], .other⟩
         else some ⟨1, 8, false, [.nilFunc], .other⟩))
       else (bif Nat.blt t 49 then
        (bif Nat.blt t 48 then
         some ⟨1, 8, false, [.nilFunc], .other⟩
         else some ⟨1, 8, false, [.pointer none], .other⟩)
        else (bif Nat.blt t 50 then
         some ⟨2, 16, true, [.int .i64 0, .int .i64 0], .struct [(0, 1), (1, 1)]⟩
         else (bif Nat.beq t 50 then some ⟨2, 16, true, [.int .i64 0, .int .i64 0], .struct [(0, 1), (1, 1)]⟩ else none)))))))
   else (bif Nat.blt t 79 then
    (bif Nat.blt t 64 then
     (bif Nat.blt t 58 then
      (bif Nat.blt t 55 then
       (bif Nat.blt t 53 then
        some ⟨1, 8, false, [.nilFunc], .other⟩
        else (bif Nat.blt t 54 then
         some ⟨1, 24, false, [.slice none 0 0], .slice 60⟩
         else some ⟨1, 8, false, [.nilFunc], .other⟩))
       else (bif Nat.blt t 56 then
        some ⟨1, 8, false, [.nilFunc], .other⟩
        else (bif Nat.blt t 57 then
         some ⟨1, 24, false, [.slice none 0 0], .slice 65⟩
         else some ⟨1, 8, false, [.nilFunc], .other⟩)))
      else (bif Nat.blt t 61 then
       (bif Nat.blt t 59 then
        some ⟨1, 24, false, [.slice none 0 0], .slice 92⟩
        else (bif Nat.blt t 60 then
         some ⟨5, 80, true, [.int .i64 0, .string ⟨#[]⟩, .slice none 0 0, .slice none 0 0, .int .i64 0], .struct [(0, 1), (1, 1), (2, 1), (3, 1), (4, 1)]⟩
         else some ⟨5, 80, true, [.int .i64 0, .string ⟨#[]⟩, .slice none 0 0, .slice none 0 0, .int .i64 0], .struct [(0, 1), (1, 1), (2, 1), (3, 1), (4, 1)]⟩))
       else (bif Nat.blt t 62 then
        some ⟨1, 24, false, [.slice none 0 0], .slice 63⟩
        else (bif Nat.blt t 63 then
         some ⟨3, 48, true, [.int .i64 0, .string ⟨#[]⟩, .slice none 0 0], .struct [(0, 1), (1, 1), (2, 1)]⟩
         else some ⟨3, 48, true, [.int .i64 0, .string ⟨#[]⟩, .slice none 0 0], .struct [(0, 1), (1, 1), (2, 1)]⟩))))
     else (bif Nat.blt t 70 then
      (bif Nat.blt t 67 then
       (bif Nat.blt t 65 then
        some ⟨5, 72, true, [.int .i64 0, .string ⟨#[]⟩, .int .i64 0, .string ⟨#[]⟩, .slice none 0 0], .struct [(0, 1), (1, 1), (2, 3)]⟩
        else (bif Nat.blt t 66 then
         some ⟨5, 72, true, [.int .i64 0, .string ⟨#[]⟩, .int .i64 0, .string ⟨#[]⟩, .slice none 0 0], .struct [(0, 1), (1, 1), (2, 3)]⟩
         else some ⟨1, 8, false, [.nilFunc], .other⟩))
       else (bif Nat.blt t 68 then
        some ⟨1, 8, false, [.nilFunc], .other⟩
        else (bif Nat.blt t 69 then
         some ⟨1, 24, false, [.slice none 0 0], .slice 70⟩
         else some ⟨5, 80, true, [.int .i64 0, .int .i64 0, .string ⟨#[]⟩, .slice none 0 0, .slice none 0 0], .struct [(0, 1), (1, 1), (2, 1), (3, 1), (4, 1)]⟩)))
      else (bif Nat.blt t 74 then
       (bif Nat.blt t 71 then
        some ⟨5, 80, true, [.int .i64 0, .int .i64 0, .string ⟨#[]⟩, .slice none 0 0, .slice none 0 0], .struct [(0, 1), (1, 1), (2, 1), (3, 1), (4, 1)]⟩
        else (bif Nat.blt t 72 then
         some ⟨1, 8, false, [.nilFunc], .other⟩
         else (bif Nat.beq t 72 then some ⟨1, 8, false, [.nilFunc], .other⟩ else none)))
       else (bif Nat.blt t 77 then
        (bif Nat.blt t 75 then
         some ⟨1, 8, false, [.nilFunc], .other⟩
         else (bif Nat.beq t 75 then some ⟨1, 8, false, [.nilFunc], .other⟩ else none))
        else (bif Nat.blt t 78 then
         some ⟨1, 8, false, [.nilFunc], .other⟩
         else some ⟨1, 8, false, [.nilFunc], .other⟩)))))
    else (bif Nat.blt t 94 then
     (bif Nat.blt t 86 then
      (bif Nat.blt t 83 then
       (bif Nat.blt t 80 then
        some ⟨1, 8, false, [.nilFunc], .other⟩
        else (bif Nat.blt t 81 then
         some ⟨6, 96, true, [.string ⟨#[]⟩, .int .i64 0, .int .i64 0, .string ⟨#[]⟩, .slice none 0 0, .slice none 0 0], .struct [(0, 1), (1, 5)]⟩
         else (bif Nat.beq t 81 then some ⟨6, 96, true, [.string ⟨#[]⟩, .int .i64 0, .int .i64 0, .string ⟨#[]⟩, .slice none 0 0, .slice none 0 0], .struct [(0, 1), (1, 5)]⟩ else none)))
       else (bif Nat.blt t 84 then
        some ⟨1, 8, false, [.nilFunc], .other⟩
        else (bif Nat.blt t 85 then
         some ⟨1, 8, false, [.nilFunc], .other⟩
         else some ⟨1, 8, false, [.nilFunc], .other⟩)))
      else (bif Nat.blt t 89 then
       (bif Nat.blt t 87 then
        some ⟨1, 8, false, [.nilFunc], .other⟩
        else (bif Nat.blt t 88 then
         some ⟨3, 40, true, [.string ⟨#[]⟩, .string ⟨#[]⟩, .int .i64 0], .struct [(0, 1), (1, 1), (2, 1)]⟩
         else some ⟨3, 40, true, [.string ⟨#[]⟩, .string ⟨#[]⟩, .int .i64 0], .struct [(0, 1), (1, 1), (2, 1)]⟩))
       else (bif Nat.blt t 91 then
        (bif Nat.blt t 90 then
         some ⟨3, 32, true, [.string ⟨#[]⟩, .bool false, .int .i64 0], .struct [(0, 1), (1, 1), (2, 1)]⟩
         else some ⟨3, 32, true, [.string ⟨#[]⟩, .bool false, .int .i64 0], .struct [(0, 1), (1, 1), (2, 1)]⟩)
        else (bif Nat.blt t 92 then
         some ⟨5, 64, true, [.int .i64 0, .string ⟨#[]⟩, .string ⟨#[]⟩, .string ⟨#[]⟩, .bool false], .struct [(0, 1), (1, 1), (2, 1), (3, 1), (4, 1)]⟩
         else (bif Nat.beq t 92 then some ⟨5, 64, true, [.int .i64 0, .string ⟨#[]⟩, .string ⟨#[]⟩, .string ⟨#[]⟩, .bool false], .struct [(0, 1), (1, 1), (2, 1), (3, 1), (4, 1)]⟩ else none)))))
     else (bif Nat.blt t 100 then
      (bif Nat.blt t 97 then
       (bif Nat.blt t 95 then
        some ⟨1, 8, false, [.nilFunc], .other⟩
        else (bif Nat.blt t 96 then
         some ⟨1, 8, false, [.nilFunc], .other⟩
         else some ⟨1, 8, false, [.nilFunc], .other⟩))
       else (bif Nat.blt t 98 then
        some ⟨3, 32, true, [.string ⟨#[]⟩, .bool false, .int .i64 0], .struct [(0, 1), (1, 1), (2, 1)]⟩
        else (bif Nat.blt t 99 then
         some ⟨1, 8, false, [.nilFunc], .other⟩
         else some ⟨1, 8, false, [.nilFunc], .other⟩)))
      else (bif Nat.blt t 103 then
       (bif Nat.blt t 101 then
        some ⟨1, 8, false, [.nilFunc], .other⟩
        else (bif Nat.blt t 102 then
         some ⟨1, 8, false, [.nilFunc], .other⟩
         else some ⟨1, 8, false, [.nilFunc], .other⟩))
       else (bif Nat.blt t 106 then
        (bif Nat.blt t 105 then
         (bif Nat.beq t 103 then some ⟨1, 8, false, [.nilFunc], .other⟩ else none)
         else some ⟨1, 8, false, [.nilFunc], .other⟩)
        else (bif Nat.blt t 107 then
         some ⟨1, 8, false, [.nilFunc], .other⟩
         else some ⟨1, 8, false, [.nilFunc], .other⟩)))))))
  else (bif Nat.blt t 162 then
   (bif Nat.blt t 134 then
    (bif Nat.blt t 120 then
     (bif Nat.blt t 114 then
      (bif Nat.blt t 111 then
       (bif Nat.blt t 109 then
        some ⟨10, 160, true, [.int .i64 0, .int .i64 0, .string ⟨#[]⟩, .slice none 0 0, .slice none 0 0, .int .i64 0, .int .i64 0, .string ⟨#[]⟩, .slice none 0 0, .slice none 0 0], .arr 2 70⟩
        else (bif Nat.blt t 110 then
         some ⟨1, 8, false, [.nilFunc], .other⟩
         else some ⟨1, 8, false, [.nilFunc], .other⟩))
       else (bif Nat.blt t 112 then
        some ⟨1, 8, false, [.nilFunc], .other⟩
        else (bif Nat.blt t 113 then
         some ⟨1, 8, false, [.nilFunc], .other⟩
         else some ⟨1, 8, false, [.map none], .other⟩)))
      else (bif Nat.blt t 117 then
       (bif Nat.blt t 115 then
        some ⟨1, 8, true, [.map none], .struct [(0, 1)]⟩
        else (bif Nat.blt t 116 then
         some ⟨1, 8, true, [.map none], .struct [(0, 1)]⟩
         else some ⟨4, 80, true, [.map none, .slice none 0 0, .slice none 0 0, .slice none 0 0], .struct [(0, 1), (1, 1), (2, 1), (3, 1)]⟩))
       else (bif Nat.blt t 118 then
        some ⟨4, 80, true, [.map none, .slice none 0 0, .slice none 0 0, .slice none 0 0], .struct [(0, 1), (1, 1), (2, 1), (3, 1)]⟩
        else (bif Nat.blt t 119 then
         some ⟨1, 8, false, [.int .u64 0], .int .u64⟩
         else some ⟨9, 72, true, [.int .i64 0, .int .i64 0, .int .i64 0, .int .i64 0, .int .i64 0, .int .i64 0, .int .i64 0, .int .i64 0, .int .i64 0], .struct [(0, 1), (1, 1), (2, 1), (3, 1), (4, 1), (5, 1), (6, 1), (7, 1), (8, 1)]⟩))))
     else (bif Nat.blt t 127 then
      (bif Nat.blt t 124 then
       (bif Nat.blt t 121 then
        some ⟨9, 72, true, [.int .i64 0, .int .i64 0, .int .i64 0, .int .i64 0, .int .i64 0, .int .i64 0, .int .i64 0, .int .i64 0, .int .i64 0], .struct [(0, 1), (1, 1), (2, 1), (3, 1), (4, 1), (5, 1), (6, 1), (7, 1), (8, 1)]⟩
        else (bif Nat.blt t 122 then
         some ⟨12, 96, true, [.int .u64 0, .int .i64 0, .int .i64 0, .int .i64 0, .int .i64 0, .int .i64 0, .int .i64 0, .int .i64 0, .int .i64 0, .int .i64 0, .int .i64 0, .int .i64 0], .struct [(0, 1), (1, 1), (2, 1), (3, 9)]⟩
         else (bif Nat.beq t 122 then some ⟨12, 96, true, [.int .u64 0, .int .i64 0, .int .i64 0, .int .i64 0, .int .i64 0, .int .i64 0, .int .i64 0, .int .i64 0, .int .i64 0, .int .i64 0, .int .i64 0, .int .i64 0], .struct [(0, 1), (1, 1), (2, 1), (3, 9)]⟩ else none)))
       else (bif Nat.blt t 125 then
        some ⟨1, 8, false, [.nilFunc], .other⟩
        else (bif Nat.blt t 126 then
         some ⟨1, 8, false, [.nilFunc], .other⟩
         else some ⟨1, 8, false, [.nilFunc], .other⟩)))
      else (bif Nat.blt t 130 then
       (bif Nat.blt t 128 then
        some ⟨1, 8, false, [.nilFunc], .other⟩
        else (bif Nat.blt t 129 then
         some ⟨1, 8, false, [.nilFunc], .other⟩
         else some ⟨1, 24, false, [.slice none 0 0], .slice 144⟩))
       else (bif Nat.blt t 132 then
        (bif Nat.blt t 131 then
         some ⟨1, 24, true, [.slice none 0 0], .struct [(0, 1)]⟩
         else some ⟨1, 24, true, [.slice none 0 0], .struct [(0, 1)]⟩)
        else (bif Nat.blt t 133 then
         some ⟨1, 8, false, [.nilFunc], .other⟩
         else some ⟨1, 24, false, [.slice none 0 0], .slice 140⟩)))))
    else (bif Nat.blt t 149 then
     (bif Nat.blt t 142 then
      (bif Nat.blt t 139 then
       (bif Nat.blt t 136 then
        (bif Nat.beq t 134 then some ⟨12, 96, true, [.int .u64 0, .int .i64 0, .int .i64 0, .int .i64 0, .int .i64 0, .int .i64 0, .int .i64 0, .int .i64 0, .int .i64 0, .int .i64 0, .int .i64 0, .int .i64 0], .struct [(0, 1), (1, 1), (2, 1), (3, 9)]⟩ else none)
        else (bif Nat.blt t 138 then
         (bif Nat.beq t 136 then some ⟨1, 8, false, [.nilFunc], .other⟩ else none)
         else some ⟨1, 8, false, [.nilFunc], .other⟩))
       else (bif Nat.blt t 140 then
        some ⟨9, 64, true, [.int .i64 0, .int .i64 0, .int .i64 0, .int .i64 0, .int .i64 0, .bool false, .bool false, .int .i64 0, .bool false], .struct [(0, 7), (7, 1), (8, 1)]⟩
        else (bif Nat.blt t 141 then
         some ⟨9, 64, true, [.int .i64 0, .int .i64 0, .int .i64 0, .int .i64 0, .int .i64 0, .bool false, .bool false, .int .i64 0, .bool false], .struct [(0, 7), (7, 1), (8, 1)]⟩
         else some ⟨1, 8, false, [.nilFunc], .other⟩)))
      else (bif Nat.blt t 145 then
       (bif Nat.blt t 143 then
        some ⟨1, 8, false, [.nilFunc], .other⟩
        else (bif Nat.blt t 144 then
         some ⟨11, 80, true, [.bool false, .bool false, .int .i64 0, .int .i64 0, .int .i64 0, .int .i64 0, .int .i64 0, .int .i64 0, .int .i64 0, .int .i64 0, .int .i64 0], .struct [(0, 1), (1, 1), (2, 9)]⟩
         else some ⟨11, 80, true, [.bool false, .bool false, .int .i64 0, .int .i64 0, .int .i64 0, .int .i64 0, .int .i64 0, .int .i64 0, .int .i64 0, .int .i64 0, .int .i64 0], .struct [(0, 1), (1, 1), (2, 9)]⟩))
       else (bif Nat.blt t 146 then
        some ⟨1, 8, false, [.nilFunc], .other⟩
        else (bif Nat.blt t 148 then
         (bif Nat.beq t 146 then some ⟨1, 8, false, [.nilFunc], .other⟩ else none)
         else some ⟨1, 8, false, [.nilFunc], .other⟩))))
     else (bif Nat.blt t 155 then
      (bif Nat.blt t 152 then
       (bif Nat.blt t 150 then
        some ⟨1, 8, false, [.nilFunc], .other⟩
        else (bif Nat.blt t 151 then
         some ⟨0, 0, true, [], .struct []⟩
         else some ⟨0, 0, true, [], .struct []⟩))
       else (bif Nat.blt t 153 then
        some ⟨0, 0, true, [], .struct []⟩
        else (bif Nat.blt t 154 then
         some ⟨1, 4, false, [.int .u32 0], .int .u32⟩
         else some ⟨1, 4, true, [.int .u32 0], .struct [(0, 0), (0, 1)]⟩)))
      else (bif Nat.blt t 158 then
       (bif Nat.blt t 156 then
        some ⟨1, 4, true, [.int .u32 0], .struct [(0, 0), (0, 1)]⟩
        else (bif Nat.blt t 157 then
         some ⟨2, 8, true, [.int .i32 0, .int .u32 0], .struct [(0, 1), (1, 1)]⟩
         else some ⟨2, 8, true, [.int .i32 0, .int .u32 0], .struct [(0, 1), (1, 1)]⟩))
       else (bif Nat.blt t 160 then
        (bif Nat.blt t 159 then
         some ⟨2, 8, true, [.int .i32 0, .int .u32 0], .struct [(0, 0), (0, 2)]⟩
         else some ⟨2, 8, true, [.int .i32 0, .int .u32 0], .struct [(0, 0), (0, 2)]⟩)
        else (bif Nat.blt t 161 then
         some ⟨3, 12, true, [.int .u32 0, .int .i32 0, .int .u32 0], .struct [(0, 0), (0, 1), (1, 2)]⟩
         else some ⟨3, 12, true, [.int .u32 0, .int .i32 0, .int .u32 0], .struct [(0, 0), (0, 1), (1, 2)]⟩))))))
   else (bif Nat.blt t 190 then
    (bif Nat.blt t 174 then
     (bif Nat.blt t 168 then
      (bif Nat.blt t 165 then
       (bif Nat.blt t 163 then
        some ⟨1, 8, false, [.pointer none], .other⟩
        else (bif Nat.blt t 164 then
         some ⟨1, 8, false, [.map none], .other⟩
         else some ⟨6, 56, true, [.slice none 0 0, .int .u32 0, .int .i32 0, .int .u32 0, .pointer none, .map none], .struct [(0, 1), (1, 3), (4, 1), (5, 1)]⟩))
       else (bif Nat.blt t 166 then
        some ⟨6, 56, true, [.slice none 0 0, .int .u32 0, .int .i32 0, .int .u32 0, .pointer none, .map none], .struct [(0, 1), (1, 3), (4, 1), (5, 1)]⟩
        else (bif Nat.blt t 167 then
         some ⟨1, 8, false, [.nilFunc], .other⟩
         else some ⟨1, 8, false, [.nilFunc], .other⟩)))
      else (bif Nat.blt t 171 then
       (bif Nat.blt t 169 then
        some ⟨1, 8, false, [.nilFunc], .other⟩
        else (bif Nat.blt t 170 then
         some ⟨1, 8, false, [.nilFunc], .other⟩
         else some ⟨1, 8, false, [.nilFunc], .other⟩))
       else (bif Nat.blt t 172 then
        some ⟨1, 8, false, [.nilFunc], .other⟩
        else (bif Nat.blt t 173 then
         some ⟨1, 8, false, [.nilFunc], .other⟩
         else some ⟨1, 8, false, [.nilFunc], .other⟩))))
     else (bif Nat.blt t 180 then
      (bif Nat.blt t 177 then
       (bif Nat.blt t 175 then
        some ⟨1, 8, false, [.nilFunc], .other⟩
        else (bif Nat.blt t 176 then
         some ⟨1, 8, false, [.nilFunc], .other⟩
         else some ⟨1, 8, false, [.nilFunc], .other⟩))
       else (bif Nat.blt t 178 then
        some ⟨1, 8, false, [.nilFunc], .other⟩
        else (bif Nat.blt t 179 then
         some ⟨1, 8, false, [.nilFunc], .other⟩
         else some ⟨1, 8, false, [.pointer none], .other⟩)))
      else (bif Nat.blt t 184 then
       (bif Nat.blt t 181 then
        some ⟨7, 96, true, [.pointer none, .pointer none, .int .i64 0, .string ⟨#[]⟩, .slice none 0 0, .slice none 0 0, .int .i64 0], .struct [(0, 1), (1, 1), (2, 5)]⟩
        else (bif Nat.blt t 182 then
         some ⟨7, 96, true, [.pointer none, .pointer none, .int .i64 0, .string ⟨#[]⟩, .slice none 0 0, .slice none 0 0, .int .i64 0], .struct [(0, 1), (1, 1), (2, 5)]⟩
         else (bif Nat.beq t 182 then some ⟨1, 8, false, [.nilFunc], .other⟩ else none)))
       else (bif Nat.blt t 187 then
        (bif Nat.blt t 186 then
         (bif Nat.beq t 184 then some ⟨1, 8, false, [.nilFunc], .other⟩ else none)
         else some ⟨1, 8, false, [.nilFunc], .other⟩)
        else (bif Nat.blt t 189 then
         (bif Nat.beq t 187 then some ⟨1, 8, false, [.nilFunc], .other⟩ else none)
         else some ⟨1, 8, false, [.nilFunc], .other⟩)))))
    else (bif Nat.blt t 204 then
     (bif Nat.blt t 196 then
      (bif Nat.blt t 193 then
       (bif Nat.blt t 191 then
        some ⟨1, 8, false, [.nilFunc], .other⟩
        else (bif Nat.blt t 192 then
         some ⟨1, 8, false, [.nilFunc], .other⟩
         else some ⟨1, 8, false, [.pointer none], .other⟩))
       else (bif Nat.blt t 194 then
        some ⟨1, 8, true, [.pointer none], .struct [(0, 1)]⟩
        else (bif Nat.blt t 195 then
         some ⟨1, 8, true, [.pointer none], .struct [(0, 1)]⟩
         else some ⟨1, 8, false, [.nilFunc], .other⟩)))
      else (bif Nat.blt t 200 then
       (bif Nat.blt t 197 then
        some ⟨1, 8, false, [.nilFunc], .other⟩
        else (bif Nat.blt t 199 then
         (bif Nat.beq t 197 then some ⟨1, 8, false, [.nilFunc], .other⟩ else none)
         else some ⟨1, 8, false, [.nilFunc], .other⟩))
       else (bif Nat.blt t 202 then
        (bif Nat.blt t 201 then
         some ⟨1, 8, false, [.pointer none], .other⟩
         else some ⟨1, 8, false, [.nilFunc], .other⟩)
        else (bif Nat.blt t 203 then
         some ⟨1, 8, false, [.nilFunc], .other⟩
         else some ⟨1, 8, false, [.pointer none], .other⟩))))
     else (bif Nat.blt t 212 then
      (bif Nat.blt t 208 then
       (bif Nat.blt t 205 then
        some ⟨10, 80, true, [.int .i64 0, .int .i64 0, .int .i64 0, .int .i64 0, .int .i64 0, .int .i64 0, .int .i64 0, .int .i64 0, .int .i64 0, .bool false], .struct [(0, 9), (9, 1)]⟩
        else (bif Nat.blt t 207 then
         (bif Nat.beq t 205 then some ⟨10, 80, true, [.int .i64 0, .int .i64 0, .int .i64 0, .int .i64 0, .int .i64 0, .int .i64 0, .int .i64 0, .int .i64 0, .int .i64 0, .bool false], .struct [(0, 9), (9, 1)]⟩ else none)
         else some ⟨1, 8, false, [.nilFunc], .other⟩))
       else (bif Nat.blt t 209 then
        some ⟨1, 8, false, [.nilFunc], .other⟩
        else (bif Nat.blt t 211 then
         (bif Nat.beq t 209 then some ⟨1, 8, false, [.nilFunc], .other⟩ else none)
         else some ⟨1, 8, false, [.nilFunc], .other⟩)))
      else (bif Nat.blt t 216 then
       (bif Nat.blt t 213 then
        some ⟨1, 8, false, [.nilFunc], .other⟩
        else (bif Nat.blt t 214 then
         some ⟨1, 8, false, [.nilFunc], .other⟩
         else (bif Nat.beq t 214 then some ⟨1, 24, false, [.slice none 0 0], .slice 222⟩ else none)))
       else (bif Nat.blt t 218 then
        (bif Nat.blt t 217 then
         some ⟨1, 8, false, [.nilFunc], .other⟩
         else some ⟨1, 8, false, [.pointer none], .other⟩)
        else (bif Nat.blt t 219 then
         some ⟨4, 48, true, [.slice none 0 0, .int .i64 0, .int .i64 0, .int .i64 0], .struct [(0, 1), (1, 1), (2, 2)]⟩
         else some ⟨4, 48, true, [.slice none 0 0, .int .i64 0, .int .i64 0, .int .i64 0], .struct [(0, 1), (1, 1), (2, 2)]⟩))))))))
 else (bif Nat.blt t 327 then
  (bif Nat.blt t 273 then
   (bif Nat.blt t 246 then
    (bif Nat.blt t 232 then
     (bif Nat.blt t 226 then
      (bif Nat.blt t 223 then
       (bif Nat.blt t 221 then
        some ⟨1, 8, false, [.nilFunc], .other⟩
        else (bif Nat.blt t 222 then
         some ⟨4, 40, true, [.int .i64 0, .string ⟨#[]⟩, .int .i64 0, .int .i64 0], .struct [(0, 1), (1, 1), (2, 1), (3, 1)]⟩
         else some ⟨4, 40, true, [.int .i64 0, .string ⟨#[]⟩, .int .i64 0, .int .i64 0], .struct [(0, 1), (1, 1), (2, 1), (3, 1)]⟩))
       else (bif Nat.blt t 224 then
        some ⟨1, 8, false, [.nilFunc], .other⟩
        else (bif Nat.blt t 225 then
         some ⟨1, 8, false, [.nilFunc], .other⟩
         else some ⟨1, 8, false, [.nilFunc], .other⟩)))
      else (bif Nat.blt t 229 then
       (bif Nat.blt t 227 then
        some ⟨1, 8, false, [.pointer none], .other⟩
        else (bif Nat.blt t 228 then
         some ⟨1, 8, false, [.nilFunc], .other⟩
         else some ⟨2, 32, true, [.slice none 0 0, .pointer none], .struct [(0, 1), (1, 1)]⟩))
       else (bif Nat.blt t 230 then
        some ⟨2, 32, true, [.slice none 0 0, .pointer none], .struct [(0, 1), (1, 1)]⟩
        else (bif Nat.blt t 231 then
         some ⟨1, 8, false, [.nilFunc], .other⟩
         else some ⟨1, 24, false, [.slice none 0 0], .slice 4⟩))))
     else (bif Nat.blt t 238 then
      (bif Nat.blt t 235 then
       (bif Nat.blt t 233 then
        some ⟨1, 8, false, [.nilFunc], .other⟩
        else (bif Nat.blt t 234 then
         some ⟨1, 8, false, [.nilFunc], .other⟩
         else some ⟨1, 8, false, [.nilFunc], .other⟩))
       else (bif Nat.blt t 236 then
        some ⟨1, 8, false, [.nilFunc], .other⟩
        else (bif Nat.blt t 237 then
         some ⟨1, 8, false, [.nilFunc], .other⟩
         else some ⟨1, 8, false, [.nilFunc], .other⟩)))
      else (bif Nat.blt t 241 then
       (bif Nat.blt t 239 then
        some ⟨1, 8, false, [.nilFunc], .other⟩
        else (bif Nat.blt t 240 then
         some ⟨1, 8, false, [.pointer none], .other⟩
         else some ⟨1, 8, true, [.pointer none], .struct [(0, 1)]⟩))
       else (bif Nat.blt t 244 then
        (bif Nat.blt t 243 then
         (bif Nat.beq t 241 then some ⟨1, 8, true, [.pointer none], .struct [(0, 1)]⟩ else none)
         else some ⟨1, 8, false, [.nilFunc], .other⟩)
        else (bif Nat.blt t 245 then
         some ⟨1, 8, false, [.pointer none], .other⟩
         else some ⟨1, 8, true, [.pointer none], .struct [(0, 1)]⟩)))))
    else (bif Nat.blt t 259 then
     (bif Nat.blt t 253 then
      (bif Nat.blt t 249 then
       (bif Nat.blt t 247 then
        some ⟨1, 8, true, [.pointer none], .struct [(0, 1)]⟩
        else (bif Nat.blt t 248 then
         some ⟨1, 8, false, [.nilFunc], .other⟩
         else some ⟨1, 8, false, [.nilFunc], .other⟩))
       else (bif Nat.blt t 250 then
        some ⟨1, 8, false, [.nilFunc], .other⟩
        else (bif Nat.blt t 251 then
         some ⟨1, 8, false, [.nilFunc], .other⟩
         else (bif Nat.beq t 251 then some ⟨1, 8, false, [.nilFunc], .other⟩ else none))))
      else (bif Nat.blt t 256 then
       (bif Nat.blt t 254 then
        some ⟨1, 8, false, [.nilFunc], .other⟩
        else (bif Nat.blt t 255 then
         some ⟨1, 8, false, [.nilFunc], .other⟩
         else some ⟨1, 8, false, [.nilFunc], .other⟩))
       else (bif Nat.blt t 257 then
        some ⟨1, 8, false, [.nilFunc], .other⟩
        else (bif Nat.blt t 258 then
         some ⟨1, 8, false, [.nilFunc], .other⟩
         else some ⟨1, 8, false, [.nilFunc], .other⟩))))
     else (bif Nat.blt t 265 then
      (bif Nat.blt t 262 then
       (bif Nat.blt t 260 then
        some ⟨1, 8, false, [.nilFunc], .other⟩
        else (bif Nat.blt t 261 then
         some ⟨1, 8, false, [.nilFunc], .other⟩
         else some ⟨1, 8, false, [.nilFunc], .other⟩))
       else (bif Nat.blt t 263 then
        some ⟨1, 8, false, [.pointer none], .other⟩
        else (bif Nat.blt t 264 then
         some ⟨1, 24, false, [.slice none 0 0], .slice 5⟩
         else some ⟨2, 32, true, [.pointer none, .slice none 0 0], .struct [(0, 1), (1, 1)]⟩)))
      else (bif Nat.blt t 269 then
       (bif Nat.blt t 266 then
        some ⟨2, 32, true, [.pointer none, .slice none 0 0], .struct [(0, 1), (1, 1)]⟩
        else (bif Nat.blt t 267 then
         some ⟨1, 16, false, [.nilIface], .other⟩
         else (bif Nat.beq t 267 then some ⟨1, 16, false, [.nilIface], .other⟩ else none)))
       else (bif Nat.blt t 271 then
        (bif Nat.blt t 270 then
         some ⟨1, 8, false, [.nilFunc], .other⟩
         else some ⟨1, 8, false, [.nilFunc], .other⟩)
        else (bif Nat.blt t 272 then
         some ⟨1, 8, false, [.nilFunc], .other⟩
         else some ⟨1, 8, false, [.nilFunc], .other⟩))))))
   else (bif Nat.blt t 301 then
    (bif Nat.blt t 288 then
     (bif Nat.blt t 279 then
      (bif Nat.blt t 276 then
       (bif Nat.blt t 274 then
        some ⟨1, 8, false, [.nilFunc], .other⟩
        else (bif Nat.blt t 275 then
         some ⟨1, 8, false, [.nilFunc], .other⟩
         else some ⟨1, 8, false, [.nilFunc], .other⟩))
       else (bif Nat.blt t 277 then
        some ⟨1, 8, false, [.nilFunc], .other⟩
        else (bif Nat.blt t 278 then
         some ⟨1, 8, false, [.pointer none], .other⟩
         else some ⟨1, 8, false, [.nilFunc], .other⟩)))
      else (bif Nat.blt t 283 then
       (bif Nat.blt t 281 then
        (bif Nat.beq t 279 then some ⟨1, 8, false, [.nilFunc], .other⟩ else none)
        else (bif Nat.blt t 282 then
         some ⟨1, 8, false, [.nilFunc], .other⟩
         else some ⟨1, 8, false, [.nilFunc], .other⟩))
       else (bif Nat.blt t 284 then
        some ⟨1, 8, false, [.nilFunc], .other⟩
        else (bif Nat.blt t 286 then
         (bif Nat.beq t 284 then some ⟨1, 8, false, [.nilFunc], .other⟩ else none)
         else (bif Nat.beq t 286 then some ⟨1, 8, false, [.nilFunc], .other⟩ else none)))))
     else (bif Nat.blt t 294 then
      (bif Nat.blt t 291 then
       (bif Nat.blt t 289 then
        some ⟨1, 8, false, [.nilFunc], .other⟩
        else (bif Nat.blt t 290 then
         some ⟨1, 8, false, [.nilFunc], .other⟩
         else some ⟨1, 8, false, [.nilFunc], .other⟩))
       else (bif Nat.blt t 292 then
        some ⟨1, 8, false, [.pointer none], .other⟩
        else (bif Nat.blt t 293 then
         some ⟨3, 48, true, [.string ⟨#[]⟩, .int .i64 0, .slice none 0 0], .struct [(0, 1), (1, 1), (2, 1)]⟩
         else some ⟨3, 48, true, [.string ⟨#[]⟩, .int .i64 0, .slice none 0 0], .struct [(0, 1), (1, 1), (2, 1)]⟩)))
      else (bif Nat.blt t 297 then
       (bif Nat.blt t 295 then
        some ⟨1, 8, false, [.nilFunc], .other⟩
        else (bif Nat.blt t 296 then
         some ⟨1, 8, false, [.nilFunc], .other⟩
         else some ⟨1, 8, false, [.nilFunc], .other⟩))
       else (bif Nat.blt t 299 then
        (bif Nat.blt t 298 then
         some ⟨1, 8, false, [.nilFunc], .other⟩
         else some ⟨1, 8, false, [.map none], .other⟩)
        else (bif Nat.blt t 300 then
         some ⟨2, 32, true, [.map none, .slice none 0 0], .struct [(0, 1), (1, 1)]⟩
         else some ⟨2, 32, true, [.map none, .slice none 0 0], .struct [(0, 1), (1, 1)]⟩)))))
    else (bif Nat.blt t 314 then
     (bif Nat.blt t 307 then
      (bif Nat.blt t 304 then
       (bif Nat.blt t 302 then
        some ⟨1, 8, false, [.pointer none], .other⟩
        else (bif Nat.blt t 303 then
         some ⟨1, 8, false, [.map none], .other⟩
         else some ⟨2, 16, true, [.map none, .map none], .struct [(0, 1), (1, 1)]⟩))
       else (bif Nat.blt t 305 then
        some ⟨2, 16, true, [.map none, .map none], .struct [(0, 1), (1, 1)]⟩
        else (bif Nat.blt t 306 then
         some ⟨1, 8, false, [.nilFunc], .other⟩
         else some ⟨1, 8, false, [.nilFunc], .other⟩)))
      else (bif Nat.blt t 310 then
       (bif Nat.blt t 308 then
        some ⟨1, 8, false, [.nilFunc], .other⟩
        else (bif Nat.blt t 309 then
         some ⟨1, 8, false, [.pointer none], .other⟩
         else some ⟨1, 8, false, [.nilFunc], .other⟩))
       else (bif Nat.blt t 312 then
        (bif Nat.blt t 311 then
         some ⟨1, 8, false, [.nilFunc], .other⟩
         else some ⟨1, 16, false, [.nilIface], .other⟩)
        else (bif Nat.blt t 313 then
         some ⟨1, 16, false, [.nilIface], .other⟩
         else some ⟨1, 8, false, [.nilFunc], .other⟩))))
     else (bif Nat.blt t 320 then
      (bif Nat.blt t 317 then
       (bif Nat.blt t 315 then
        some ⟨1, 8, false, [.nilFunc], .other⟩
        else (bif Nat.blt t 316 then
         some ⟨1, 8, false, [.nilFunc], .other⟩
         else some ⟨1, 8, false, [.int .u64 0], .int .u64⟩))
       else (bif Nat.blt t 318 then
        some ⟨1, 8, false, [.nilFunc], .other⟩
        else (bif Nat.blt t 319 then
         some ⟨1, 8, false, [.nilFunc], .other⟩
         else some ⟨1, 8, false, [.nilFunc], .other⟩)))
      else (bif Nat.blt t 323 then
       (bif Nat.blt t 321 then
        some ⟨1, 8, false, [.nilFunc], .other⟩
        else (bif Nat.blt t 322 then
         some ⟨1, 8, false, [.nilFunc], .other⟩
         else some ⟨1, 8, false, [.nilFunc], .other⟩))
       else (bif Nat.blt t 325 then
        (bif Nat.blt t 324 then
         some ⟨1, 8, false, [.pointer none], .other⟩
         else some ⟨1, 8, false, [.nilFunc], .other⟩)
        else (bif Nat.blt t 326 then
         some ⟨1, 8, false, [.nilFunc], .other⟩
         else some ⟨1, 8, false, [.nilFunc], .other⟩)))))))
  else (bif Nat.blt t 378 then
   (bif Nat.blt t 352 then
    (bif Nat.blt t 339 then
     (bif Nat.blt t 333 then
      (bif Nat.blt t 330 then
       (bif Nat.blt t 328 then
        some ⟨1, 8, false, [.nilFunc], .other⟩
        else (bif Nat.blt t 329 then
         some ⟨3, 32, true, [.string ⟨#[]⟩, .int .i64 0, .int .i64 0], .struct [(0, 1), (1, 1), (2, 1)]⟩
         else some ⟨3, 32, true, [.string ⟨#[]⟩, .int .i64 0, .int .i64 0], .struct [(0, 1), (1, 1), (2, 1)]⟩))
       else (bif Nat.blt t 331 then
        some ⟨1, 8, false, [.nilFunc], .other⟩
        else (bif Nat.blt t 332 then
         some ⟨1, 8, false, [.nilFunc], .other⟩
         else some ⟨1, 8, false, [.nilFunc], .other⟩)))
      else (bif Nat.blt t 336 then
       (bif Nat.blt t 334 then
        some ⟨1, 8, false, [.nilFunc], .other⟩
        else (bif Nat.blt t 335 then
         some ⟨1, 8, false, [.nilFunc], .other⟩
         else some ⟨1, 8, false, [.nilFunc], .other⟩))
       else (bif Nat.blt t 337 then
        some ⟨1, 8, false, [.nilFunc], .other⟩
        else (bif Nat.blt t 338 then
         some ⟨1, 8, false, [.nilFunc], .other⟩
         else some ⟨1, 8, false, [.nilFunc], .other⟩))))
     else (bif Nat.blt t 345 then
      (bif Nat.blt t 342 then
       (bif Nat.blt t 340 then
        some ⟨1, 8, false, [.nilFunc], .other⟩
        else (bif Nat.blt t 341 then
         some ⟨1, 8, false, [.nilFunc], .other⟩
         else some ⟨1, 8, false, [.nilFunc], .other⟩))
       else (bif Nat.blt t 343 then
        some ⟨1, 24, false, [.slice none 0 0], .slice 9⟩
        else (bif Nat.blt t 344 then
         some ⟨1, 8, false, [.nilFunc], .other⟩
         else some ⟨1, 8, false, [.pointer none], .other⟩)))
      else (bif Nat.blt t 348 then
       (bif Nat.blt t 346 then
        some ⟨1, 8, false, [.nilFunc], .other⟩
        else (bif Nat.blt t 347 then
         some ⟨1, 8, false, [.pointer none], .other⟩
         else some ⟨1, 8, false, [.nilFunc], .other⟩))
       else (bif Nat.blt t 350 then
        (bif Nat.blt t 349 then
         some ⟨1, 8, false, [.nilFunc], .other⟩
         else some ⟨1, 8, false, [.nilFunc], .other⟩)
        else (bif Nat.blt t 351 then
         some ⟨2, 16, true, [.int .i64 0, .int .i64 0], .struct [(0, 1), (1, 1)]⟩
         else some ⟨2, 16, true, [.int .i64 0, .int .i64 0], .struct [(0, 1), (1, 1)]⟩)))))
    else (bif Nat.blt t 364 then
     (bif Nat.blt t 358 then
      (bif Nat.blt t 355 then
       (bif Nat.blt t 353 then
        some ⟨1, 1, true, [.bool false], .struct [(0, 1)]⟩
        else (bif Nat.blt t 354 then
         some ⟨1, 1, true, [.bool false], .struct [(0, 1)]⟩
         else some ⟨0, 0, true, [], .struct []⟩))
       else (bif Nat.blt t 356 then
        some ⟨0, 0, true, [], .struct []⟩
        else (bif Nat.blt t 357 then
         some ⟨1, 8, true, [.int .i64 0], .struct [(0, 1)]⟩
         else some ⟨1, 8, true, [.int .i64 0], .struct [(0, 1)]⟩)))
      else (bif Nat.blt t 361 then
       (bif Nat.blt t 359 then
        some ⟨1, 8, false, [.nilFunc], .other⟩
        else (bif Nat.blt t 360 then
         some ⟨1, 8, false, [.nilFunc], .other⟩
         else some ⟨1, 8, false, [.nilFunc], .other⟩))
       else (bif Nat.blt t 362 then
        some ⟨1, 8, false, [.nilFunc], .other⟩
        else (bif Nat.blt t 363 then
         some ⟨1, 8, false, [.pointer none], .other⟩
         else some ⟨1, 8, false, [.nilFunc], .other⟩))))
     else (bif Nat.blt t 371 then
      (bif Nat.blt t 368 then
       (bif Nat.blt t 366 then
        (bif Nat.beq t 364 then some ⟨1, 8, false, [.int .i64 0], .int .i64⟩ else none)
        else (bif Nat.blt t 367 then
         some ⟨1, 8, false, [.nilFunc], .other⟩
         else some ⟨1, 8, false, [.nilFunc], .other⟩))
       else (bif Nat.blt t 369 then
        some ⟨1, 8, false, [.nilFunc], .other⟩
        else (bif Nat.blt t 370 then
         some ⟨1, 8, false, [.pointer none], .other⟩
         else some ⟨1, 8, false, [.pointer none], .other⟩)))
      else (bif Nat.blt t 374 then
       (bif Nat.blt t 372 then
        some ⟨3, 24, true, [.pointer none, .int .i64 0, .int .i64 0], .struct [(0, 1), (1, 1), (2, 1)]⟩
        else (bif Nat.blt t 373 then
         some ⟨3, 24, true, [.pointer none, .int .i64 0, .int .i64 0], .struct [(0, 1), (1, 1), (2, 1)]⟩
         else some ⟨1, 8, false, [.nilFunc], .other⟩))
       else (bif Nat.blt t 376 then
        (bif Nat.blt t 375 then
         some ⟨1, 8, false, [.nilFunc], .other⟩
         else some ⟨1, 8, false, [.nilFunc], .other⟩)
        else (bif Nat.blt t 377 then
         some ⟨1, 8, false, [.nilFunc], .other⟩
         else some ⟨1, 8, false, [.nilFunc], .other⟩))))))
   else (bif Nat.blt t 404 then
    (bif Nat.blt t 391 then
     (bif Nat.blt t 384 then
      (bif Nat.blt t 381 then
       (bif Nat.blt t 379 then
        some ⟨1, 8, false, [.nilFunc], .other⟩
        else (bif Nat.blt t 380 then
         some ⟨1, 8, false, [.pointer none], .other⟩
         else some ⟨1, 8, false, [.nilFunc], .other⟩))
       else (bif Nat.blt t 382 then
        some ⟨1, 8, false, [.nilFunc], .other⟩
        else (bif Nat.blt t 383 then
         some ⟨27, 216, true, [.pointer none, .int .i64 0, .int .i64 0, .pointer none, .int .i64 0, .int .i64 0, .pointer none, .int .i64 0, .int .i64 0, .pointer none, .int .i64 0, .int .i64 0, .pointer none, .int .i64 0, .int .i64 0, .pointer none, .int .i64 0, .int .i64 0, .pointer none, .int .i64 0, .int .i64 0, .pointer none, .int .i64 0, .int .i64 0, .pointer none, .int .i64 0, .int .i64 0], .arr 9 372⟩
         else some ⟨1, 8, false, [.nilFunc], .other⟩)))
      else (bif Nat.blt t 388 then
       (bif Nat.blt t 385 then
        some ⟨1, 8, false, [.nilFunc], .other⟩
        else (bif Nat.blt t 387 then
         (bif Nat.beq t 385 then some ⟨1, 8, false, [.int .i64 0], .int .i64⟩ else none)
         else some ⟨1, 8, false, [.nilFunc], .other⟩))
       else (bif Nat.blt t 389 then
        some ⟨1, 8, false, [.nilFunc], .other⟩
        else (bif Nat.blt t 390 then
         some ⟨1, 8, false, [.nilFunc], .other⟩
         else some ⟨1, 8, false, [.nilFunc], .other⟩))))
     else (bif Nat.blt t 397 then
      (bif Nat.blt t 394 then
       (bif Nat.blt t 392 then
        some ⟨1, 8, false, [.nilFunc], .other⟩
        else (bif Nat.blt t 393 then
         some ⟨1, 8, false, [.nilFunc], .other⟩
         else some ⟨1, 8, false, [.nilFunc], .other⟩))
       else (bif Nat.blt t 395 then
        some ⟨1, 8, false, [.nilFunc], .other⟩
        else (bif Nat.blt t 396 then
         some ⟨1, 8, false, [.pointer none], .other⟩
         else some ⟨1, 8, false, [.nilFunc], .other⟩)))
      else (bif Nat.blt t 400 then
       (bif Nat.blt t 398 then
        some ⟨1, 8, false, [.pointer none], .other⟩
        else (bif Nat.blt t 399 then
         some ⟨1, 8, false, [.nilFunc], .other⟩
         else some ⟨1, 8, false, [.nilFunc], .other⟩))
       else (bif Nat.blt t 402 then
        (bif Nat.blt t 401 then
         some ⟨1, 8, false, [.nilFunc], .other⟩
         else some ⟨1, 8, false, [.int .u64 0], .int .u64⟩)
        else (bif Nat.blt t 403 then
         some ⟨1, 8, false, [.nilFunc], .other⟩
         else some ⟨1, 8, false, [.nilFunc], .other⟩)))))
    else (bif Nat.blt t 419 then
     (bif Nat.blt t 412 then
      (bif Nat.blt t 407 then
       (bif Nat.blt t 405 then
        some ⟨1, 8, false, [.nilFunc], .other⟩
        else (bif Nat.blt t 406 then
         some ⟨1, 8, false, [.nilFunc], .other⟩
         else some ⟨1, 8, false, [.nilFunc], .other⟩))
       else (bif Nat.blt t 409 then
        (bif Nat.beq t 407 then some ⟨1, 8, false, [.pointer none], .other⟩ else none)
        else (bif Nat.blt t 411 then
         (bif Nat.beq t 409 then some ⟨1, 8, false, [.nilFunc], .other⟩ else none)
         else some ⟨1, 8, false, [.nilFunc], .other⟩)))
      else (bif Nat.blt t 415 then
       (bif Nat.blt t 413 then
        some ⟨4, 40, true, [.pointer none, .pointer none, .pointer none, .string ⟨#[]⟩], .struct [(0, 1), (1, 1), (2, 1), (3, 1)]⟩
        else (bif Nat.blt t 414 then
         some ⟨4, 40, true, [.pointer none, .pointer none, .pointer none, .string ⟨#[]⟩], .struct [(0, 1), (1, 1), (2, 1), (3, 1)]⟩
         else some ⟨0, 0, true, [], .arr 0 16⟩))
       else (bif Nat.blt t 417 then
        (bif Nat.blt t 416 then
         some ⟨0, 0, true, [], .struct [(0, 0)]⟩
         else some ⟨0, 0, true, [], .struct [(0, 0)]⟩)
        else (bif Nat.blt t 418 then
         some ⟨1, 1, false, [.int .u8 0], .int .u8⟩
         else some ⟨1, 1, false, [.int .u8 0], .int .u8⟩))))
     else (bif Nat.blt t 427 then
      (bif Nat.blt t 422 then
       (bif Nat.blt t 420 then
        some ⟨1, 8, false, [.nilFunc], .other⟩
        else (bif Nat.blt t 421 then
         some ⟨1, 4, false, [.int .i32 0], .int .i32⟩
         else some ⟨1, 4, false, [.int .i32 0], .int .i32⟩))
       else (bif Nat.blt t 423 then
        some ⟨11, 48, true, [.int .u64 0, .int .u64 0, .int .u32 0, .int .u8 0, .int .u8 0, .int .u8 0, .int .u8 0, .nilFunc, .pointer none, .int .i32 0, .int .i32 0], .struct [(0, 1), (1, 1), (2, 1), (3, 1), (4, 1), (5, 1), (6, 1), (7, 1), (8, 1), (9, 1), (10, 1)]⟩
        else (bif Nat.blt t 425 then
         (bif Nat.beq t 423 then some ⟨11, 48, true, [.int .u64 0, .int .u64 0, .int .u32 0, .int .u8 0, .int .u8 0, .int .u8 0, .int .u8 0, .nilFunc, .pointer none, .int .i32 0, .int .i32 0], .struct [(0, 1), (1, 1), (2, 1), (3, 1), (4, 1), (5, 1), (6, 1), (7, 1), (8, 1), (9, 1), (10, 1)]⟩ else none)
         else (bif Nat.beq t 425 then some ⟨1, 8, false, [.nilFunc], .other⟩ else none))))
      else (bif Nat.blt t 430 then
       (bif Nat.blt t 428 then
        some ⟨2, 2, true, [.int .u8 0, .int .u8 0], .struct [(0, 1), (1, 1)]⟩
        else (bif Nat.blt t 429 then
         some ⟨2, 2, true, [.int .u8 0, .int .u8 0], .struct [(0, 1), (1, 1)]⟩
         else some ⟨32, 32, true, [.int .u8 0, .int .u8 0, .int .u8 0, .int .u8 0, .int .u8 0, .int .u8 0, .int .u8 0, .int .u8 0, .int .u8 0, .int .u8 0, .int .u8 0, .int .u8 0, .int .u8 0, .int .u8 0, .int .u8 0, .int .u8 0, .int .u8 0, .int .u8 0, .int .u8 0, .int .u8 0, .int .u8 0, .int .u8 0, .int .u8 0, .int .u8 0, .int .u8 0, .int .u8 0, .int .u8 0, .int .u8 0, .int .u8 0, .int .u8 0, .int .u8 0, .int .u8 0], .arr 16 428⟩))
       else (bif Nat.blt t 432 then
        (bif Nat.blt t 431 then
         some ⟨1, 8, false, [.nilFunc], .other⟩
         else some ⟨1, 8, false, [.nilFunc], .other⟩)
        else (bif Nat.blt t 433 then
         some ⟨1, 8, false, [.nilFunc], .other⟩
         else some ⟨1, 8, false, [.nilFunc], .other⟩)))))))))
def Tryz.tab : Tab := mkTab 434 Tryz.tabF
theorem Tryz.tabOK : TabOK Tryz.prog Tryz.tab := Go.Sy.tabOK (by kernel_rfl)

theorem Tryz.wide_ : Tryz.prog.follows .mixedOrders = true := by kernel_rfl
end Go.Proofs

/- Types, declarations: data (printed by gen.py) -/
set_option linter.unusedSimpArgs false
set_option linter.unusedVariables false
set_option maxRecDepth 100000
namespace Go.Proofs
open Go.Sy Go.Lib
abbrev INTc (i : Int) : List AV := [I64 i]
abbrev STRc (l : List UInt8) : List AV := [.s l]
abbrev BOLc (b : Bool) : List AV := [B b]
structure Mth where
  tag : Int
  name : List UInt8
  fin : List UInt8
  fout : List UInt8
  oneWay : Bool

instance : Inhabited Mth := ⟨⟨0, [], [], [], false⟩⟩
def Mth.c (x : Mth) : List AV := [I64 x.tag, .s x.name, .s x.fin, .s x.fout, B x.oneWay]
structure Ty where
  kind : Int
  name : List UInt8
  of : List Ty

instance : Inhabited Ty := ⟨⟨0, [], []⟩⟩
mutual
def Ty.cells : Ty → List AV
  | ⟨a0, a1, a2⟩ => [I64 a0, .s a1, .sl a2.length 3 (Ty.rows a2)]
def Ty.rows : List Ty → Nat → List AV
  | [], _ => []
  | x :: _, 0 => Ty.cells x
  | _ :: xs, i + 1 => Ty.rows xs i
end
structure Fld where
  tag : Int
  name : List UInt8
  ty : Ty

instance : Inhabited Fld := ⟨⟨0, [], default⟩⟩
def Fld.c (x : Fld) : List AV := [I64 x.tag, .s x.name, I64 x.ty.kind, .s x.ty.name, .sl x.ty.of.length 3 (Ty.rows x.ty.of)]
structure Dcl where
  kind : Int
  name : List UInt8
  fields : List Fld
  methods : List Mth
  fat : Int

instance : Inhabited Dcl := ⟨⟨0, [], [], [], 0⟩⟩
def Dcl.c (x : Dcl) : List AV := [I64 x.kind, .s x.name, SL 5 Fld.c x.fields, SL 5 Mth.c x.methods, I64 x.fat]
structure Flt where
  err : Int
  fat : Int

instance : Inhabited Flt := ⟨⟨0, 0⟩⟩
end Go.Proofs

/- The law's guard, and the answers of the document (printed by gen.py) -/
set_option linter.unusedSimpArgs false
set_option linter.unusedVariables false
set_option maxRecDepth 100000
namespace Go.Proofs
open Go.Sy Go.Lib

end Go.Proofs

/- Contracts of names: Of, Find, Kind. -/
set_option linter.unusedSimpArgs false
set_option linter.unusedVariables false
set_option maxRecDepth 100000
namespace Go.Proofs
open Go.Sy Go.Lib

/-- Names, each with its first place. -/
def fstE (l : List Dcl) : Nat → List (List UInt8 × AV)
  | 0 => []
  | k + 1 => match lookE (l.getD k default).name (fstE l k) with
    | none => fstE l k ++ [((l.getD k default).name, I64 (k : Nat))]
    | some _ => fstE l k

/-- A table of names. -/
def tabV (l : List Dcl) : AV := .cp [mapE S (fstE l l.length), .sl l.length 1 (fun i => [I64 (l.getD i default).kind])]

abbrev kinds (l : List Dcl) (k : Nat) : List AV := (l.take k).map fun d => I64 d.kind
abbrev tbA (bT mb : Nat) (h : Value) : Abs := boxA bT 300 [.v (.map (some mb)), .v h]

end Go.Proofs

/- Small functions of check and desc (printed by gen.py) -/
set_option linter.unusedSimpArgs false
set_option linter.unusedVariables false
set_option maxRecDepth 100000
namespace Go.Proofs
open Go.Sy Go.Lib

end Go.Proofs

/- Contracts of check: types. -/
set_option linter.unusedSimpArgs false
set_option linter.unusedVariables false
set_option maxRecDepth 100000
namespace Go.Proofs
open Go.Sy Go.Lib

end Go.Proofs

/- Contracts of check: rows, fields, methods. -/
set_option linter.unusedSimpArgs false
set_option linter.unusedVariables false
set_option maxRecDepth 100000
namespace Go.Proofs
open Go.Sy Go.Lib

abbrev ikey (i : Int) : Value := .int .i64 i
theorem sameBits_ik (k : Int) : Instr.sameBits 10000 (ikey k) (ikey k) = true := by
  show Instr.sameBits (9999 + 1) (.int .i64 k) (.int .i64 k) = true
  simp [Instr.sameBits]

/-- What stood ahead, each once. -/
abbrev ones {α : Type} (l : List α) : List (α × AV) := l.map fun t => (t, I64 1)

abbrev seenA (bS mt mn : Nat) : Abs := boxA bS 304 [.v (.map (some mt)), .v (.map (some mn))]
abbrev tagA (mt : Nat) (es : List (Int × AV)) : Abs := mapA ikey (some mt) es
abbrev namA (mn : Nat) (es : List (List UInt8 × AV)) : Abs := mapA S (some mn) es

end Go.Proofs

/- Contracts of check: declarations. -/
set_option linter.unusedSimpArgs false
set_option linter.unusedVariables false
set_option maxRecDepth 100000
namespace Go.Proofs
open Go.Sy Go.Lib

end Go.Proofs

/- Contracts of check: which declarations are finite; Check. -/
set_option linter.unusedSimpArgs false
set_option linter.unusedVariables false
set_option maxRecDepth 100000
namespace Go.Proofs
open Go.Sy Go.Lib

abbrev knA (b : Nat) (ks : List Bool) : Abs := slO (HO b 0 ks.length ks.length) 4 1 (ks.map B)

end Go.Proofs

/- Contracts of check: Finite, Check. -/
set_option linter.unusedSimpArgs false
set_option linter.unusedVariables false
set_option maxRecDepth 100000
namespace Go.Proofs
open Go.Sy Go.Lib

abbrev knN (b n : Nat) (ks : List Bool) : Abs := slO (HO b 0 n n) 4 1 (ks.map B)

end Go.Proofs

/- Contract of check: Check. -/
set_option linter.unusedSimpArgs false
set_option linter.unusedVariables false
set_option maxRecDepth 100000
namespace Go.Proofs
open Go.Sy Go.Lib

end Go.Proofs

/- Contracts of desc: types, fields, declarations in memory of their own. -/
set_option linter.unusedSimpArgs false
set_option linter.unusedVariables false
set_option maxRecDepth 100000
namespace Go.Proofs
open Go.Sy Go.Lib

end Go.Proofs

/- Contracts of desc: fields, declarations in memory of their own. -/
set_option linter.unusedSimpArgs false
set_option linter.unusedVariables false
set_option maxRecDepth 100000
namespace Go.Proofs
open Go.Sy Go.Lib

end Go.Proofs

/- Contracts of desc: declarations in memory of their own; Of. -/
set_option linter.unusedSimpArgs false
set_option linter.unusedVariables false
set_option maxRecDepth 100000
namespace Go.Proofs
open Go.Sy Go.Lib

end Go.Proofs

/- Comparing (printed by gen.py) -/
set_option linter.unusedSimpArgs false
set_option linter.unusedVariables false
set_option maxRecDepth 100000
namespace Go.Proofs
open Go.Sy Go.Lib

end Go.Proofs

/- Contracts of the library's sorting: comparing, exchanging. -/
set_option linter.unusedSimpArgs false
set_option linter.unusedVariables false
set_option maxRecDepth 100000
namespace Go.Proofs
open Go.Sy Go.Lib

abbrev cmpV : AV := .v (.func (.func 125) #[] #[])
/-- Fields, in order. -/
abbrev arA (g n cc : Nat) (f : Nat → Fld) : Abs := vecA (HD g n cc) 65 5 n (fun i => Fld.c (f i))

end Go.Proofs

/- Contracts of the library's sorting: turning round. -/
set_option linter.unusedSimpArgs false
set_option linter.unusedVariables false
set_option maxRecDepth 100000
namespace Go.Proofs
open Go.Sy Go.Lib

end Go.Proofs

/- Plain law of the library's sorting. -/
set_option linter.unusedSimpArgs false
set_option linter.unusedVariables false
namespace Go.Proofs
open Go.Sy

/-- The places from a to b in another order. -/
def PermOn {α : Type} (a b : Nat) (f f' : Nat → α) : Prop :=
  ∃ p r : Nat → Nat, (∀ i, a ≤ i → i < b → (a ≤ p i ∧ p i < b) ∧ (a ≤ r i ∧ r i < b) ∧ p (r i) = i ∧ r (p i) = i ∧ f' i = f (p i)) ∧ ∀ i, ¬(a ≤ i ∧ i < b) → f' i = f i

/-- In the order of their tags. -/
def Srt (f : Nat → Fld) (a b : Nat) : Prop := ∀ i j, a ≤ i → i ≤ j → j < b → (f i).tag ≤ (f j).tag

end Go.Proofs

/- Contracts of the library's sorting: merging. -/
set_option linter.unusedSimpArgs false
set_option linter.unusedVariables false
set_option maxRecDepth 100000
namespace Go.Proofs
open Go.Sy Go.Lib

end Go.Proofs

/- Contracts of the library's sorting: by insertion, stable. -/
set_option linter.unusedSimpArgs false
set_option linter.unusedVariables false
set_option maxRecDepth 100000
namespace Go.Proofs
open Go.Sy Go.Lib

end Go.Proofs

/- Contracts of the library's sorting: SortStableFunc. -/
set_option linter.unusedSimpArgs false
set_option linter.unusedVariables false
set_option maxRecDepth 100000
namespace Go.Proofs
open Go.Sy Go.Lib

abbrev nilH : AV := .v (.slice none 0 0)
end Go.Proofs

/- Contracts of desc: the schema is made ready. -/
set_option linter.unusedSimpArgs false
set_option linter.unusedVariables false
set_option maxRecDepth 100000
namespace Go.Proofs
open Go.Sy Go.Lib

/-- These fields, in the order of their tags. -/
def SrtOf (F R : List Fld) : Prop := R.length = F.length ∧ PermOn 0 F.length (fun i => F.getD i default) (fun i => R.getD i default) ∧ Srt (fun i => R.getD i default) 0 F.length
def esOf (l : List Dcl) (Rs : List (List Fld)) : List (List UInt8 × AV) := ((l.map (·.name)).zip Rs).map fun q => (q.1, SL 5 Fld.c q.2)
/-- A schema that is ready. -/
def RowsOK (l : List Dcl) (Rs : List (List Fld)) : Prop := Rs.length = l.length ∧ ∀ i, i < l.length → SrtOf (l.getD i default).fields (Rs.getD i default)

abbrev dscA (b : Nat) (l : List Dcl) (o1 o2 o3 : Value) (t m : AV) : Abs := boxA b 165 [SL 5 Dcl.c l, .v o1, .v o2, .v o3, t, m]

end Go.Proofs

/- Truths as numbers (printed by gen.py) -/
set_option linter.unusedSimpArgs false
set_option linter.unusedVariables false
set_option maxRecDepth 100000
namespace Go.Proofs
open Go.Sy Go.Lib

end Go.Proofs

/- Contracts of sync: the parts of Once. -/
set_option linter.unusedSimpArgs false
set_option linter.unusedVariables false
set_option maxRecDepth 100000
namespace Go.Proofs
open Go.Sy Go.Lib

end Go.Proofs

/- Contracts of sync: Once's slow road. -/
set_option linter.unusedSimpArgs false
set_option linter.unusedVariables false
set_option maxRecDepth 100000
namespace Go.Proofs
open Go.Sy Go.Lib

end Go.Proofs

/- Contracts of desc: Once.Do, ready, Kind, Rows. -/
set_option linter.unusedSimpArgs false
set_option linter.unusedVariables false
set_option maxRecDepth 100000
namespace Go.Proofs
open Go.Sy Go.Lib

/-- A schema, raw or ready. -/
def dsc (b : Nat) (l : List Dcl) : Option (List (List Fld)) → Abs
  | none => dscA b l (.int .u32 0) (.int .i32 0) (.int .u32 0) (.v (.pointer none)) (.v (.map none))
  | some Rs => dscA b l (.int .u32 1) (.int .i32 0) (.int .u32 0) (tabV l) (mapE S (esOf l Rs))
def Rdy (l : List Dcl) (q : Option (List (List Fld))) : Prop := ∀ Rs, q = some Rs → RowsOK l Rs

end Go.Proofs

/- The law's guard, once more: what it says of declarations. -/
set_option linter.unusedSimpArgs false
set_option linter.unusedVariables false
set_option maxRecDepth 100000
namespace Go.Proofs
open Go.Sy Go.Lib

end Go.Proofs

/- The document's side, by ghost loops: Find, Kind, Field, Row. -/
set_option linter.unusedSimpArgs false
set_option linter.unusedVariables false
set_option maxRecDepth 100000
namespace Go.Proofs
open Go.Sy Go.Lib

end Go.Proofs

/- The document's side, by ghost loops: Row; the lists of types. -/
set_option linter.unusedSimpArgs false
set_option linter.unusedVariables false
set_option maxRecDepth 100000
namespace Go.Proofs
open Go.Sy Go.Lib

end Go.Proofs

/- The document's side: which types are the same. -/
set_option linter.unusedSimpArgs false
set_option linter.unusedVariables false
set_option maxRecDepth 100000
namespace Go.Proofs
open Go.Sy Go.Lib

end Go.Proofs

/- The kit's contracts of strings.IndexByte and strings.Contains at this seat, as its tool lay-plain wrote them. -/
namespace Go.Proofs
open Go.Shelf

end Go.Proofs

/- Contracts of lex: bytes, put, while. -/
set_option linter.unusedSimpArgs false
set_option linter.unusedVariables false
set_option maxRecDepth 100000
namespace Go.Proofs
open Go.Sy Go.Lib

abbrev U8 (c : UInt8) : AV := .v (.int .u8 (c.toNat : Int))

structure Tok where
  kind : Int
  text : List UInt8
  num : Int
  at_ : Int
instance : Inhabited Tok := ⟨⟨0, [], 0, 0⟩⟩
def Tok.c (t : Tok) : List AV := [I64 t.kind, .s t.text, I64 t.num, I64 t.at_]

/-- A lexer, and its tokens. -/
abbrev lexA (b : Nat) (s : List UInt8) (i : Nat) (h : Value) : Abs := boxA b 293 [.s s, I64 (i : Nat), .v h]
abbrev tokA (h : Value) (ts : List Tok) : Abs := vecA h 222 4 ts.length (fun i => Tok.c (ts.getD i default))

end Go.Proofs

/- Contracts of lex: word, number, note, one. -/
set_option linter.unusedSimpArgs false
set_option linter.unusedVariables false
set_option maxRecDepth 100000
namespace Go.Proofs
open Go.Sy Go.Lib

end Go.Proofs

/- Contracts of lex: note, one, Tokens. -/
set_option linter.unusedSimpArgs false
set_option linter.unusedVariables false
set_option maxRecDepth 100000
namespace Go.Proofs
open Go.Sy Go.Lib

end Go.Proofs

/- The symbolic walk, part 52: a field of a struct that is a value. -/
set_option linter.unusedSimpArgs false
set_option linter.unusedVariables false
namespace Go.Sy
open Go.RowKit

section
variable {P : Program} {T : Tab} {X : Ctx P T} {n : Nat} {e : Env} {st : St} {a : Act} {w : World} {ops : Array Oper} {K : St → Prop}

theorem X_field {p : Pl} {t : TypeId} {fields : Array Field} {x : Operand} {f : Nat} {fd : Field} {cells : List AV} {av : AV} {ti : TI} {d : Option Nat} {ty : TypeId} {pos : String} {aft : Array Edge} {gd : Option (Nat × Bool)} {j : Nat} {Si : List (Nat × AV)} {c : List Ch}
    (hP : P.underlying t = some (.struct fields)) (hf : fields[f]? = some fd) (hT : T fd.type = some ti) (hag : ti.agg = false) (hg : guardA ops ⟨Si, c⟩ ⟨d, .field t x f, ty, pos, aft, gd⟩ = some true) (hx : opd Si x = some (.agg cells)) (hav : cells[fd.offset]? = some av) (hd : dstOK n d = true) :
    StepX X n ops p Si c c j ⟨d, .field t x f, ty, pos, aft, gd⟩ av :=
  StepX.val hg hd (fun e a w S r r' => by
    have h1 := opd_sound r' hx
    simp only [Rep] at h1
    obtain ⟨ys, h1, h2⟩ := h1
    obtain ⟨z, z1, z2, z3⟩ := h2.get _ _ hav
    have z1' : ys[fd.offset]? = some z := by simpa using z1
    refine ⟨z, w, e, ?_, r, z2⟩
    simp only [execOp, h1, Instr.field, Sem.run_bind, run_underlying hP, Result.andThen_ok, hf, asAgg, part, Sem.run_pure, X.ok.isAgg hT, hag, Bool.false_eq_true, if_false, z1'])
end
end Go.Sy

/- The symbolic walk, part 53: a struct stored in a part of a known box. -/
set_option linter.unusedSimpArgs false
set_option linter.unusedVariables false
namespace Go.Sy
open Go.RowKit

section
variable {P : Program} {T : Tab} {X : Ctx P T} {n : Nat} {e : Env} {st : St} {a : Act} {w : World} {ops : Array Oper} {K : St → Prop}

end
end Go.Sy

/- Contracts of parse: the parser's state; well, now, fail, may, need, number. -/
set_option linter.unusedSimpArgs false
set_option linter.unusedVariables false
set_option maxRecDepth 100000
namespace Go.Proofs
open Go.Sy Go.Lib

structure PS where
  i : Nat
  err : Int
  fat : Int
abbrev PS.c (ts : List Tok) (p : PS) : List AV := [SL 4 Tok.c ts, I64 (p.i : Nat), I64 p.err, I64 p.fat]

/-- Tokens that end by an end. -/
structure TsOK (ts : List Tok) : Prop where
  len : ts.length ≤ 2000
  go : ∀ i, i < ts.length → ((ts.getD i default).kind = 1 ∨ (ts.getD i default).kind = 2 ∨ (ts.getD i default).text ≠ []) → i + 1 < ts.length
  txt : ∀ i, i < ts.length → (ts.getD i default).text.length ≤ 1024

section
variable (m : Int) (b : Nat) (ts : List Tok) (hT : TsOK ts)

end
end Go.Proofs

/- Contracts of parse: plain, Word, name, types. -/
set_option linter.unusedSimpArgs false
set_option linter.unusedVariables false
set_option maxRecDepth 100000
namespace Go.Proofs
open Go.Sy Go.Lib

section
variable (m : Int) (b : Nat) (ts : List Tok) (hT : TsOK ts)
end
end Go.Proofs

/- Contracts of parse: types. -/
set_option linter.unusedSimpArgs false
set_option linter.unusedVariables false
set_option maxRecDepth 100000
namespace Go.Proofs
open Go.Sy Go.Lib

section
variable {ts : List Tok} (hT : TsOK ts)
end

section
variable (m : Int) (b : Nat) (ts : List Tok) (hT : TsOK ts)

end
end Go.Proofs

/- The symbolic walk, part 54: regions whose order is drawn, with operations that turn memory, not all of these one behind the other. -/
set_option linter.unusedSimpArgs false
set_option linter.unusedVariables false
namespace Go.Sy
open Go.RowKit

def setM (L : Nat → Bool) (i : Nat) : Nat → Bool := fun k => if k = i then true else L k

section
variable {P : Program} {T : Tab} {X : Ctx P T} {n : Nat} {e : Env} {st : St} {a : Act} {w : World} {ops : Array Oper} {K : St → Prop}

theorem any_of_M {p : Pl} {base : List (Nat × AV)} {C : (Nat → Bool) → List Ch} {D : Done} {Q : Exit → Act → World → Prop} (hE : ∀ e ∈ p.E, e < ops.size) (hC : ∀ L L' : Nat → Bool, (∀ e ∈ p.E, L e = L' e) → C L = C L') (hA : p.ancB ops = true) (hbse : p.baseB base = true) (hD : D.length = ops.size)
    (hstep : ∀ i o, ops[i]? = some o → ∃ x, D[i]? = some (o.dst, x) ∧ p.creB i x = true ∧ ∀ L : Nat → Bool, (∀ a ∈ p.anc i, L a = true) → (∀ q, i ∈ p.anc q → L q = false) → L i = false → StepX X n ops p (availX p i (D.take i) o.after.toList base) (C L) (if i ∈ p.E then C (setM L i) else C L) i o x)
    (hedge : ∀ i o, ops[i]? = some o → ∀ e ∈ o.after, Region.binds .any e = true → e.on < i)
    (hdist : ∀ (i j : Nat) o o' d, ops[i]? = some o → ops[j]? = some o' → o.dst = some d → o'.dst = some d → i = j)
    (hbase : ∀ (i : Nat) o d, ops[i]? = some o → o.dst = some d → get base d = none)
    (hfin : ∀ e a w, Rel X n e ⟨finS base (killD p D), C (fun _ => true)⟩ a w → Q .normal a w) :
    ∀ (fuel : Nat) (listed : Array Bool) (a : Act) (w : World) (e : Env) (S : List (Nat × AV)), listed.size = ops.size → listed.toList.count false = fuel → ClosedL ops listed → Rel X n e ⟨S, C (fun e => listed.getD e false)⟩ a w →
      (∀ k y, get base k = some y → get S k = some y) →
      (∀ (i : Nat) d x, listed.getD i false = true → D[i]? = some (some d, x) → (∀ q ∈ p.ki, listed.getD q.1 false = true → x.noO q.2 = true) → get S d = some x) →
      (∀ k y, get S k = some y → ∀ q ∈ p.cre, listed.getD q.1 false = false → y.no q.2 = true) →
      wpAny P .any ops Q fuel listed a w := by
  have bspec : ∀ {l : List (Nat × AV)}, p.baseB l = true → ∀ k y, get l k = some y → (∀ q ∈ p.cre, y.no q.2 = true) ∧ ∀ q ∈ p.ki, y.noO q.2 = true := by
    intro l
    induction l with
    | nil => intro _ k y h; simp [get] at h
    | cons z l ih =>
      obtain ⟨j, v⟩ := z
      intro h k y hy
      simp only [Pl.baseB, Bool.and_eq_true, List.all_eq_true] at h
      rw [get_cons] at hy
      by_cases hj : j = k
      · rw [if_pos hj] at hy; cases hy; exact ⟨h.1.1, h.1.2⟩
      · rw [if_neg hj] at hy; exact ih h.2 k y hy
  have ancL : ∀ {listed : Array Bool}, ClosedL ops listed → ∀ i, i < ops.size → (∀ j ∈ predsB ops i, listed.getD j false = true) → ∀ a ∈ p.anc i, listed.getD a false = true := by
    intro listed hc i
    induction i using Nat.strongRecOn with
    | ind i ih =>
      intro hi hp a ha
      have h1 := List.all_eq_true.1 (List.all_eq_true.1 hA i (by simpa using hi)) a ha
      simp only [Bool.or_eq_true, List.contains_iff_mem, List.any_eq_true] at h1
      rcases h1 with h1 | ⟨q, hq, h1⟩
      · exact hp a h1
      · obtain ⟨o, ho, ed, he, hb, rfl⟩ := mem_preds hq
        have hlt := hedge i o ho ed he hb
        refine ih ed.on hlt (by omega) (fun j hj => ?_) a h1
        obtain ⟨o', ho', ed', he', hb', rfl⟩ := mem_preds hj
        exact hc ed.on o' (hp _ hq) ho' ed' he' hb'
  have ancLd : ∀ {listed : Array Bool}, listed.size = ops.size → ClosedL ops listed → ∀ i, listed.getD i false = true → ∀ a ∈ p.anc i, listed.getD a false = true := by
    intro listed hsz hc i hi
    have hlt : i < ops.size := by
      rcases Nat.lt_or_ge i ops.size with h | h
      · exact h
      · rw [← hsz] at h; simp [Nat.not_lt.2 h] at hi
    refine ancL hc i hlt (fun j hj => ?_)
    obtain ⟨o, ho, ed, he, hb, rfl⟩ := mem_preds hj
    exact hc i o hi ho ed he hb
  have progress : ∀ (listed : Array Bool), listed.size = ops.size → Region.ready .any ops listed = [] → ∀ i, i < ops.size → listed.getD i false = true := by
    intro listed hsz hr i
    induction i using Nat.strongRecOn with
    | ind i ih =>
      intro hi
      cases hl : listed.getD i true with
      | true =>
        have : i < listed.size := by omega
        simp [this] at hl ⊢
        exact hl
      | false =>
        exfalso
        have hmem : i ∈ Region.ready .any ops listed := by
          rw [mem_ready]
          refine ⟨hl, ops[i], by simp [hi], fun e he hb => ih e.on (hedge i ops[i] (by simp [hi]) e he hb) ?_⟩
          have := hedge i ops[i] (by simp [hi]) e he hb
          omega
        rw [hr] at hmem
        cases hmem
  have final : ∀ (listed : Array Bool) a w e S, listed.size = ops.size → Region.ready .any ops listed = [] → Rel X n e ⟨S, C (fun e => listed.getD e false)⟩ a w →
      (∀ k y, get base k = some y → get S k = some y) → (∀ (i : Nat) d x, listed.getD i false = true → D[i]? = some (some d, x) → (∀ q ∈ p.ki, listed.getD q.1 false = true → x.noO q.2 = true) → get S d = some x) → Q .normal a w := by
    intro listed a w e S hsz hr r hb hs
    rw [hC (fun e => listed.getD e false) (fun _ => true) (fun e he => progress listed hsz hr e (hE e he))] at r
    refine hfin e a w (r.less (fun k y hk => ?_) (fun h => h))
    rcases finS_get hk with ⟨i, hi⟩ | h
    · obtain ⟨hi, he⟩ := killD_get hi
      have hlt : i < D.length := by
        rcases Nat.lt_or_ge i D.length with h | h
        · exact h
        · rw [List.getElem?_eq_none h] at hi; cases hi
      exact hs i k y (progress listed hsz hr i (by omega)) hi (fun q hq _ => List.all_eq_true.1 he q hq)
    · exact hb k y h
  intro fuel
  induction fuel with
  | zero =>
    intro listed a w e S hsz hc hcl r hb hs hcr
    have hall : ∀ i, i < listed.size → listed.getD i true = true := by
      intro i hi
      cases hl : listed.getD i true with
      | true => rfl
      | false =>
        exfalso
        have : false ∈ listed.toList := by
          simp [hi] at hl
          exact List.mem_iff_getElem.2 ⟨i, by simpa using hi, by simpa using hl⟩
        have := List.count_pos_iff.2 this
        omega
    have hr : Region.ready .any ops listed = [] := by
      cases hrr : Region.ready .any ops listed with
      | nil => rfl
      | cons j js =>
        exfalso
        have hm : j ∈ Region.ready .any ops listed := by rw [hrr]; simp
        rw [mem_ready] at hm
        obtain ⟨h0, o, ho, _⟩ := hm
        have hlt : j < ops.size := (Array.getElem?_eq_some_iff.1 ho).1
        rw [hall j (by omega)] at h0
        cases h0
    exact ⟨hr, final listed a w e S hsz hr r hb hs⟩
  | succ fuel ih =>
    intro listed a w e S hsz hc hcl r hb hs hcr
    refine ⟨fun hr => final listed a w e S hsz hr r hb hs, fun i hi => ?_⟩
    rw [mem_ready] at hi
    obtain ⟨h0, o, ho, hpre⟩ := hi
    have hlt : i < ops.size := (Array.getElem?_eq_some_iff.1 ho).1
    have hif : listed.getD i false = false := by
      have : i < listed.size := by omega
      simp [this] at h0 ⊢
      exact h0
    have hlf : listed.toList[i]? = some false := by
      have : i < listed.size := by omega
      simp [this] at h0 ⊢
      exact h0
    have hpl : ∀ j ∈ predsB ops i, listed.getD j false = true := by
      intro j hj
      obtain ⟨o', ho', ed, he, hb', rfl⟩ := mem_preds hj
      rw [ho] at ho'
      cases ho'
      exact hpre ed he hb'
    have hanc := ancL hcl i hlt hpl
    obtain ⟨x, hx, hcre, hst⟩ := hstep i o ho
    unfold wpOp
    simp only [ho]
    have hhi : ∀ q, i ∈ p.anc q → listed.getD q false = false := fun q hq => by
      cases hb : listed.getD q false with
      | false => rfl
      | true => rw [ancLd hsz hcl q hb i hq] at hif; cases hif
    have hav : ∀ k y, get (availX p i (D.take i) o.after.toList base) k = some y → get S k = some y := by
      intro k y hk
      rcases availX_get hk with ⟨ed, h1, h2, h3, h5⟩ | h
      · have h4 : D[ed.on]? = some (some k, y) := by
          rw [List.getElem?_take] at h3
          split at h3
          · exact h3
          · cases h3
        refine hs ed.on k y (hpre ed (by simpa using h1) h2) h4 (fun q hq hql => ?_)
        have h6 := List.all_eq_true.1 h5 q hq
        simp only [Bool.or_eq_true, List.contains_iff_mem] at h6
        rcases h6 with (h6 | h6) | h6
        · exact h6
        · have := Nat.eq_of_beq_eq_true h6
          rw [← this, hif] at hql; cases hql
        · rw [ancLd hsz hcl q.1 hql i h6] at hif; cases hif
      · exact hb k y h
    have hset : ∀ j, j ≠ i → (listed.setIfInBounds i true).getD j false = listed.getD j false := fun j hj => getD_set_ne false (Ne.symm hj)
    have hseti : (listed.setIfInBounds i true).getD i false = true := by
      have : i < listed.size := by omega
      simp [this]
    have hphn : (if i ∈ p.E then C (setM (fun e => listed.getD e false) i) else C (fun e => listed.getD e false)) = C (fun e => (listed.setIfInBounds i true).getD e false) := by
      have h1 : C (setM (fun e => listed.getD e false) i) = C (fun e => (listed.setIfInBounds i true).getD e false) := by
        congr 1; funext k; unfold setM
        by_cases hk : k = i
        · rw [if_pos hk, hk, hseti]
        · rw [if_neg hk, hset k hk]
      by_cases hi : i ∈ p.E
      · rw [if_pos hi, h1]
      · rw [if_neg hi]
        exact hC _ _ (fun e he => (hset e (fun h => hi (h ▸ he))).symm)
    refine hst (fun e => listed.getD e false) hanc hhi hif e a w S _ Q r hav (fun k y hy q hq hqi => hcr k y hy q hq (by rw [hqi]; exact hif)) (fun e' a' w' S' r' hu => ?_)
    refine ih (listed.setIfInBounds i true) a' w' e' S' (by simpa using hsz) ?_ ?_ (by rw [← hphn]; exact r') (fun k y hk => ?_) (fun j d y hj hy hq => ?_) (fun k y hy q hq hql => ?_)
    · rw [Array.toList_setIfInBounds]
      have hlt' : i < listed.toList.length := by simpa using (by omega : i < listed.size)
      have hg : listed.toList[i] = false := by
        have := List.getElem?_eq_getElem hlt'
        rw [hlf] at this
        simpa using this.symm
      rw [List.count_set hlt', hg, hc]
      simp
    · intro j o' hj ho' ed he hb'
      by_cases hji : j = i
      · subst hji
        rw [ho] at ho'; cases ho'
        have := hpre ed he hb'
        by_cases h : ed.on = j
        · rw [h]; exact hseti
        · rw [hset _ h]; exact this
      · rw [hset j hji] at hj
        have := hcl j o' hj ho' ed he hb'
        by_cases h : ed.on = i
        · rw [h]; exact hseti
        · rw [hset _ h]; exact this
    · refine hu.2.1 k y (fun h => ?_) (hb k y hk) (fun q hq _ => (bspec hbse k y hk).2 q hq)
      rw [hbase i o k ho h] at hk; cases hk
    · by_cases hji : j = i
      · subst hji
        rw [hx] at hy
        simp only [Option.some.injEq, Prod.mk.injEq] at hy
        rw [← hy.2]
        exact hu.1 d hy.1
      · rw [hset j hji] at hj
        have hold := hs j d y hj hy (fun q hqk hql => hq q hqk (by
          by_cases h : q.1 = i
          · rw [h]; exact hseti
          · rw [hset _ h]; exact hql))
        refine hu.2.1 d y (fun h => ?_) hold (fun q hqk hqi => hq q hqk (by rw [hqi]; exact hseti))
        have hjl : j < ops.size := by
          rw [← hD]
          rcases Nat.lt_or_ge j D.length with h | h
          · exact h
          · rw [List.getElem?_eq_none h] at hy; cases hy
        obtain ⟨x', hx', _⟩ := hstep j ops[j] (by simp [hjl])
        rw [hx'] at hy
        simp only [Option.some.injEq, Prod.mk.injEq] at hy
        exact hji (hdist j i ops[j] o d (by simp [hjl]) ho hy.1 h)
    · have hqi : q.1 ≠ i := fun h => by rw [h, hseti] at hql; cases hql
      rw [hset _ hqi] at hql
      rcases hu.2.2 k y hy with ⟨_, rfl⟩ | h | rfl
      · have h6 := List.all_eq_true.1 hcre q hq
        simp only [Bool.or_eq_true, List.contains_iff_mem] at h6
        rcases h6 with (h6 | h6) | h6
        · exact absurd (Nat.eq_of_beq_eq_true h6) hqi
        · rw [hanc q.1 h6] at hql; cases hql
        · exact h6
      · exact hcr k y h q hq hql
      · rfl

/-- The ways through the list. -/
def SymM {P : Program} {T : Tab} (X : Ctx P T) (n : Nat) (ops : Array Oper) (p : Pl) (base : List (Nat × AV)) (C : (Nat → Bool) → List Ch) (K : St → Prop) : List Oper → Done → Prop
  | [], done => K ⟨finS base (killD p done), C (fun _ => true)⟩
  | o :: rest, done => ∃ x, (p.creB done.length x = true ∧ ∀ L : Nat → Bool, (∀ a ∈ p.anc done.length, L a = true) → (∀ q, done.length ∈ p.anc q → L q = false) → L done.length = false → StepX X n ops p (availX p done.length done o.after.toList base) (C L) (if done.length ∈ p.E then C (setM L done.length) else C L) done.length o x) ∧
      SymM X n ops p base C K rest (done ++ [(o.dst, x)])

theorem SymM.plan {p : Pl} {base : List (Nat × AV)} {C : (Nat → Bool) → List Ch} : ∀ {l : List Oper} {done : Done}, SymM X n ops p base C K l done →
    ∃ D : Done, done <+: D ∧ D.length = done.length + l.length ∧ K ⟨finS base (killD p D), C (fun _ => true)⟩ ∧
      ∀ i o, l[i]? = some o → ∃ x, D[done.length + i]? = some (o.dst, x) ∧ p.creB (done.length + i) x = true ∧
        ∀ L : Nat → Bool, (∀ a ∈ p.anc (done.length + i), L a = true) → (∀ q, done.length + i ∈ p.anc q → L q = false) → L (done.length + i) = false → StepX X n ops p (availX p (done.length + i) (D.take (done.length + i)) o.after.toList base) (C L) (if done.length + i ∈ p.E then C (setM L (done.length + i)) else C L) (done.length + i) o x
  | [], done, h => ⟨done, List.prefix_refl _, by simp, h, fun i o hi => by simp at hi⟩
  | o :: rest, done, h => by
    obtain ⟨x, h1, h2⟩ := h
    obtain ⟨D, hp, hl, hK, hs⟩ := SymM.plan h2
    have hp' : done <+: D := (List.prefix_append done _).trans hp
    refine ⟨D, hp', by simp at hl ⊢; omega, hK, fun i o' hi => ?_⟩
    cases i with
    | zero =>
      simp only [List.getElem?_cons_zero, Option.some.injEq] at hi
      subst hi
      refine ⟨x, ?_, ?_⟩
      · obtain ⟨t, rfl⟩ := hp
        simp
      · obtain ⟨t, rfl⟩ := hp'
        simpa using h1
    | succ i =>
      obtain ⟨y, g1, g2⟩ := hs i o' (by simpa using hi)
      refine ⟨y, ?_, ?_⟩
      · simpa [Nat.add_assoc, Nat.add_comm 1 i] using g1
      · simpa [Nat.add_assoc, Nat.add_comm 1 i] using g2

theorem C_drawM (p : Pl) {id : Nat} {Q : Exit → St → Prop} {s base : List (Nat × AV)} {c : List Ch} (C : (Nat → Bool) → List Ch) (hb : eraseD ops.toList s = some base) (hchk : p.fine ops base = true) (hC : ∀ L L' : Nat → Bool, (∀ e ∈ p.E, L e = L' e) → C L = C L') (h0 : C (fun _ => false) = c)
    (h : SymM X n ops p base C (fun s => Q .normal s) ops.toList []) : SymC X n (.region id ops true) ⟨s, c⟩ Q := by
  intro e a w r
  have hbs : ∀ k y, get base k = some y → get s k = some y := fun k y hk => eraseD_get hb hk
  simp only [Pl.fine, Bool.and_eq_true] at hchk
  obtain ⟨⟨⟨g1, g2⟩, g3⟩, g4⟩ := hchk
  obtain ⟨D, _, hl, hK, hs⟩ := h.plan
  obtain ⟨c1, c2⟩ := chkD_spec g4
  have hbel : Below w.heap.size w { w with drawn := w.drawn + 1 } := ⟨rfl, rfl, rfl, Nat.le_refl _, fun _ _ => rfl⟩
  have hEs : ∀ e ∈ p.E, e < ops.size := fun e he => by
    have := List.all_eq_true.1 g3 e he
    simp [Nat.blt] at this; omega
  refine wp_region_any X.wide ?_
  have hrep : ∀ i, (Array.replicate ops.size false).getD i false = false := fun i => by
    rcases Nat.lt_or_ge i ops.size with h | h
    · simp [h]
    · simp [Nat.not_lt.2 h]
  refine any_of_M (X := X) (n := n) (p := p) (base := base) (C := C) (D := D) hEs hC g1 g2 (by simpa using hl) (fun i o ho => ?_) (fun i o ho => ?_) (fun i j o o' d hi hj => c2 i j o o' d (by simpa using hi) (by simpa using hj)) (fun i o d ho hd => ((c1 i o (by simpa using ho)).2 d hd).1)
    (fun e a w r => ⟨e, _, r, hK⟩) _ _ a _ e base (by simp) (by simp) (fun j o hj => by rw [hrep] at hj; cases hj) ?_ (fun k y hk => hk) (fun i d x hi => by rw [hrep] at hi; cases hi) ?_
  · have := hs i o (by simpa using ho)
    simpa using this
  · simpa using (c1 i o (by simpa using ho)).1
  · have h1 : C (fun e => (Array.replicate ops.size false).getD e false) = C (fun _ => false) := hC _ _ (fun e _ => hrep e)
    rw [h1, h0]
    exact (r.below hbel).less hbs (fun h => h)
  · intro k y hy q hq _
    have : ∀ {l : List (Nat × AV)}, p.baseB l = true → get l k = some y → y.no q.2 = true := by
      intro l
      induction l with
      | nil => intro _ h; simp [get] at h
      | cons z l ih =>
        obtain ⟨j, v⟩ := z
        intro h hy
        simp only [Pl.baseB, Bool.and_eq_true, List.all_eq_true] at h
        rw [get_cons] at hy
        by_cases hj : j = k
        · rw [if_pos hj] at hy; cases hy; exact h.1.1 q hq
        · rw [if_neg hj] at hy; exact ih h.2 hy
    exact this g2 hy

/-- One step of a drawn region of effects, by reckoning: an operation that needs no memory. -/
def stepMK {P : Program} {T : Tab} (X : Ctx P T) (n : Nat) (ops : Array Oper) (p : Pl) (base : List (Nat × AV)) (C : (Nat → Bool) → List Ch) (K : St → Prop) : List Oper → Done → Option Prop
  | [], done => normG (finS base (killD p done)) fun s => some (K ⟨s, C (fun _ => true)⟩)
  | o :: rest, done => normG (availX p done.length done o.after.toList base) fun Si => match guardA ops ⟨Si, []⟩ o, dstOK n o.dst with
    | some true, true => (match stillX T ⟨Si, []⟩ o.op with
      | some (vc, x) => normA x fun x => (match p.creB done.length x, !(p.E.contains done.length) with
        | true, true => normG (done ++ [(o.dst, x)]) fun done => some (vc ∧ SymM X n ops p base C K rest done)
        | _, _ => none)
      | none => none)
    | some false, true => (match p.creB done.length (.tup []), !(p.E.contains done.length) with
        | true, true => normG (done ++ [(o.dst, .tup [])]) fun done => some (SymM X n ops p base C K rest done)
        | _, _ => none)
    | _, _ => none

theorem sm {p : Pl} {base : List (Nat × AV)} {C : (Nat → Bool) → List Ch} {l : List Oper} {done : Done} {q : Prop} (h : stepMK X n ops p base C K l done = some q) (hq : q) : SymM X n ops p base C K l done := by
  cases l with
  | nil =>
    simp only [stepMK, normG_eq, Option.some.injEq] at h
    subst h
    exact hq
  | cons o rest =>
    simp only [stepMK, normG_eq, normA_eq] at h
    split at h
    · rename_i hg hd
      split at h
      · rename_i vc x hs
        split at h
        · rename_i hc hE
          simp only [Option.some.injEq] at h
          subst h
          refine ⟨x, ⟨hc, fun L _ _ _ => ?_⟩, hq.2⟩
          rw [if_neg (not_mem_of_contains hE)]
          exact StepX.any hg hd hs hq.1
        · cases h
      · cases h
    · rename_i hg hd
      split at h
      · rename_i hc hE
        simp only [Option.some.injEq] at h
        subst h
        refine ⟨.tup [], ⟨hc, fun L _ _ _ => ?_⟩, hq⟩
        rw [if_neg (not_mem_of_contains hE)]
        exact X_none (by rw [guardA_any (c' := [])]; exact hg) hd
      · cases h
    · cases h

/-- One step, told. -/
theorem SM {p : Pl} {base : List (Nat × AV)} {C : (Nat → Bool) → List Ch} {o : Oper} {rest : List Oper} {done : Done} (x : AV) (hc : p.creB done.length x = true)
    (h : ∀ L : Nat → Bool, (∀ a ∈ p.anc done.length, L a = true) → (∀ q, done.length ∈ p.anc q → L q = false) → L done.length = false → StepX X n ops p (availX p done.length done o.after.toList base) (C L) (if done.length ∈ p.E then C (setM L done.length) else C L) done.length o x)
    (k : normG (done ++ [(o.dst, x)]) fun done => SymM X n ops p base C K rest done) : SymM X n ops p base C K (o :: rest) done := by
  rw [normG_eq] at k
  exact ⟨x, ⟨hc, h⟩, k⟩
end
end Go.Sy

/- The symbolic walk, part 55: new variables, and stores into them, in drawn regions of effects. -/
set_option linter.unusedSimpArgs false
set_option linter.unusedVariables false
namespace Go.Sy
open Go.RowKit

theorem freshS_filter (d : Nat) : ∀ S : List (Nat × AV), freshS d (S.filter fun q => q.2.no d) = true
  | [] => rfl
  | (k, y) :: S => by
    rw [List.filter_cons]
    split
    · rename_i h
      simp only [freshS, Bool.and_eq_true]
      first | exact ⟨h, freshS_filter d S⟩ | (refine ⟨?_, freshS_filter d S⟩; simpa using h)
    · exact freshS_filter d S
theorem get_filter {d : Nat} : ∀ {S : List (Nat × AV)} {k : Nat} {y : AV}, get S k = some y → y.no d = true → get (S.filter fun q => q.2.no d) k = some y
  | [], k, y, h, _ => by simp [get] at h
  | (j, z) :: S, k, y, h, hy => by
    rw [get_cons] at h
    by_cases hj : j = k
    · rw [if_pos hj] at h; cases h
      rw [List.filter_cons, if_pos (by simpa using hy), get_cons, if_pos hj]
    · rw [if_neg hj] at h
      rw [List.filter_cons]
      split
      · rw [get_cons, if_neg hj]; exact get_filter h hy
      · exact get_filter h hy
theorem get_unfilter {d : Nat} : ∀ {S : List (Nat × AV)} (hS : ∀ k y, get S k = some y → y.no d = true) {k : Nat} {y : AV}, get (S.filter fun q => q.2.no d) k = some y → get S k = some y := by
  intro S hS k y h
  cases hg : get S k with
  | some z =>
    have := get_filter hg (hS k z hg)
    rw [h] at this
    exact this.symm
  | none =>
    exfalso
    have : ∀ S : List (Nat × AV), get S k = none → get (S.filter fun q => q.2.no d) k = none := by
      intro S
      induction S with
      | nil => intro _; rfl
      | cons q S ih =>
        obtain ⟨j, z⟩ := q
        intro h
        rw [get_cons] at h
        by_cases hj : j = k
        · rw [if_pos hj] at h; cases h
        · rw [if_neg hj] at h
          rw [List.filter_cons]
          split
          · rw [get_cons, if_neg hj]; exact ih h
          · exact ih h
    rw [this S hg] at h; cases h

section
variable {P : Program} {T : Tab} {X : Ctx P T} {n : Nat} {e : Env} {st : St} {a : Act} {w : World} {ops : Array Oper} {K : St → Prop}

/-- A new variable. -/
theorem X_alloc {p : Pl} {t : TypeId} {ti : TI} {d : Nat} {ty : TypeId} {pos : String} {aft : Array Edge} {gd : Option (Nat × Bool)} {j : Nat} {Si : List (Nat × AV)} {c : List Ch} {cells : List AV}
    (hT : T t = some ti) (hcells : cells = ti.zero.map constA) (hg : guardA ops ⟨Si, c⟩ ⟨some d, .alloc t, ty, pos, aft, gd⟩ = some true) (hd : Nat.blt d n = true) (hcre : (j, d) ∈ p.cre) (hc : freshC d c = true) (hno : AV.no.noL d cells = true) (hki : p.ki = []) :
    StepX X n ops p Si c (.box d t cells :: c) j ⟨some d, .alloc t, ty, pos, aft, gd⟩ (.bp d 0) := by
  subst hcells
  intro e a w S K Q r hS hcr hk
  have r0 : Rel X n e ⟨Si, c⟩ a w := r.less hS (fun h => h)
  rw [if_pos (guardA_sound r0 hg)]
  have hfree : ∀ k y, get S k = some y → y.no d = true := fun k y h => hcr k y h (j, d) hcre rfl
  have r1 : Rel X n e ⟨S.filter fun q => q.2.no d, c⟩ a w := r.less (fun k y h => get_unfilter hfree h) (fun h => h)
  obtain ⟨pi, z, g1, g2, g3, g4, g5, g6, g7⟩ := (X.ok _ _ hT).info
  have r2 := r1.alloc (t := t) (arr := z.cells) hd (freshS_filter d S) hc (by rw [g5]; exact zero_sound e g6) hno
  have hrun : (execOp a.eval ⟨some d, .alloc t, ty, pos, aft, gd⟩).run P w = .ok (.value (.pointer (some ⟨w.heap.size, 0, none⟩))) (w.alloc (.cells z.cells t)) := by
    simp [execOp, Instr.alloc, zeroValue, typeInfo, g1, g4, newVar, newRow]
  refine .inl ?_
  unfold Oper.wp
  rw [hrun]
  refine hk _ _ _ _ r2 ⟨?_, ?_, ?_⟩
  · rintro d' h'
    cases h'
    rw [get_cons, if_pos rfl]
  · intro k y hne hy _
    rw [get_cons, if_neg (fun h => hne (by rw [h]))]
    exact get_filter hy (hfree k y hy)
  · intro k y hy
    rw [get_cons] at hy
    by_cases h : d = k
    · rw [if_pos h] at hy; cases hy; exact .inl ⟨by rw [h], rfl⟩
    · rw [if_neg h] at hy; exact .inr (.inl (get_unfilter hfree hy))

/-- A store into a variable of one's own. -/
theorem X_storeK {p : Pl} {t tt : TypeId} {i : TI} {ad xo : Operand} {b o kk : Nat} {av : AV} {cells new : List AV} {ty : TypeId} {pos : String} {aft : Array Edge} {gd : Option (Nat × Bool)} {j : Nat} {Si : List (Nat × AV)} {c rest : List Ch}
    (hT : T t = some i) (hg : guardA ops ⟨Si, c⟩ ⟨none, .store t ad xo, ty, pos, aft, gd⟩ = some true) (had : opd Si ad = some (.bp b o)) (hx : opd Si xo = some av) (hk : takeCh b c = some (.box kk tt cells, rest)) (hb : boxable av = true) (hl : Nat.beq (cellsA av).length i.size = true) (ho : Nat.ble (o + i.size) cells.length = true)
    (hn : new = cells.take o ++ cellsA av ++ cells.drop (o + (cellsA av).length)) :
    StepX X n ops p Si c (.box kk tt new :: rest) j ⟨none, .store t ad xo, ty, pos, aft, gd⟩ .bad :=
  StepX.skip hg rfl (fun e a w S r r' => by
    subst hn
    have hkk : kk = b := kid_of_take hk
    subst hkk
    have k2 := Nat.eq_of_beq_eq_true hl
    have k3 := Nat.le_of_ble_eq_true ho
    have hv := cellsA_sound (opd_sound r' hx) hb
    have hbp := opd_sound r' had
    simp only [Rep] at hbp
    obtain ⟨w', g1, g2⟩ := r.write (st := ⟨S, c⟩) hk hv (o := o) (by omega)
    have hsz : (a.eval xo).cells.size = i.size := by have := RepL.len hv; simp at this; omega
    have hrun : (execOp a.eval ⟨none, .store t ad xo, ty, pos, aft, gd⟩).run P w = .ok .skip w' := by
      simp only [execOp, Instr.storeAt, hbp, Instr.sureAddr, Sem.run_bind, Sem.run_pure, Result.andThen_ok, storeVar, X.ok.size hT, hsz]
      simp [g1]
    exact ⟨w', e, hrun, g2⟩)
end
end Go.Sy

/- The symbolic walk, part 56: drawn regions that turn memory, with a tail in its order. -/
set_option linter.unusedSimpArgs false
set_option linter.unusedVariables false
namespace Go.Sy
open Go.RowKit

section
variable {P : Program} {T : Tab} {X : Ctx P T} {n : Nat} {e : Env} {st : St} {a : Act} {w : World} {ops : Array Oper} {K : St → Prop}

end
end Go.Sy

/- Contracts of parse: methods; the rows of declarations. -/
set_option linter.unusedSimpArgs false
set_option linter.unusedVariables false
set_option maxRecDepth 100000
namespace Go.Proofs
open Go.Sy Go.Lib

/-- A declaration that is read, in memory. -/
abbrev dA (bd : Nat) (d : Dcl) (hf hm : Value) : Abs := boxA bd 60 [I64 d.kind, .s d.name, .v hf, .v hm, I64 d.fat]
abbrev fldA (h : Value) (F : List Fld) : Abs := vecA h 65 5 F.length (fun i => Fld.c (F.getD i default))
abbrev mthA (h : Value) (F : List Mth) : Abs := vecA h 92 5 F.length (fun i => Mth.c (F.getD i default))

section
variable (m : Int) (b : Nat) (ts : List Tok) (hT : TsOK ts)

end
end Go.Proofs

/- Contracts of parse: the rows of enums and services. -/
set_option linter.unusedSimpArgs false
set_option linter.unusedVariables false
set_option maxRecDepth 100000
namespace Go.Proofs
open Go.Sy Go.Lib

section
variable (m : Int) (b : Nat) (ts : List Tok) (hT : TsOK ts)

end
end Go.Proofs

/- Contracts of parse: what stands in braces; declarations. -/
set_option linter.unusedSimpArgs false
set_option linter.unusedVariables false
set_option maxRecDepth 100000
namespace Go.Proofs
open Go.Sy Go.Lib

section
variable (m : Int) (b : Nat) (ts : List Tok) (hT : TsOK ts)

end
end Go.Proofs

/- Contracts of parse: declarations. -/
set_option linter.unusedSimpArgs false
set_option linter.unusedVariables false
set_option maxRecDepth 100000
namespace Go.Proofs
open Go.Sy Go.Lib

section
variable {ts : List Tok}
variable (hT : TsOK ts)
end

section
variable (m : Int) (b : Nat) (ts : List Tok) (hT : TsOK ts)

end
end Go.Proofs

/- The symbolic walk, part 57: method values. -/
set_option linter.unusedSimpArgs false
set_option linter.unusedVariables false
namespace Go.Sy
open Go.RowKit

section
variable {P : Program} {T : Tab} {X : Ctx P T} {n : Nat} {e : Env} {st : St} {a : Act} {w : World} {ops : Array Oper} {K : St → Prop}

end
end Go.Sy

/- The symbolic walk, part 58: the length of a slice whose header is a value. -/
set_option linter.unusedSimpArgs false
set_option linter.unusedVariables false
namespace Go.Sy
open Go.RowKit

section
variable {P : Program} {T : Tab} {X : Ctx P T} {n : Nat} {e : Env} {st : St} {a : Act} {w : World} {ops : Array Oper} {K : St → Prop}

theorem X_lenV (q : Nat) {p : Pl} {t tt el sz0 b0 : Nat} {ag0 : Bool} {z0 : List Value} {x : Operand} {h : Value} {m esz : Nat} {row : Nat → List AV} {d : Option Nat} {ty : TypeId} {pos : String} {aft : Array Edge} {gd : Option (Nat × Bool)} {j : Nat} {Si : List (Nat × AV)} {c cr : List Ch}
    (hT : T t = some ⟨sz0, b0, ag0, z0, .slice el⟩) (hg : guardA ops ⟨Si, c⟩ ⟨d, .call ⟨.builtin .len, #[x], #[t]⟩, ty, pos, aft, gd⟩ = some true) (hx : opd Si x = some (.v h)) (hp : nthA q c = some (vecA h tt esz m row, cr)) (hd : dstOK n d = true) :
    StepX X n ops p Si c c j ⟨d, .call ⟨.builtin .len, #[x], #[t]⟩, ty, pos, aft, gd⟩ (I64 (m : Nat)) :=
  StepX.val hg hd (fun e a w S r r' => by
    obtain ⟨⟨xs, g1, g2⟩, _⟩ := r.heap.nth hp
    have hh : ∃ aa cc, h = .slice aa m cc := by
      rcases g1.2 with ⟨hnil, hm⟩ | ⟨g, cap, cur, hsl, _⟩
      · exact ⟨none, 0, by rw [hnil, hm]⟩
      · exact ⟨_, _, hsl⟩
    obtain ⟨aa, cc, rfl⟩ := hh
    have hs : still T ⟨Si, c⟩ (.call ⟨.builtin .len, #[x], #[t]⟩) = some (I64 (m : Nat)) := by
      simp [still, hT, hx]
    obtain ⟨v, h2, h1⟩ := still_sound (o := ⟨d, .call ⟨.builtin .len, #[x], #[t]⟩, ty, pos, aft, gd⟩) r' hs
    exact ⟨v, w, e, h1 w (SameAs.refl w), r, h2⟩)
end
end Go.Sy

/- Contracts of parse: Parse; of desc: Read. -/
set_option linter.unusedSimpArgs false
set_option linter.unusedVariables false
set_option maxRecDepth 100000
namespace Go.Proofs
open Go.Sy Go.Lib

/-! ### The lexer's tokens end by an end -/

/-! ### Parse -/

abbrev outA (h : Value) (out : List Dcl) : Abs := vecA h 60 5 out.length (fun i => Dcl.c (out.getD i default))

end Go.Proofs

/- Rows of a schema: plain law. -/
set_option linter.unusedSimpArgs false
set_option linter.unusedVariables false
set_option maxRecDepth 100000
namespace Go.Proofs
open Go.Sy Go.Lib

end Go.Proofs

/- Contracts of desc: Read, of a text that is one; schemas in whatever state. -/
set_option linter.unusedSimpArgs false
set_option linter.unusedVariables false
set_option maxRecDepth 100000
namespace Go.Proofs
open Go.Sy Go.Lib

/-- One of a family, over the same blocks. -/
def exA {α : Type} (I : α → Prop) (A : α → Abs) (bs : List Nat) (hbs : ∀ q, (A q).bs = bs) : Abs where
  bs := bs
  ok := fun G w => ∃ q, I q ∧ (A q).ok G w
  keep := fun hG hb ⟨q, h1, h2⟩ => ⟨q, h1, (A q).keep hG (by rw [hbs]; exact hb) h2⟩

/-- A schema, raw or ready. -/
def dscS (b : Nat) (l : List Dcl) : Abs := exA (Rdy l) (dsc b l) [b] (fun q => by cases q <;> rfl)

end Go.Proofs

/- What is read without a fault is not great: plain law. -/
set_option linter.unusedSimpArgs false
set_option linter.unusedVariables false
set_option maxRecDepth 100000
namespace Go.Proofs
open Go.Sy Go.Lib

def EndT (ts : List Tok) : Prop := ∀ t ∈ ts, t.kind = 4 → t.text = []

section
variable {ts : List Tok} (hE : EndT ts)

end
end Go.Proofs

/- Two laws that stand in JR4 and JR6 too (a claim's size is bounded). -/
set_option linter.unusedSimpArgs false
set_option linter.unusedVariables false
set_option maxRecDepth 100000
namespace Go.Proofs
open Go.Sy Go.Lib

end Go.Proofs

/- Contracts of desc: fields and declarations that are handed out, owned. -/
set_option linter.unusedSimpArgs false
set_option linter.unusedVariables false
set_option maxRecDepth 100000
namespace Go.Proofs
open Go.Sy Go.Lib

/-- Fields, owned. -/
abbrev fvA (h : Value) (F : List Fld) : Abs := vecA h 65 5 F.length (fun i => Fld.c (F.getD i default))

def isSl (h : Value) : Prop := ∃ a m cc, h = .slice a m cc

/-- A declaration in memory whose fields are owned. -/
abbrev drow (d : Dcl) (h : Value) : List AV := [I64 d.kind, .s d.name, .v h, SL 5 Mth.c d.methods, I64 d.fat]
abbrev hsD (hs : List Value) (i : Nat) : Value := hs.getD i (.slice none 0 0)
abbrev dvA (h : Value) (l : List Dcl) (hs : List Value) (n : Nat) : Abs := vecA h 60 5 n (fun i => drow (l.getD i default) (hsD hs i))

end Go.Proofs

/- Contracts of desc: Decls and Rows, owned. -/
set_option linter.unusedSimpArgs false
set_option linter.unusedVariables false
set_option maxRecDepth 100000
namespace Go.Proofs
open Go.Sy Go.Lib

end Go.Proofs

/- Contracts of desc: fields and declarations of what is owned. -/
set_option linter.unusedSimpArgs false
set_option linter.unusedVariables false
set_option maxRecDepth 100000
namespace Go.Proofs
open Go.Sy Go.Lib

theorem vec_HD {h : Value} {t : TypeId} {esz n : Nat} {row : Nat → List AV} {G : IM} {w : World} (hok : (vecA h t esz n row).ok G w) (hn : 0 < n) : ∃ g cc, h = HD g n cc := by
  obtain ⟨xs, h1, h2⟩ := hok
  rcases h1.2 with ⟨rfl, hm⟩ | ⟨g, cap, cur, hsl, _⟩
  · omega
  · exact ⟨g, cap, hsl⟩

end Go.Proofs

/- The symbolic walk, part 60: a law's row by a contract that knows a library's variable. -/
set_option linter.unusedSimpArgs false
set_option linter.unusedVariables false
namespace Go.Sy
open Go.RowKit Go.WideShapes Go.ChangeShapes

end Go.Sy

/- The symbolic walk, part 61: owned memory lent to a callee that only reads. -/
set_option linter.unusedSimpArgs false
set_option linter.unusedVariables false
namespace Go.Sy
open Go.RowKit Go.WideShapes Go.ChangeShapes

end Go.Sy

/- Contracts of desc: Of, of declarations that are owned. -/
set_option linter.unusedSimpArgs false
set_option linter.unusedVariables false
set_option maxRecDepth 100000
namespace Go.Proofs
open Go.Sy Go.Lib

end Go.Proofs

/- The symbolic walk, part 62: structs of numbers and texts compared. -/
set_option linter.unusedSimpArgs false
set_option linter.unusedVariables false
namespace Go.Sy
open Go.RowKit
section
variable {P : Program} {T : Tab} {X : Ctx P T} {n : Nat} {e : Env} {st : St} {a : Act} {w : World} {ops : Array Oper} {K : St → Prop}

theorem X_aggC {p : Pl} {t : TypeId} {op : BinOp} {x y : Operand} {cs ds : List AV} {us vs : Array Value} {b : Bool} {d : Option Nat} {uy ty : TypeId} {pos : String} {aft : Array Edge} {gd : Option (Nat × Bool)} {j : Nat} {Si : List (Nat × AV)} {c : List Ch}
    (hu : ∀ e (ys : List Value), RepL e cs ys → ys = us.toList) (hv : ∀ e (ys : List Value), RepL e ds ys → ys = vs.toList) (hb : ∀ w, (Op.equalIn 10000 t (.agg us) (.agg vs)).run P w = .ok b w) (hgt : P.eqGuardType P.depth t = false) (hop : op = .eql ∨ op = .neq)
    (hg : guardA ops ⟨Si, c⟩ ⟨d, .binOp op t x y uy, ty, pos, aft, gd⟩ = some true) (hx : opd Si x = some (.agg cs)) (hy : opd Si y = some (.agg ds)) (hd : dstOK n d = true) :
    StepX X n ops p Si c c j ⟨d, .binOp op t x y uy, ty, pos, aft, gd⟩ (B (eqB op b)) :=
  StepX.val hg hd (fun e a w S r r' => by
    have h1 := opd_sound r' hx
    have h2 := opd_sound r' hy
    simp only [Rep] at h1 h2
    obtain ⟨ys, e1, r1⟩ := h1
    obtain ⟨zs, e2, r2⟩ := h2
    have hy1 : ys = us := Array.ext' (hu e _ r1)
    have hz1 : zs = vs := Array.ext' (hv e _ r2)
    subst hy1 hz1
    refine ⟨.bool (eqB op b), w, e, ?_, r, by simp [Rep]⟩
    rcases hop with rfl | rfl
    · simp only [execOp, e1, e2, Sem.run_bind, run_eqGuard_agg w _ _ _ _ _ _ hgt, Result.andThen_ok, run_eql_struct, hb, Sem.run_pure, eqB]
    · simp only [execOp, e1, e2, Sem.run_bind, run_eqGuard_agg w _ _ _ _ _ _ hgt, Result.andThen_ok, run_neq_struct, hb, Sem.run_pure, eqB])
end
end Go.Sy

/- Contracts of desc: Same, of a schema with one that is the same. -/
set_option linter.unusedSimpArgs false
set_option linter.unusedVariables false
set_option maxRecDepth 100000
namespace Go.Proofs
open Go.Sy Go.Lib

end Go.Proofs

/- The law's own example (chapter 13): read, and its rows. -/
set_option linter.unusedSimpArgs false
set_option linter.unusedVariables false
set_option maxRecDepth 100000
namespace Go.Proofs
open Go.Sy Go.Lib

end Go.Proofs

/- Contracts of desc: Read, of any text. -/
set_option linter.unusedSimpArgs false
set_option linter.unusedVariables false
set_option maxRecDepth 100000
namespace Go.Proofs
open Go.Sy Go.Lib

end Go.Proofs

/- The law DescOwn: what is handed out is written into. -/
set_option linter.unusedSimpArgs false
set_option linter.unusedVariables false
set_option maxRecDepth 100000
namespace Go.Proofs
open Go.Sy Go.Lib

end Go.Proofs

/- The law DescOwn. -/
set_option linter.unusedSimpArgs false
set_option linter.unusedVariables false
set_option maxRecDepth 100000
namespace Go.Proofs
open Go.Sy Go.Lib

end Go.Proofs

/- Values: data. -/
set_option linter.unusedSimpArgs false
set_option linter.unusedVariables false
set_option maxRecDepth 100000
namespace Go.Proofs
open Go.Sy Go.Lib

structure Val where
  kind : Int
  num : Int
  text : List UInt8
  tags : List Int
  items : List Val

instance : Inhabited Val := ⟨⟨0, 0, [], [], []⟩⟩
mutual
def Val.cells : Val → List AV
  | ⟨a0, a1, a2, a3, a4⟩ => [I64 a0, I64 a1, .s a2, SL 1 INTc a3, .sl a4.length 5 (Val.rows a4)]
def Val.rows : List Val → Nat → List AV
  | [], _ => []
  | x :: _, 0 => Val.cells x
  | _ :: xs, i + 1 => Val.rows xs i
end
def Val.c (x : Val) : List AV := [I64 x.kind, I64 x.num, .s x.text, SL 1 INTc x.tags, .sl x.items.length 5 (Val.rows x.items)]
end Go.Proofs

/- Contracts of the document's values: Size. -/
set_option linter.unusedSimpArgs false
set_option linter.unusedVariables false
set_option maxRecDepth 100000
namespace Go.Proofs
open Go.Sy Go.Lib

end Go.Proofs

/- Contracts of the document's values: Great, Deep. -/
set_option linter.unusedSimpArgs false
set_option linter.unusedVariables false
set_option maxRecDepth 100000
namespace Go.Proofs
open Go.Sy Go.Lib

end Go.Proofs

/- Contracts: the document's Bad (which byte of a text is wrong). -/
set_option linter.unusedSimpArgs false
set_option linter.unusedVariables false
set_option maxRecDepth 100000
namespace Go.Proofs
open Go.Sy Go.Lib

def by_ (l : List UInt8) (i : Nat) : Nat := (l.getD i 0).toNat
theorem by_lt (l : List UInt8) (i : Nat) : by_ l i < 256 := by unfold by_; exact UInt8.toNat_lt _

theorem getD_by (l : List UInt8) (i : Nat) : (l.getD i 0).toNat = by_ l i := rfl

end Go.Proofs
