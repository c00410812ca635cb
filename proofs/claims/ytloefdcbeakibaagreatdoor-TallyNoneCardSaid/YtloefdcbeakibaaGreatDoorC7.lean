/- The symbolic walk, part 74: texts that grow at a known header (strings.Builder's), and that are taken out of there. -/
import Derived.Test.YtloefdcbeakibaaGreatDoorC4
import Derived.Test.YtloefdcbeakibaaGreatDoorC6
import Derived.Lib.AppendStr
import Derived.Lib.UnsafeStr
import Derived.Lib.Builder
import Derived.Test.YtloefdcbeakibaaGreatDoorC5
import Derived.StillTailTactics
import Derived.Shelf.Strings.Builder1
import Derived.Shelf.Strings.Builder2
import Derived.Shelf.Strings.OnBuilder
import Derived.Shelf.Strings.BuilderF
import Derived.Shelf.Strings.Builder2Cap
import Derived.Shelf.Strings.Prefix
import Derived.Shelf.Bits.Mul64
import Derived.Shelf.Strings.Repeat
import Derived.Ground.Names2Prog
import Derived.Shelf.Slices.SearchI
import Derived.Shelf.Small.Strs
import Derived.Shelf.Strings.BuilderK
import Derived.Shelf.Strconv.Itoa0
import Derived.Shelf.Strconv.Itoa1
import Derived.Shelf.LaysM
import Derived.Shelf.Strconv.Itoa2
import Derived.Shelf.Strconv.Itoa3
import Derived.Shelf.Strconv.Itoa4
import Derived.Shelf.Strings.Search1
import Derived.Shelf.Strings.Search2
import Derived.Shelf.Strings.Search3
import Derived.Shelf.Strings.Shaped
import Derived.Shelf.Unicode.DecodeSlow
import Derived.Shelf.Unicode.DecodeAny
import Derived.Shelf.Strings.BuilderCap
import Derived.Test.YtloefdcbeakibaaGreatDoorProg
import Derived.Test.YtloefdcbeakibaaGreatDoorC3
import Derived.Lib.AppendIntMem
import Derived.Lib.ItoaLen
import Derived.Lib.LaidTab
import Derived.HandedShaped
import Derived.Test.YtloefdcbeakibaaGreatDoorC2
set_option linter.unusedSimpArgs false
set_option linter.unusedVariables false
namespace Go.Sy
open Go.RowKit

/-- The bytes at a known header. -/
def bufA (h : Value) (el : TypeId) (l : List UInt8) : Abs where
  bs := h.ownBlock.toList
  ok := fun G w => w.ownsRow 0 el 1 h l.length (Lib.byteCells l)
  keep := fun {G H w w'} hG hb h1 => ownsRow_of_blocks h1 (fun b hbb => hb b (by simp [hbb]))

/-- A header of such bytes: nil while there are none. -/
def HdB (h : Value) (l : List UInt8) : Prop := (h = .slice none 0 0 ∧ l = []) ∨ (l ≠ [] ∧ ∃ g cc, h = HD g l.length cc)

section
variable {P : Program} {T : Tab} {X : Ctx P T} {n : Nat} {e : Env} {st : St} {a : Act} {w : World} {ops : Array Oper} {K : St → Prop}

/-- A pointer again. -/
theorem X_fromUnsafe (q : Nat) {p : Pl} {src dst' u : TypeId} {inf : TypeInfo} (hs : P.underlying src = some .unsafePointer) (hdd : P.underlying dst' = some (.pointer u)) (hu : P.info? u = some inf)
    {x : Operand} {b : Nat} {T' : TypeId} {cells : List AV} {d : Option Nat} {ty : TypeId} {pos : String} {aft : Array Edge} {gd : Option (Nat × Bool)} {j : Nat} {Si : List (Nat × AV)} {c cr : List Ch}
    (hlies : liesAt P P.depth T' (cells.length / P.cellsOf T') 0 u 1 = true)
    (hg : guardA ops ⟨Si, c⟩ ⟨d, .convert src dst' x, ty, pos, aft, gd⟩ = some true) (hx : opd Si x = some (PT b 0)) (hp : nthA q c = some (boxA b T' cells, cr)) (hd : dstOK n d = true) :
    StepX X n ops p Si c c j ⟨d, .convert src dst' x, ty, pos, aft, gd⟩ (PT b 0) :=
  StepX.val hg hd (fun e a w S r r' => by
    have h1 := opd_sound r' hx
    simp only [Rep] at h1
    obtain ⟨arr, h2, h3⟩ := (r.heap.nth hp).1
    have hl : arr.size = cells.length := by have := h3.len; simpa using this
    have hsh : w.shape? b = some (T', arr.size) := by simp [World.shape?, h2]
    refine ⟨.pointer (some ⟨b, 0, none⟩), w, e, ?_, r, by simp only [Rep]⟩
    have := Lib.run_from_unsafe (P := P) w (src := src) (dst := dst') ⟨b, 0, none⟩ hs hdd hu hsh (by rw [hl]; exact hlies)
    simp only [execOp, h1, Sem.run_bind, this, Result.andThen_ok, Sem.run_pure])

/-- abi.NoEscape. -/
theorem X_noEscape {p : Pl} {f : FuncId} {fn : Func} (hf : P.funcs[f]? = some fn) (hname : (fn.name == "runtime.NumGoroutine") = false) (hb : fn.body.isNone = true) (hn : Extern.findNext fn = none)
    (he : Extern.find fn = some Extern.AbiNoEscape.same) {x : Operand} {b o : Nat} {d : Option Nat} {tys : Array TypeId} {ty : TypeId} {pos : String} {aft : Array Edge} {gd : Option (Nat × Bool)} {j : Nat} {Si : List (Nat × AV)} {c : List Ch}
    (hg : guardA ops ⟨Si, c⟩ ⟨d, .call ⟨.value (.func f), #[x], tys⟩, ty, pos, aft, gd⟩ = some true) (hx : opd Si x = some (PT b o)) (hd : dstOK n d = true) :
    StepX X n ops p Si c c j ⟨d, .call ⟨.value (.func f), #[x], tys⟩, ty, pos, aft, gd⟩ (PT b o) :=
  StepX.val hg hd (fun e a w S r r' => by
    have h1 := opd_sound r' hx
    simp only [Rep] at h1
    refine ⟨.pointer (some ⟨b, o, none⟩), w, e, run_ext a.eval rfl w w ?_, r, by simp only [Rep]⟩
    have : (callFunc f #[.pointer (some ⟨b, o, none⟩)]).run P w = .ok (.value (.pointer (some ⟨b, o, none⟩))) w := by
      rw [run_callFunc_extern hf hname hb hn he]
      rfl
    simpa [h1] using this)

theorem append_block_str (t u ty el : Nat) (i : TypeInfo) (ht : P.underlying t = some (.slice el)) (hu : P.underlying u = some .string) (hi : P.info? el = some i) (hz : i.zero = some (.int .u8 0)) (hs1 : i.size = 1) (hby : i.bytes = 1)
    (v : Value) (n : Nat) (xs : List Value) (hown : w.ownsRow 0 el 1 v n xs) (s : ByteArray) (h63 : n + s.size ≤ maxLen) (hbytes : n + s.size ≤ 140737488355328) {v' : Value} {w' : World}
    (hr : (Builtin.append_ #[t, u] ty #[v, .string s]).run P w = .ok v' w') : ∀ b, v'.ownBlock = some b → some b = v.ownBlock ∨ w.heap.size ≤ b := by
  have hsmall : n + s.size ≤ 9223372036854775807 := by simp only [maxLen] at h63; omega
  have hxl : xs.length = n := by simpa using hown.1
  rcases hown.2 with ⟨rfl, rfl⟩ | ⟨g, cap, cur, rfl, hbg, hg, hnc, hcm, hcs, htake⟩
  · by_cases hm : s.size = 0
    · obtain ⟨v2, w2, hr2, h2, h3, h4⟩ := Lib.run_append_own_string (P := P) w 0 t u ty el i ht hu hi hz hs1 hby (.slice none 0 0) 0 xs hown s h63 hbytes (Nat.zero_le _)
      rw [hr2] at hr
      simp only [Result.ok.injEq] at hr
      obtain ⟨rfl, _⟩ := hr
      rw [h4.2 ⟨rfl, hm⟩]
      intro b hb; simp [Value.ownBlock] at hb
    · have hr' := run_append_nil_string (P := P) w t u ty el i (.int .u8 0) ht hu hi hz s (by omega) (by omega) (by rw [hby]; omega)
      rw [hr'] at hr
      simp only [Result.ok.injEq] at hr
      obtain ⟨rfl, _⟩ := hr
      intro b hb; simp [Value.ownBlock] at hb; omega
  · by_cases hroom : n + s.size ≤ cap
    · have hcs' : cur.size = cap := by simpa using hcs
      have hr' := Lib.run_append_room_string (P := P) w t u ty el i ht hu hi hs1 g n cap cur hg s hroom (by omega)
      rw [hr'] at hr
      simp only [Result.ok.injEq] at hr
      obtain ⟨rfl, _⟩ := hr
      intro b hb; exact .inl hb.symm
    · have holds : ∀ (j : Nat) (u : Value), xs[j]? = some u → w.cell? ((⟨g, 0, none⟩ : Addr).add j) = some u := hown.cells (g := g) rfl
      have hr' := Lib.run_append_grow_string (P := P) w t u ty el i (.int .u8 0) ht hu hi hz ⟨g, 0, none⟩ n cap xs (by rw [hs1]; simpa using hxl) holds s (by omega) (by omega) (by rw [hby]; exact growslice_fits (by omega) (by omega))
      rw [hr'] at hr
      simp only [Result.ok.injEq] at hr
      obtain ⟨rfl, _⟩ := hr
      intro b hb; simp [Value.ownBlock] at hb; omega

/-- A text is appended to such bytes. -/
theorem O_appendT (q : Nat) {dst : Nat} {so_ xo : Operand} {t u ty : TypeId} {pos : String} {aft : Array Edge} {rest : List Oper} {s : List (Nat × AV)} {c cr : List Ch} {h : Value} {el : Nat} {l m : List UInt8} {i : TypeInfo}
    (ht : P.underlying t = some (.slice el)) (hu : P.underlying u = some .string) (hi : P.info? el = some i) (hz : i.zero = some (.int .u8 0)) (hs1 : i.size = 1) (hby : i.bytes = 1)
    (hso : opd s so_ = some (.v h)) (hp : nthA q c = some (bufA h el l, cr)) (hxo : opd s xo = some (.s m)) (hd : Nat.blt dst n = true) (hH : HdB h l) (hlen : l.length + m.length ≤ 140737488355328)
    (k : ∀ v', HdB v' (l ++ m) → SymO X n ops rest ⟨(dst, .v v') :: s, .abs (bufA v' el (l ++ m)) :: cr⟩ K) :
    SymO X n ops (⟨some dst, .call ⟨.builtin .append, #[so_, xo], #[t, u]⟩, ty, pos, aft, none⟩ :: rest) ⟨s, c⟩ K := by
  intro e a w Q r hq
  have hso' := opd_sound r hso
  have hx := opd_sound r hxo
  simp only [Rep] at hso' hx
  obtain ⟨g1, hgood, hnd⟩ := r.heap.nth hp
  have g1' : w.ownsRow 0 el 1 h l.length (Lib.byteCells l) := g1
  have hperm : c.Perm ([bufA h el l].map Ch.abs ++ cr) := by simpa using nthA_perm hp
  have hbl : ∀ B : Abs, blocks [B] = B.bs := fun B => by simp [blocks]
  have hsz : (ByteArray.mk m.toArray).size = m.length := Go.Sy.len_S m
  have hml : l.length + (ByteArray.mk m.toArray).size ≤ maxLen := by rw [hsz]; simp only [maxLen]; omega
  obtain ⟨v', w', hr, q2, q3, q4⟩ := Lib.run_append_own_string (P := P) w 0 t u ty el i ht hu hi hz hs1 hby h l.length (Lib.byteCells l) g1' ⟨m.toArray⟩ hml (by rw [hsz]; exact hlen) (Nat.zero_le _)
  have hblk := append_block_str t u ty el i ht hu hi hz hs1 hby h l.length (Lib.byteCells l) g1' ⟨m.toArray⟩ hml (by rw [hsz]; exact hlen) hr
  have hcells : Lib.byteCells l ++ Lib.strCells ⟨m.toArray⟩ = Lib.byteCells (l ++ m) := by simp [Lib.byteCells, Lib.strCells]
  have hown : w'.ownsRow 0 el 1 v' (l ++ m).length (Lib.byteCells (l ++ m)) := by
    rw [hcells, hsz] at q2
    rw [List.length_append]; exact q2
  have hrun : (execOp a.eval ⟨some dst, .call ⟨.builtin .append, #[so_, xo], #[t, u]⟩, ty, pos, aft, none⟩).run P w = .ok (.value v') w' := by
    simp only [execOp, resolve, invoke, builtin, Sem.run_bind, Sem.run_pure, Result.andThen_ok, List.map_toArray, List.map_cons, List.map_nil, hso', hx]
    simp only [S] at *
    simp only [hr, Result.andThen_ok, Sem.run_pure]
  have hH' : HdB v' (l ++ m) := by
    rcases hown.2 with ⟨h1, h2⟩ | ⟨g, cap, cur, h1, _⟩
    · exact .inl ⟨h1, List.eq_nil_of_length_eq_zero h2⟩
    · by_cases hne : l ++ m = []
      · have hl0 : l = [] := (List.append_eq_nil_iff.1 hne).1
        have hm0 : m = [] := (List.append_eq_nil_iff.1 hne).2
        have hn : h = .slice none 0 0 := by
          rcases hH with ⟨h1, _⟩ | ⟨h1, _⟩
          · exact h1
          · exact absurd hl0 h1
        have := q4.2 ⟨hn, by rw [hsz, hm0]; rfl⟩
        rw [h1] at this; cases this
      · exact .inr ⟨hne, g, cap, h1⟩
  unfold wpList
  rw [if_pos (by simp [Region.wanted])]
  refine .inl ?_
  unfold Oper.wp
  rw [hrun]
  have hno : ∀ b, b ∉ (bufA h el l).bs → some b ≠ h.ownBlock := fun b hb he => hb (by simp [bufA, ← he])
  have hin : ∀ b, some b = h.ownBlock → b ∈ (bufA h el l).bs := fun b hb => by simp [bufA, ← hb]
  have hmem : ∀ b ∈ (bufA v' el (l ++ m)).bs, v'.ownBlock = some b := fun b hb => by simpa [bufA] using hb
  have r2 := r.swapAbs (st := ⟨s, c⟩) (As := [bufA h el l]) (As' := [bufA v' el (l ++ m)]) (G' := e.G) (w' := w') hperm (IM.le_refl _) ⟨?_, ?_⟩ ⟨fun b o v h => .inl h, fun b x h => .inl h⟩ ⟨?_, ?_, ?_⟩ ?_ ⟨q3.os, q3.tape, q3.output⟩ q3.size ?_
  · exact k v' hH' _ _ _ Q (r2.put (x := .v v') (v := v') hd (by simp only [Rep])) hq
  · intro b o v hv
    have h1 := r.im b o v hv
    simp only [World.cell?] at h1 ⊢
    rw [q3.block b (r.glt0 _ _ _ hv) (fun he => by rw [(hgood b (hin b he)).2.2.1 o] at hv; cases hv)]
    exact h1
  · exact r.mzKeep (fun b hb hf => q3.block b hb (fun he => hf (hgood b (hin b he)).2.2))
  · intro B hB
    simp only [List.mem_singleton] at hB
    subst hB; exact hown
  · rw [hbl]
    show (v'.ownBlock.toList).Nodup
    cases v'.ownBlock <;> simp
  · intro b hb
    rw [hbl] at hb
    have hb1 := hmem b hb
    refine ⟨(hown.lt b hb1).2, ?_⟩
    rcases hblk b hb1 with h2 | h2
    · exact (hgood b (hin b h2)).2.2
    · exact r.free h2
  · intro b hb
    rw [hbl] at hb ⊢
    rcases hblk b (hmem b hb) with h2 | h2
    · exact .inr (hin b h2)
    · exact .inl h2
  · intro b hb hnin _
    rw [hbl] at hnin
    exact q3.block b hb (fun he => hno b hnin he)

/-- The address of such bytes. -/
theorem X_sliceData (q : Nat) {p : Pl} {x : Operand} {g cc : Nat} {el : TypeId} {l : List UInt8} {t : TypeId} {d : Option Nat} {ty : TypeId} {pos : String} {aft : Array Edge} {gd : Option (Nat × Bool)} {j : Nat} {Si : List (Nat × AV)} {c cr : List Ch}
    (hg : guardA ops ⟨Si, c⟩ ⟨d, .call ⟨.builtin .unsafeSliceData, #[x], #[t]⟩, ty, pos, aft, gd⟩ = some true) (hx : opd Si x = some (.v (HD g l.length cc))) (hp : nthA q c = some (bufA (HD g l.length cc) el l, cr)) (hl : l ≠ []) (hd : dstOK n d = true) :
    StepX X n ops p Si c c j ⟨d, .call ⟨.builtin .unsafeSliceData, #[x], #[t]⟩, ty, pos, aft, gd⟩ (PT g 0) :=
  StepX.val hg hd (fun e a w S r r' => by
    have h1 := opd_sound r' hx
    simp only [Rep] at h1
    have hown : w.ownsRow 0 el 1 (HD g l.length cc) l.length (Lib.byteCells l) := (r.heap.nth hp).1
    have hc : cc ≠ 0 := by
      rcases hown.2 with ⟨h2, h3⟩ | ⟨g2, cap, cur, h2, _, _, h3, _⟩
      · exact absurd (List.eq_nil_of_length_eq_zero h3) hl
      · simp only [HD, Value.slice.injEq] at h2
        obtain ⟨_, _, rfl⟩ := h2
        intro h0
        exact hl (List.eq_nil_of_length_eq_zero (by omega))
    refine ⟨.pointer (some ⟨g, 0, none⟩), w, e, ?_, r, by simp only [Rep]⟩
    have := Lib.run_unsafeSliceData_row (P := P) w #[t] ty ⟨g, 0, none⟩ l.length cc hc
    simp only [execOp, resolve, invoke, builtin, Sem.run_bind, Sem.run_pure, Result.andThen_ok, List.map_toArray, List.map_cons, List.map_nil, h1]
    simp only [HD] at *
    simp only [this, Result.andThen_ok, Sem.run_pure])
theorem X_sliceData0 {p : Pl} {x : Operand} {t : TypeId} {d : Option Nat} {ty : TypeId} {pos : String} {aft : Array Edge} {gd : Option (Nat × Bool)} {j : Nat} {Si : List (Nat × AV)} {c : List Ch}
    (hg : guardA ops ⟨Si, c⟩ ⟨d, .call ⟨.builtin .unsafeSliceData, #[x], #[t]⟩, ty, pos, aft, gd⟩ = some true) (hx : opd Si x = some (.v (.slice none 0 0))) (hd : dstOK n d = true) :
    StepX X n ops p Si c c j ⟨d, .call ⟨.builtin .unsafeSliceData, #[x], #[t]⟩, ty, pos, aft, gd⟩ (.v (.pointer none)) :=
  StepX.val hg hd (fun e a w S r r' => by
    have h1 := opd_sound r' hx
    simp only [Rep] at h1
    refine ⟨.pointer none, w, e, ?_, r, by simp only [Rep]⟩
    have := Lib.run_unsafeSliceData_nil (P := P) w #[t] ty 0 0
    simp only [execOp, resolve, invoke, builtin, Sem.run_bind, Sem.run_pure, Result.andThen_ok, List.map_toArray, List.map_cons, List.map_nil, h1, this])
theorem X_unsafeString0 {p : Pl} {x y : Operand} {t u : TypeId} {d : Option Nat} {ty : TypeId} {pos : String} {aft : Array Edge} {gd : Option (Nat × Bool)} {j : Nat} {Si : List (Nat × AV)} {c : List Ch}
    (hg : guardA ops ⟨Si, c⟩ ⟨d, .call ⟨.builtin .unsafeString, #[x, y], #[t, u]⟩, ty, pos, aft, gd⟩ = some true) (hx : opd Si x = some (.v (.pointer none))) (hy : opd Si y = some (I64 0)) (hd : dstOK n d = true) :
    StepX X n ops p Si c c j ⟨d, .call ⟨.builtin .unsafeString, #[x, y], #[t, u]⟩, ty, pos, aft, gd⟩ (.s []) :=
  StepX.val hg hd (fun e a w S r r' => by
    have h1 := opd_sound r' hx
    have h2 := opd_sound r' hy
    simp only [Rep] at h1 h2
    refine ⟨.string .empty, w, e, ?_, r, by simp only [Rep]; rfl⟩
    have := Lib.run_unsafeString_none (P := P) w t u ty none
    simp only [execOp, resolve, invoke, builtin, Sem.run_bind, Sem.run_pure, Result.andThen_ok, List.map_toArray, List.map_cons, List.map_nil, h1, h2]
    rw [this]; rfl)
/-- Such bytes as a text: they are given up. -/
theorem X_unsafeString (q : Nat) {p : Pl} {x y : Operand} {g cc : Nat} {el : TypeId} {l : List UInt8} {t u : TypeId} {d : Option Nat} {ty : TypeId} {pos : String} {aft : Array Edge} {gd : Option (Nat × Bool)} {j : Nat} {Si : List (Nat × AV)} {c cr : List Ch}
    (ht : P.underlying t = some (.pointer el)) (hc1 : P.cellsOf el = 1)
    (hg : guardA ops ⟨Si, c⟩ ⟨d, .call ⟨.builtin .unsafeString, #[x, y], #[t, u]⟩, ty, pos, aft, gd⟩ = some true) (hx : opd Si x = some (PT g 0)) (hy : opd Si y = some (I64 (l.length : Nat))) (hp : nthA q c = some (bufA (HD g l.length cc) el l, cr)) (hl : l ≠ []) (hd : dstOK n d = true) :
    StepX X n ops p Si c cr j ⟨d, .call ⟨.builtin .unsafeString, #[x, y], #[t, u]⟩, ty, pos, aft, gd⟩ (.s l) :=
  StepX.val hg hd (fun e a w S r r' => by
    have h1 := opd_sound r' hx
    have h2 := opd_sound r' hy
    simp only [Rep] at h1 h2
    obtain ⟨hown0, hgood, hnd⟩ := r.heap.nth hp
    have hown : w.ownsRow 0 el 1 (HD g l.length cc) l.length (Lib.byteCells l) := hown0
    have hperm : c.Perm ([bufA (HD g l.length cc) el l].map Ch.abs ++ cr) := by simpa using nthA_perm hp
    have hbl : ∀ B : Abs, blocks [B] = B.bs := fun B => by simp [blocks]
    have hgin : g ∈ (bufA (HD g l.length cc) el l).bs := by simp [bufA, HD, Value.ownBlock]
    obtain ⟨cap, cur, hg2, hnc, hmax, hcs⟩ : ∃ cap cur, w.heap[g]? = some (.cells cur el (0, 0)) ∧ l.length ≤ cap ∧ cap ≤ maxLen ∧ cur.size = cap := by
      rcases hown.2 with ⟨h3, h4⟩ | ⟨g2, cap, cur, h3, _, h5, h6, h7, h8, _⟩
      · exact absurd (List.eq_nil_of_length_eq_zero h4) hl
      · simp only [HD, Value.slice.injEq, Option.some.injEq, Addr.mk.injEq] at h3
        obtain ⟨⟨rfl, _⟩, _, rfl⟩ := h3
        exact ⟨_, cur, h5, h6, h7, by simpa using h8⟩
    have hcell : ∀ (j : Nat) (x : UInt8), l[j]? = some x → w.cell? ((⟨g, 0, none⟩ : Addr).add j) = some (.int .u8 x.toNat) := fun j x hxj => by
      have := hown.cells (g := g) rfl j (.int .u8 x.toNat) (by simp [Lib.byteCells, hxj])
      exact this
    have hrun := Lib.run_unsafeString_row (P := P) w t u ty el ht hc1 g cur.size (by simp [World.shape?, hg2]) l hl (by omega) (by simp only [maxLen] at hmax; omega) hcell
    have hb : ∀ k, k ≠ g → (w.freeze ⟨g, 0, none⟩ l.length).heap[k]? = w.heap[k]? := fun k hk => by
      unfold World.freeze
      split
      · rfl
      · simp only [Array.getElem?_modify]
        rw [if_neg (by omega)]
    have hos : (w.freeze ⟨g, 0, none⟩ l.length).os = w.os ∧ (w.freeze ⟨g, 0, none⟩ l.length).tape = w.tape ∧ (w.freeze ⟨g, 0, none⟩ l.length).output = w.output := by
      unfold World.freeze
      split <;> exact ⟨rfl, rfl, rfl⟩
    have hsz : w.heap.size ≤ (w.freeze ⟨g, 0, none⟩ l.length).heap.size := by
      unfold World.freeze
      split
      · exact Nat.le_refl _
      · simp
    have hf := hgood g hgin
    refine ⟨.string ⟨l.toArray⟩, w.freeze ⟨g, 0, none⟩ l.length, _, ?_, r.swapAbs (st := ⟨S, c⟩) (As := [bufA (HD g l.length cc) el l]) (As' := []) (G' := e.G) (w' := w.freeze ⟨g, 0, none⟩ l.length) hperm (IM.le_refl _) ⟨?_, ?_⟩ ⟨fun b o v h => .inl h, fun b x h => .inl h⟩ ⟨fun B hB => (by cases hB), List.nodup_nil, fun b hb => (by cases hb)⟩ (fun b hb => (by cases hb)) hos hsz ?_, by simp only [Rep]; rfl⟩
    · simp only [execOp, resolve, invoke, builtin, Sem.run_bind, Sem.run_pure, Result.andThen_ok, List.map_toArray, List.map_cons, List.map_nil, h1, h2]
      rw [hrun]; rfl
    · intro b o v hv
      have h3 := r.im b o v hv
      simp only [World.cell?] at h3 ⊢
      rw [hb b (fun he => by subst he; rw [hf.2.2.1 o] at hv; cases hv)]
      exact h3
    · exact r.mzKeep (fun b _ hfr => hb b (fun he => hfr (by subst he; exact hf.2.2)))
    · intro b hbs hnin _
      rw [hbl] at hnin
      exact hb b (fun he => hnin (by rw [he]; exact hgin)))

theorem run_equal_ptr_same {tp te : TypeId} {j : TypeInfo} (a : Addr) (hp : P.underlying tp = some (.pointer te)) (hte : P.info? te = some j) (w : World) : (Op.equal tp (.pointer (some a)) (.pointer (some a))).run P w = .ok true w := by
  have h : ∀ d : Nat, (Op.equalIn (d + 1) tp (.pointer (some a)) (.pointer (some a))).run P w = .ok true w := fun d => by
    simp [Op.equalIn, run_underlying hp, sizeOf, typeInfo, hte, run_sameAddr_same]
  simpa [Op.equal, Op.maxDepth] using h 9999
/-- A pointer is itself. -/
theorem X_ptrneS {p : Pl} {t el : TypeId} {pi : TypeInfo} {x y : Operand} {b o : Nat} {d : Option Nat} {uy ty : TypeId} {pos : String} {aft : Array Edge} {gd : Option (Nat × Bool)} {j : Nat} {Si : List (Nat × AV)} {c : List Ch} (hm : P.underlying t = some (.pointer el)) (hpi : P.info? el = some pi)
    (hg : guardA ops ⟨Si, c⟩ ⟨d, .binOp .neq t x y uy, ty, pos, aft, gd⟩ = some true) (hx : opd Si x = some (PT b o)) (hy : opd Si y = some (PT b o)) (hd : dstOK n d = true) :
    StepX X n ops p Si c c j ⟨d, .binOp .neq t x y uy, ty, pos, aft, gd⟩ (B false) :=
  X_eq (op := .neq) (u := .pointer (some ⟨b, o, none⟩)) (v := .pointer (some ⟨b, o, none⟩)) (b := true) (.inr rfl) (by intro cs h; cases h) (by intro h; cases h) (fun e a w S r => run_equal_ptr_same ⟨b, o, none⟩ hm hpi w) (fun w => binOp_neq_ptr w) hg hx hy hd

end
end Go.Sy

/- Contracts of strings.Builder at this seat. -/
set_option linter.unusedSimpArgs false
set_option linter.unusedVariables false
set_option maxRecDepth 100000
namespace Go.Proofs
open Go.Sy Go.Lib

/-- A builder, at its block: written yet, or not. -/
def ptrU (b : Nat) (u : Bool) : AV := .v (.pointer (if u then some ⟨b, 0, none⟩ else none))
abbrev bldC (b : Nat) (u : Bool) (h : Value) : Abs := boxA b 80 [ptrU b u, .v h]

theorem copyCheck_A (b : Nat) (u : Bool) (h : Value) : FnA Tryz.prog 47 [PT b 0] [bldC b u h] (fun r cs' => r = .tup [] ∧ cs' = [bldC b true h]) := by
  refine FnA.intro Tryz.tabOK Tryz.wide_ Tryz.func47 rfl (by decide) rfl (fun X => ?_)
  repeat (first | refine sc rfl ?_ | refine so rfl ?_ | refine sb rfl ?_)
  first
    | refine O_loadP 0 (reads_box 0) rfl rfl rfl rfl rfl rfl ?_
    | refine O_loadP 1 (reads_box 0) rfl rfl rfl rfl rfl rfl ?_
    | refine O_loadP 2 (reads_box 0) rfl rfl rfl rfl rfl rfl ?_
    | refine O_loadP 3 (reads_box 0) rfl rfl rfl rfl rfl rfl ?_
    | refine O_loadP 4 (reads_box 0) rfl rfl rfl rfl rfl rfl ?_
  repeat (first | refine sc rfl ?_ | refine so rfl ?_ | refine sb rfl ?_)
  refine O_Xd (X_ptrnil Tryz.underlying77 rfl rfl rfl) ?_
  repeat (first | refine sc rfl ?_ | refine so rfl ?_ | refine sb rfl ?_)
  cases u with
  | false =>
    refine C_true rfl rfl ?_
    repeat (first | refine sc rfl ?_ | refine so rfl ?_ | refine sb rfl ?_)
    refine O_Xd (X_unsafe 0 (v := .pointer none) Tryz.underlying77 Tryz.underlying151 (by kernel_rfl) rfl rfl rfl rfl rfl) ?_
    repeat (first | refine sc rfl ?_ | refine so rfl ?_ | refine sb rfl ?_)
    refine O_Xd (X_noEscape Tryz.func67 (by kernel_rfl) (by kernel_rfl) (by kernel_rfl) (by kernel_rfl) rfl rfl rfl) ?_
    repeat (first | refine sc rfl ?_ | refine so rfl ?_ | refine sb rfl ?_)
    refine O_Xd (X_fromUnsafe 0 Tryz.underlying151 Tryz.underlying77 rfl (by kernel_rfl) rfl rfl rfl rfl) ?_
    repeat (first | refine sc rfl ?_ | refine so rfl ?_ | refine sb rfl ?_)
    first
      | refine O_Xn (X_storeP 0 (writes_box (cells := [ptrU b false, .v h]) (o := 0) (Nat.lt_of_sub_eq_succ rfl)) rfl rfl rfl rfl rfl rfl rfl) ?_
      | refine O_Xn (X_storeP 1 (writes_box (cells := [ptrU b false, .v h]) (o := 0) (Nat.lt_of_sub_eq_succ rfl)) rfl rfl rfl rfl rfl rfl rfl) ?_
      | refine O_Xn (X_storeP 2 (writes_box (cells := [ptrU b false, .v h]) (o := 0) (Nat.lt_of_sub_eq_succ rfl)) rfl rfl rfl rfl rfl rfl rfl) ?_
      | refine O_Xn (X_storeP 3 (writes_box (cells := [ptrU b false, .v h]) (o := 0) (Nat.lt_of_sub_eq_succ rfl)) rfl rfl rfl rfl rfl rfl rfl) ?_
      | refine O_Xn (X_storeP 4 (writes_box (cells := [ptrU b false, .v h]) (o := 0) (Nat.lt_of_sub_eq_succ rfl)) rfl rfl rfl rfl rfl rfl rfl) ?_
    repeat (first | refine sc rfl ?_ | refine so rfl ?_ | refine sb rfl ?_)
    exact ⟨_, [_], _, rfl, pickA_perm (is := [0]) (As := [_]) rfl, rfl, rfl, rfl⟩
  | true =>
    refine C_false rfl rfl ?_
    repeat (first | refine sc rfl ?_ | refine so rfl ?_ | refine sb rfl ?_)
    first
      | refine O_loadP 0 (reads_box 0) rfl rfl rfl rfl rfl rfl ?_
      | refine O_loadP 1 (reads_box 0) rfl rfl rfl rfl rfl rfl ?_
      | refine O_loadP 2 (reads_box 0) rfl rfl rfl rfl rfl rfl ?_
      | refine O_loadP 3 (reads_box 0) rfl rfl rfl rfl rfl rfl ?_
      | refine O_loadP 4 (reads_box 0) rfl rfl rfl rfl rfl rfl ?_
    repeat (first | refine sc rfl ?_ | refine so rfl ?_ | refine sb rfl ?_)
    refine O_Xd (X_ptrneS Tryz.underlying77 rfl rfl rfl rfl rfl) ?_
    repeat (first | refine sc rfl ?_ | refine so rfl ?_ | refine sb rfl ?_)
    refine C_false rfl rfl ?_
    repeat (first | refine sc rfl ?_ | refine so rfl ?_ | refine sb rfl ?_)
    exact ⟨_, [_], _, rfl, pickA_perm (is := [0]) (As := [_]) rfl, rfl, rfl, rfl⟩

/-- What WriteString leaves. -/
def BldP (b : Nat) (l : List UInt8) (cs' : List Abs) : Prop := ∃ h, HdB h l ∧ cs' = [bldC b true h, bufA h 5 l]
theorem WriteString_A (b : Nat) (u : Bool) (h : Value) (l m : List UInt8) (hH : HdB h l) (hlen : l.length + m.length ≤ 140737488355328) :
    FnA Tryz.prog 33 [PT b 0, .s m] [bldC b u h, bufA h 5 l] (fun r cs' => r = .tup [I64 (m.length : Nat), .v .nilIface] ∧ BldP b (l ++ m) cs') := by
  refine FnA.intro Tryz.tabOK Tryz.wide_ Tryz.func33 rfl (by decide) rfl (fun X => ?_)
  repeat (first | refine sc rfl ?_ | refine so rfl ?_ | refine sb rfl ?_)
  refine O_callA [0] (copyCheck_A b u h) (by rfl) (by rfl) (by rfl) (by rfl) (by rfl) ?_
  rintro r cs' ⟨rfl, rfl⟩
  repeat (first | refine sc rfl ?_ | refine so rfl ?_ | refine sb rfl ?_)
  first
    | refine O_loadP 0 (reads_box 1) rfl rfl rfl rfl rfl rfl ?_
    | refine O_loadP 1 (reads_box 1) rfl rfl rfl rfl rfl rfl ?_
    | refine O_loadP 2 (reads_box 1) rfl rfl rfl rfl rfl rfl ?_
    | refine O_loadP 3 (reads_box 1) rfl rfl rfl rfl rfl rfl ?_
    | refine O_loadP 4 (reads_box 1) rfl rfl rfl rfl rfl rfl ?_
  repeat (first | refine sc rfl ?_ | refine so rfl ?_ | refine sb rfl ?_)
  first
    | refine O_appendT 0 Tryz.underlying78 Tryz.underlying9 rfl rfl rfl rfl rfl rfl rfl rfl hH hlen (fun v' hv' => ?_)
    | refine O_appendT 1 Tryz.underlying78 Tryz.underlying9 rfl rfl rfl rfl rfl rfl rfl rfl hH hlen (fun v' hv' => ?_)
  repeat (first | refine sc rfl ?_ | refine so rfl ?_ | refine sb rfl ?_)
  have fin : ∀ v', HdB v' (l ++ m) → BldP b (l ++ m) [bldC b true v', bufA v' 5 (l ++ m)] := fun v' h => ⟨v', h, rfl⟩
  have fv := fin v' hv'
  rcases hv' with ⟨rfl, hl⟩ | ⟨hl, g, cc, rfl⟩
  · skip
    first
      | refine O_Xn (X_storeP 0 (writes_box (cells := [ptrU b true, .v h]) (o := 1) (Nat.lt_of_sub_eq_succ rfl)) rfl rfl rfl rfl rfl rfl rfl) ?_
      | refine O_Xn (X_storeP 1 (writes_box (cells := [ptrU b true, .v h]) (o := 1) (Nat.lt_of_sub_eq_succ rfl)) rfl rfl rfl rfl rfl rfl rfl) ?_
      | refine O_Xn (X_storeP 2 (writes_box (cells := [ptrU b true, .v h]) (o := 1) (Nat.lt_of_sub_eq_succ rfl)) rfl rfl rfl rfl rfl rfl rfl) ?_
      | refine O_Xn (X_storeP 3 (writes_box (cells := [ptrU b true, .v h]) (o := 1) (Nat.lt_of_sub_eq_succ rfl)) rfl rfl rfl rfl rfl rfl rfl) ?_
      | refine O_Xn (X_storeP 4 (writes_box (cells := [ptrU b true, .v h]) (o := 1) (Nat.lt_of_sub_eq_succ rfl)) rfl rfl rfl rfl rfl rfl rfl) ?_
    repeat (first | refine sc rfl ?_ | refine so rfl ?_ | refine sb rfl ?_)
    exact ⟨_, [_, _], _, rfl, .refl _, rfl, rfl, fv⟩
  · skip
    first
      | refine O_Xn (X_storeP 0 (writes_box (cells := [ptrU b true, .v h]) (o := 1) (Nat.lt_of_sub_eq_succ rfl)) rfl rfl rfl rfl rfl rfl rfl) ?_
      | refine O_Xn (X_storeP 1 (writes_box (cells := [ptrU b true, .v h]) (o := 1) (Nat.lt_of_sub_eq_succ rfl)) rfl rfl rfl rfl rfl rfl rfl) ?_
      | refine O_Xn (X_storeP 2 (writes_box (cells := [ptrU b true, .v h]) (o := 1) (Nat.lt_of_sub_eq_succ rfl)) rfl rfl rfl rfl rfl rfl rfl) ?_
      | refine O_Xn (X_storeP 3 (writes_box (cells := [ptrU b true, .v h]) (o := 1) (Nat.lt_of_sub_eq_succ rfl)) rfl rfl rfl rfl rfl rfl rfl) ?_
      | refine O_Xn (X_storeP 4 (writes_box (cells := [ptrU b true, .v h]) (o := 1) (Nat.lt_of_sub_eq_succ rfl)) rfl rfl rfl rfl rfl rfl rfl) ?_
    repeat (first | refine sc rfl ?_ | refine so rfl ?_ | refine sb rfl ?_)
    exact ⟨_, [_, _], _, rfl, .refl _, rfl, rfl, fv⟩

theorem String_A (b : Nat) (u : Bool) (h : Value) (l : List UInt8) (hH : HdB h l) : FnA Tryz.prog 38 [PT b 0] [bldC b u h, bufA h 5 l] (fun r cs' => r = .s l ∧ cs' = []) := by
  refine FnA.intro Tryz.tabOK Tryz.wide_ Tryz.func38 rfl (by decide) rfl (fun X => ?_)
  repeat (first | refine sc rfl ?_ | refine so rfl ?_ | refine sb rfl ?_)
  rcases hH with ⟨rfl, rfl⟩ | ⟨hl, g, cc, rfl⟩
  · refine C_drawT 6 10 rfl (by kernel_rfl) (by kernel_rfl) ?_
    repeat (first | refine sd rfl ?_ | refine sdb rfl ?_ | refine sds rfl ?_)
    refine D_X (.v (.slice none 0 0)) (X_loadP 0 (reads_box 1) rfl rfl rfl rfl rfl rfl) ?_
    repeat (first | refine sd rfl ?_ | refine sdb rfl ?_ | refine sds rfl ?_)
    refine D_X (.v (.pointer none)) (X_sliceData0 rfl rfl rfl) ?_
    repeat (first | refine sd rfl ?_ | refine sdb rfl ?_ | refine sds rfl ?_)
    refine D_X (.v (.slice none 0 0)) (X_loadP 0 (reads_box 1) rfl rfl rfl rfl rfl rfl) ?_
    repeat (first | refine sd rfl ?_ | refine sdb rfl ?_ | refine sds rfl ?_)
    refine O_Xd (X_unsafeString0 rfl rfl rfl rfl) ?_
    repeat (first | refine sc rfl ?_ | refine so rfl ?_ | refine sb rfl ?_)
    exact ⟨_, [], _, rfl, .refl _, rfl, rfl, rfl⟩
  · refine C_drawT 6 10 rfl (by kernel_rfl) (by kernel_rfl) ?_
    repeat (first | refine sd rfl ?_ | refine sdb rfl ?_ | refine sds rfl ?_)
    refine D_X (.v (HD g l.length cc)) (X_loadP 0 (reads_box 1) rfl rfl rfl rfl rfl rfl) ?_
    repeat (first | refine sd rfl ?_ | refine sdb rfl ?_ | refine sds rfl ?_)
    refine D_X (PT g 0) (X_sliceData 1 rfl rfl rfl hl rfl) ?_
    repeat (first | refine sd rfl ?_ | refine sdb rfl ?_ | refine sds rfl ?_)
    refine D_X (.v (HD g l.length cc)) (X_loadP 0 (reads_box 1) rfl rfl rfl rfl rfl rfl) ?_
    repeat (first | refine sd rfl ?_ | refine sdb rfl ?_ | refine sds rfl ?_)
    refine O_Xd (X_unsafeString 1 Tryz.underlying102 (by kernel_rfl) rfl rfl rfl rfl hl rfl) ?_
    repeat (first | refine sc rfl ?_ | refine so rfl ?_ | refine sb rfl ?_)
    exact ⟨_, [], _, rfl, .refl _, rfl, rfl, rfl⟩
end Go.Proofs

/- Contracts of conf: Check. -/
set_option linter.unusedSimpArgs false
set_option linter.unusedVariables false
set_option maxRecDepth 100000
namespace Go.Proofs
open Go.RowKit Go.Shelf

attribute [local go_sem] Oper.semAt_some

end Go.Proofs

/- Contracts of conf: Check, as the walk wants it; Of. -/
set_option linter.unusedSimpArgs false
set_option linter.unusedVariables false
set_option maxRecDepth 100000
namespace Go.Proofs
open Go.RowKit Go.Shelf Go.Sy

attribute [local go_sem] Oper.semAt_some

/-- A contract that was proved by hand, over arguments that are told by memory. -/
theorem FnP.ofHand {P : Program} {f : FuncId} {avs : List AV} {x : AV} (hc : Callable P f)
    (h : ∀ G w cargs, ImOK G w → RepIT G avs cargs → Calls P f cargs.toArray w fun e w' => (∃ v, e = .returned v ∧ ∀ H, RepI H x v) ∧ Below w.heap.size w w') : FnP P f avs (· = x) := by
  refine ⟨hc, fun G w cargs him hr => ?_⟩
  refine (h G w cargs him hr).mono ?_
  rintro e w' ⟨⟨v, rfl, hv⟩, hb⟩
  exact ⟨x, v, G, rfl, rfl, hv G, IM.le_refl _, NewIn.refl _ _, ⟨fun b o u hu => by
    have h1 := him.1 b o u hu
    have h2 := Go.block_lt_of_cell h1
    simp only [World.cell?] at h1 ⊢
    rw [hb.block b h2]
    exact h1, fun b x hx => (him.2 b x hx).keep0 (hb.block b (him.2 b x hx).lt)⟩, .of hb⟩

end Go.Proofs

/- The kit's contracts of library functions at this seat, as its tool lay-plain wrote them; remarks are struck. -/
namespace Go.Proofs
open Go.Shelf

def Tryz.lays156_ren : Go.Shelf.Ren := ⟨fun | 156 => 48 | 165 => 68 | 166 => 33 | 169 => 38 | 240 => 47 | 241 => 94 | 276 => 67 | 277 => 117 | n => n, fun | 31 => 95 | 9 => 9 | 3 => 3 | 4 => 4 | 0 => 0 | 20 => 20 | 72 => 80 | 76 => 83 | 70 => 77 | 37 => 78 | 75 => 82 | 127 => 102 | 164 => 151 | 5 => 5 | 80 => 57 | n => n, fun | n => n⟩
theorem Tryz.lays156 : Go.Proofs.Lays.n156 Tryz.prog Tryz.lays156_ren := {
  mixed := by kernel_rfl
  f156 := Tryz.func48.trans (congrArg some (by kernel_rfl))
  f165 := Tryz.func68.trans (congrArg some (by kernel_rfl))
  f166 := Tryz.func33.trans (congrArg some (by kernel_rfl))
  f169 := Tryz.func38.trans (congrArg some (by kernel_rfl))
  f240 := Tryz.func47.trans (congrArg some (by kernel_rfl))
  f241 := Tryz.func94.trans (congrArg some (by kernel_rfl))
  f276 := Tryz.func67.trans (congrArg some (by kernel_rfl))
  f277 := Tryz.func117.trans (congrArg some (by kernel_rfl))
  t0 := Tryz.underlying0
  a0 := Tryz.isAgg0
  z0 := Tryz.sizeOf0
  v0 := Tryz.zeroValue0
  t3 := Tryz.underlying3
  a3 := Tryz.isAgg3
  z3 := Tryz.sizeOf3
  v3 := Tryz.zeroValue3
  t4 := Tryz.underlying4
  a4 := Tryz.isAgg4
  z4 := Tryz.sizeOf4
  v4 := Tryz.zeroValue4
  t9 := Tryz.underlying9
  a9 := Tryz.isAgg9
  z9 := Tryz.sizeOf9
  v9 := Tryz.zeroValue9
  t20 := Tryz.underlying20
  a20 := Tryz.isAgg20
  z20 := Tryz.sizeOf20
  v20 := Tryz.zeroValue20
  t31 := Tryz.underlying95
  a31 := Tryz.isAgg95
  z31 := Tryz.sizeOf95
  v31 := Tryz.zeroValue95
  t37 := Tryz.underlying78
  a37 := Tryz.isAgg78
  z37 := Tryz.sizeOf78
  v37 := Tryz.zeroValue78
  t70 := Tryz.underlying77
  a70 := Tryz.isAgg77
  z70 := Tryz.sizeOf77
  v70 := Tryz.zeroValue77
  t72 := Tryz.underlying80
  a72 := Tryz.isAgg80
  z72 := Tryz.sizeOf80
  v72 := Tryz.zeroValue80
  t75 := Tryz.underlying82
  a75 := Tryz.isAgg82
  z75 := Tryz.sizeOf82
  v75 := Tryz.zeroValue82
  t76 := Tryz.underlying83
  a76 := Tryz.isAgg83
  z76 := Tryz.sizeOf83
  v76 := Tryz.zeroValue83
  t127 := Tryz.underlying102
  a127 := Tryz.isAgg102
  z127 := Tryz.sizeOf102
  v127 := Tryz.zeroValue102
  t164 := Tryz.underlying151
  a164 := Tryz.isAgg151
  z164 := Tryz.sizeOf151
  v164 := Tryz.zeroValue151 }
theorem Tryz.Builder_Extra_156 : Builder.Extra Tryz.prog Tryz.lays156_ren := {
  sizeBuilder := by kernel_rfl
  liesBuilder := by kernel_rfl
  t5 := Tryz.underlying5
  a5 := Tryz.isAgg5
  z5 := Tryz.sizeOf5
  v5 := Tryz.zeroValue5
  infoByte := by kernel_rfl
  cellsByte := by kernel_rfl
  sizeByte := by kernel_rfl
  neB5 := by decide }
open Go.RowKit in
theorem Tryz.strings_Join (bk o c : Nat) (xs : List ByteArray) (sep : ByteArray) (w : World) (hcells : ∀ (j : Nat) x, xs[j]? = some x → w.cell? ⟨bk, o + j, none⟩ = some (.string x)) (hbk : bk < w.heap.size) (hN : xs.length ≤ 140737488355328) (hcap : xs.length ≤ c) (hlen : (Lib.join (xs.map (·.data.toList)) sep.data.toList).length ≤ 140737488355328) :
    Calls Tryz.prog 48 #[.slice (some ⟨bk, o, none⟩) xs.length c, .string sep] w fun e w' => e = .returned (.string ⟨(Lib.join (xs.map (·.data.toList)) sep.data.toList).toArray⟩) ∧ Below w.heap.size w w' := Any.strings_Join Tryz.lays156 Tryz.Builder_Extra_156 bk o c xs sep w hcells hbk hN hcap hlen

def Tryz.laysM246_ren : Go.Shelf.Ren := ⟨fun | 246 => 69 | 283 => 95 | 284 => 96 | 285 => 97 | 286 => 98 | 129 => 119 | 317 => 118 | 318 => 120 | 319 => 121 | 320 => 122 | 337 => 141 | 338 => 142 | n => n, fun | 2 => 2 | 3 => 3 | 9 => 9 | 4 => 4 | 171 => 193 | 0 => 0 | 53 => 62 | 37 => 78 | 5 => 5 | 173 => 196 | 212 => 219 | 51 => 220 | 20 => 20 | 213 => 221 | 46 => 174 | 232 => 319 | 233 => 320 | n => n, fun | 17 => 0 | 18 => 2 | 19 => 3 | n => n⟩
theorem Tryz.laysM246 : Go.Proofs.LaysM.n246 Tryz.prog Tryz.laysM246_ren := {
  mixed := by kernel_rfl
  f129 := Tryz.func119.trans (congrArg some (by kernel_rfl))
  f246 := Tryz.func69.trans (congrArg some (by kernel_rfl))
  f283 := Tryz.func95.trans (congrArg some (by kernel_rfl))
  f284 := Tryz.func96.trans (congrArg some (by kernel_rfl))
  f285 := Tryz.func97.trans (congrArg some (by kernel_rfl))
  f286 := Tryz.func98.trans (congrArg some (by kernel_rfl))
  f317 := Tryz.func118.trans (congrArg some (by kernel_rfl))
  f318 := Tryz.func120.trans (congrArg some (by kernel_rfl))
  f319 := Tryz.func121.trans (congrArg some (by kernel_rfl))
  f320 := Tryz.func122.trans (congrArg some (by kernel_rfl))
  f337 := Tryz.func141.trans (congrArg some (by kernel_rfl))
  f338 := Tryz.func142.trans (congrArg some (by kernel_rfl))
  t0 := Tryz.underlying0
  a0 := Tryz.isAgg0
  z0 := Tryz.sizeOf0
  v0 := Tryz.zeroValue0
  t2 := Tryz.underlying2
  a2 := Tryz.isAgg2
  z2 := Tryz.sizeOf2
  v2 := Tryz.zeroValue2
  t3 := Tryz.underlying3
  a3 := Tryz.isAgg3
  z3 := Tryz.sizeOf3
  v3 := Tryz.zeroValue3
  t4 := Tryz.underlying4
  a4 := Tryz.isAgg4
  z4 := Tryz.sizeOf4
  v4 := Tryz.zeroValue4
  t5 := Tryz.underlying5
  a5 := Tryz.isAgg5
  z5 := Tryz.sizeOf5
  v5 := Tryz.zeroValue5
  t9 := Tryz.underlying9
  a9 := Tryz.isAgg9
  z9 := Tryz.sizeOf9
  v9 := Tryz.zeroValue9
  t20 := Tryz.underlying20
  a20 := Tryz.isAgg20
  z20 := Tryz.sizeOf20
  v20 := Tryz.zeroValue20
  t37 := Tryz.underlying78
  a37 := Tryz.isAgg78
  z37 := Tryz.sizeOf78
  v37 := Tryz.zeroValue78
  t46 := Tryz.underlying174
  a46 := Tryz.isAgg174
  z46 := Tryz.sizeOf174
  v46 := Tryz.zeroValue174
  t51 := Tryz.underlying220
  a51 := Tryz.isAgg220
  z51 := Tryz.sizeOf220
  v51 := Tryz.zeroValue220
  t53 := Tryz.underlying62
  a53 := Tryz.isAgg62
  z53 := Tryz.sizeOf62
  v53 := Tryz.zeroValue62
  t171 := Tryz.underlying193
  a171 := Tryz.isAgg193
  z171 := Tryz.sizeOf193
  v171 := Tryz.zeroValue193
  t173 := Tryz.underlying196
  a173 := Tryz.isAgg196
  z173 := Tryz.sizeOf196
  v173 := Tryz.zeroValue196
  t212 := Tryz.underlying219
  a212 := Tryz.isAgg219
  z212 := Tryz.sizeOf219
  v212 := Tryz.zeroValue219
  t213 := Tryz.underlying221
  a213 := Tryz.isAgg221
  z213 := Tryz.sizeOf221
  t232 := Tryz.underlying319
  a232 := Tryz.isAgg319
  z232 := Tryz.sizeOf319
  v232 := Tryz.zeroValue319
  t233 := Tryz.underlying320
  a233 := Tryz.isAgg320
  z233 := Tryz.sizeOf320
  v233 := Tryz.zeroValue320
  g17 := by kernel_rfl
  g18 := by kernel_rfl
  g19 := by kernel_rfl
  i0 := by kernel_rfl
  i2 := by kernel_rfl
  i3 := by kernel_rfl
  i4 := by kernel_rfl
  i5 := by kernel_rfl
  i9 := by kernel_rfl
  i20 := by kernel_rfl
  i37 := by kernel_rfl
  i46 := by kernel_rfl
  i51 := by kernel_rfl
  i53 := by kernel_rfl
  i171 := by kernel_rfl
  i173 := by kernel_rfl
  i212 := by kernel_rfl
  i232 := by kernel_rfl
  i233 := by kernel_rfl
  m17 := by kernel_rfl
  m18 := by kernel_rfl
  m19 := by kernel_rfl }
open Go.RowKit Go.Sort Go.Lib in
theorem Tryz.internal_strconv_FormatInt_10 (n : Int) (h0 : -9223372036854775808 ≤ n) (h1 : n ≤ 9223372036854775807) (w : World) (htab : Lib.TabIs Tryz.prog w "internal/strconv.uint64pow10" .u64 Lib.pow10Tab) :
    Calls Tryz.prog 69 #[.int .i64 n, .int .i64 10] w fun e w' => e = .returned (.string ⟨(Lib.itoa n).toArray⟩) ∧ ∃ k os, w' = grow (w.drewN k) os := Any.internal_strconv_FormatInt_10 Tryz.laysM246 n h0 h1 w htab

def Tryz.laysM171_ren : Go.Shelf.Ren := ⟨fun | 171 => 37 | 243 => 51 | 246 => 69 | 283 => 95 | 284 => 96 | 285 => 97 | 286 => 98 | 129 => 119 | 317 => 118 | 318 => 120 | 319 => 121 | 320 => 122 | 337 => 141 | 338 => 142 | n => n, fun | 3 => 3 | 9 => 9 | 2 => 2 | 4 => 4 | 171 => 193 | 0 => 0 | 53 => 62 | 37 => 78 | 5 => 5 | 173 => 196 | 212 => 219 | 51 => 220 | 20 => 20 | 213 => 221 | 46 => 174 | 232 => 319 | 233 => 320 | n => n, fun | 17 => 0 | 18 => 2 | 19 => 3 | n => n⟩
theorem Tryz.laysM171 : Go.Proofs.LaysM.n171 Tryz.prog Tryz.laysM171_ren := {
  mixed := by kernel_rfl
  f129 := Tryz.func119.trans (congrArg some (by kernel_rfl))
  f171 := Tryz.func37.trans (congrArg some (by kernel_rfl))
  f243 := Tryz.func51.trans (congrArg some (by kernel_rfl))
  f246 := Tryz.func69.trans (congrArg some (by kernel_rfl))
  f283 := Tryz.func95.trans (congrArg some (by kernel_rfl))
  f284 := Tryz.func96.trans (congrArg some (by kernel_rfl))
  f285 := Tryz.func97.trans (congrArg some (by kernel_rfl))
  f286 := Tryz.func98.trans (congrArg some (by kernel_rfl))
  f317 := Tryz.func118.trans (congrArg some (by kernel_rfl))
  f318 := Tryz.func120.trans (congrArg some (by kernel_rfl))
  f319 := Tryz.func121.trans (congrArg some (by kernel_rfl))
  f320 := Tryz.func122.trans (congrArg some (by kernel_rfl))
  f337 := Tryz.func141.trans (congrArg some (by kernel_rfl))
  f338 := Tryz.func142.trans (congrArg some (by kernel_rfl))
  t0 := Tryz.underlying0
  a0 := Tryz.isAgg0
  z0 := Tryz.sizeOf0
  v0 := Tryz.zeroValue0
  t2 := Tryz.underlying2
  a2 := Tryz.isAgg2
  z2 := Tryz.sizeOf2
  v2 := Tryz.zeroValue2
  t3 := Tryz.underlying3
  a3 := Tryz.isAgg3
  z3 := Tryz.sizeOf3
  v3 := Tryz.zeroValue3
  t4 := Tryz.underlying4
  a4 := Tryz.isAgg4
  z4 := Tryz.sizeOf4
  v4 := Tryz.zeroValue4
  t5 := Tryz.underlying5
  a5 := Tryz.isAgg5
  z5 := Tryz.sizeOf5
  v5 := Tryz.zeroValue5
  t9 := Tryz.underlying9
  a9 := Tryz.isAgg9
  z9 := Tryz.sizeOf9
  v9 := Tryz.zeroValue9
  t20 := Tryz.underlying20
  a20 := Tryz.isAgg20
  z20 := Tryz.sizeOf20
  v20 := Tryz.zeroValue20
  t37 := Tryz.underlying78
  a37 := Tryz.isAgg78
  z37 := Tryz.sizeOf78
  v37 := Tryz.zeroValue78
  t46 := Tryz.underlying174
  a46 := Tryz.isAgg174
  z46 := Tryz.sizeOf174
  v46 := Tryz.zeroValue174
  t51 := Tryz.underlying220
  a51 := Tryz.isAgg220
  z51 := Tryz.sizeOf220
  v51 := Tryz.zeroValue220
  t53 := Tryz.underlying62
  a53 := Tryz.isAgg62
  z53 := Tryz.sizeOf62
  v53 := Tryz.zeroValue62
  t171 := Tryz.underlying193
  a171 := Tryz.isAgg193
  z171 := Tryz.sizeOf193
  v171 := Tryz.zeroValue193
  t173 := Tryz.underlying196
  a173 := Tryz.isAgg196
  z173 := Tryz.sizeOf196
  v173 := Tryz.zeroValue196
  t212 := Tryz.underlying219
  a212 := Tryz.isAgg219
  z212 := Tryz.sizeOf219
  v212 := Tryz.zeroValue219
  t213 := Tryz.underlying221
  a213 := Tryz.isAgg221
  z213 := Tryz.sizeOf221
  t232 := Tryz.underlying319
  a232 := Tryz.isAgg319
  z232 := Tryz.sizeOf319
  v232 := Tryz.zeroValue319
  t233 := Tryz.underlying320
  a233 := Tryz.isAgg320
  z233 := Tryz.sizeOf320
  v233 := Tryz.zeroValue320
  g17 := by kernel_rfl
  g18 := by kernel_rfl
  g19 := by kernel_rfl
  i0 := by kernel_rfl
  i2 := by kernel_rfl
  i3 := by kernel_rfl
  i4 := by kernel_rfl
  i5 := by kernel_rfl
  i9 := by kernel_rfl
  i20 := by kernel_rfl
  i37 := by kernel_rfl
  i46 := by kernel_rfl
  i51 := by kernel_rfl
  i53 := by kernel_rfl
  i171 := by kernel_rfl
  i173 := by kernel_rfl
  i212 := by kernel_rfl
  i232 := by kernel_rfl
  i233 := by kernel_rfl
  m17 := by kernel_rfl
  m18 := by kernel_rfl
  m19 := by kernel_rfl }
open Go.RowKit Go.Sort Go.Lib in
theorem Tryz.strconv_Itoa (n : Int) (h0 : -9223372036854775808 ≤ n) (h1 : n ≤ 9223372036854775807) (w : World) (htab : Lib.TabIs Tryz.prog w "internal/strconv.uint64pow10" .u64 Lib.pow10Tab) :
    Calls Tryz.prog 37 #[.int .i64 n] w fun e w' => e = .returned (.string ⟨(Lib.itoa n).toArray⟩) ∧ ∃ k os, w' = grow (w.drewN k) os := Any.strconv_Itoa Tryz.laysM171 n h0 h1 w htab

end Go.Proofs

/- Replies' bytes. -/
set_option linter.unusedSimpArgs false
set_option linter.unusedVariables false
set_option maxRecDepth 100000
namespace Go.Proofs
open Go.Sy Go.Lib

def hd2 (n : Int) : List UInt8 := [UInt8.ofNat (IntKind.u8.wrap (n / 256)).toNat, UInt8.ofNat (IntKind.u8.wrap n).toNat]

abbrev row3 (x y z : List UInt8) : AV := .sl 3 1 (chunkRow 1 [.s x, .s y, .s z])
end Go.Proofs

/- The symbolic walk, part 79: contracts that know what a block holds that nobody changes (a table of a library). -/
set_option linter.unusedSimpArgs false
set_option linter.unusedVariables false
namespace Go.Sy
open Go.RowKit Go.WideShapes Go.ChangeShapes

/-- As FnA, where block g holds these cells. -/
def FnW (g : Nat) (tab : Array Value) (tt : TypeId) (P : Program) (f : FuncId) (args : List AV) (cs : List Abs) (post : AV → List Abs → Prop) : Prop :=
  Callable P f ∧ ∀ (G : IM) (w : World) (cargs : List Value), w.heap[g]? = some (.cells tab tt (0, 0)) → g ∉ blocks cs → G.still g → ImOK G w → RepIT G args cargs → AbsOK G w cs →
    Calls P f cargs.toArray w fun en w' => ∃ r cr cs' G', post r cs' ∧ en = .returned cr ∧ RepI G' r cr ∧ IM.le G G' ∧
      NewAt G G' w.heap.size (blocks cs) ∧ ImOK G' w' ∧ AbsOK G' w' cs' ∧
      (∀ b ∈ blocks cs', w.heap.size ≤ b ∨ b ∈ blocks cs) ∧
      w'.os = w.os ∧ w'.tape = w.tape ∧ w'.output = w.output ∧ w.heap.size ≤ w'.heap.size ∧ ∀ k, k < w.heap.size → k ∉ blocks cs → G.still k → w'.heap[k]? = w.heap[k]?

section
variable {g : Nat} {tab : Array Value} {tt : TypeId} {P : Program} {T : Tab}

theorem FnW.mono {f : FuncId} {args : List AV} {cs : List Abs} {p q : AV → List Abs → Prop} (h : FnW g tab tt P f args cs p) (hpq : ∀ r c, p r c → q r c) : FnW g tab tt P f args cs q :=
  ⟨h.1, fun G w c a1 a2 a3 h1 h2 h3 => (h.2 G w c a1 a2 a3 h1 h2 h3).mono fun e w' ⟨r, cr, cs', G', k, rest⟩ => ⟨r, cr, cs', G', hpq r cs' k, rest⟩⟩

/-- What a walk knows of the block. -/
structure KnowsB (X : Ctx P T) (g : Nat) (tab : Array Value) (tt : TypeId) : Prop where
  blk : X.w0.heap[g]? = some (.cells tab tt (0, 0))
  out : g ∉ X.bs
  still : X.G0.still g

theorem FnW.intro (ok : TabOK P T) (wide : P.follows .mixedOrders = true) {f : FuncId} {fn : Func} {c : Code} {args : List AV} {cs : List Abs} {post : AV → List Abs → Prop} (hf : P.funcs[f]? = some fn) (hb : fn.body = some c)
    (hn : (fn.name == "runtime.NumGoroutine") = false) (hargs : Nat.ble args.length fn.ntmps = true)
    (h : ∀ X : Ctx P T, KnowsB X g tab tt → SymC X fn.ntmps c ⟨enumA 0 args, cs.map Ch.abs⟩ (EndsX T fn.results post)) : FnW g tab tt P f args cs post := by
  refine ⟨⟨fn, hf, by simp [hb], hn⟩, ?_⟩
  intro G w cargs hblk hout hstill him hrep hcs
  have hargs := Nat.le_of_ble_eq_true hargs
  refine calls_of_wp hf hb ?_
  let X : Ctx P T := ⟨ok, wide, w, G, blocks cs, fun _ => 0, fun _ _ _ => False, []⟩
  let e : Env := ⟨G, fun _ => 0, fun _ => undef⟩
  have hheap : HeapOK X e w (cs.map Ch.abs) := by
    refine ⟨cs.map (fun A => (Ch.abs A, A.bs)), by simp [Function.comp_def], ?_, by rw [flat_abs]; exact hcs.2.1, ?_⟩
    · intro p hp
      obtain ⟨A, hA, rfl⟩ := List.mem_map.1 hp
      exact ⟨rfl, hcs.1 A hA⟩
    · rw [flat_abs]
      intro b hb
      exact ⟨(hcs.2.2 b hb).1, .inr hb, (hcs.2.2 b hb).2⟩
  have r : Rel X fn.ntmps e ⟨enumA 0 args, cs.map Ch.abs⟩ { tmps := cargs.toArray ++ Array.replicate (fn.ntmps - cargs.toArray.size) undef, defers := [] } w :=
    Rel.enter rfl rfl him (RepIT.toRep (e := e) args hrep) hargs hheap rfl
  refine Code.wp_mono (fun ex a' w' hc => ?_) (h X ⟨hblk, hout, hstill⟩ e _ w r)
  have fin : ∀ (e' : Env) (st' : St), Rel X fn.ntmps e' st' a' w' → (∃ r cs rest, resA T st' fn.results.toList = some r ∧ st'.c.Perm (cs.map Ch.abs ++ rest) ∧ r.imm = true ∧ post r cs) →
      a'.defers = [] ∧ ∃ v, (results fn a'.tmps).run P w' = .ok v w' ∧ (∃ r cr cs' G', post r cs' ∧ Ending.returned v = .returned cr ∧ RepI G' r cr ∧ IM.le G G' ∧
      NewAt G G' w.heap.size (blocks cs) ∧ ImOK G' w' ∧ AbsOK G' w' cs' ∧
      (∀ b ∈ blocks cs', w.heap.size ≤ b ∨ b ∈ blocks cs) ∧
      w'.os = w.os ∧ w'.tape = w.tape ∧ w'.output = w.output ∧ w.heap.size ≤ w'.heap.size ∧ ∀ k, k < w.heap.size → k ∉ blocks cs → G.still k → w'.heap[k]? = w.heap[k]?) := by
    intro e' st' hr ⟨x, cs', rest, h1, hk, h2, h3⟩
    obtain ⟨v, h5, h6⟩ := resA_sound hr h1
    obtain ⟨q1, q2⟩ := (hr.heap.perm hk).absOK
    refine ⟨hr.defers, v, h5, x, v, cs', e'.G, h3, rfl, Rep.toI x h2 h6, hr.le, ⟨hr.new, hr.newm⟩, ⟨hr.im, hr.mz⟩, q1, q2, hr.os, hr.tape, hr.output, hr.sz, fun k hk hnin hs => hr.keep k hk hnin hs⟩
  cases ex with
  | normal => obtain ⟨e', st', h1, h2⟩ := hc; exact fin e' st' h1 h2
  | ret => obtain ⟨e', st', h1, h2⟩ := hc; exact fin e' st' h1 h2
  | exit id => obtain ⟨e', st', h1, h2⟩ := hc; exact h2.elim
  | goto l => obtain ⟨e', st', h1, h2⟩ := hc; exact h2.elim
  | panic ch => exact hc.2.elim
  | outgrown => exact hc.elim

variable {X : Ctx P T} {n : Nat} {ops : Array Oper} {K : St → Prop}

/-- At any time the block is as it was. -/
theorem KnowsB.now (hK : KnowsB X g tab tt) {e : Env} {st : St} {a : Act} {w : World} (r : Rel X n e st a w) : w.heap[g]? = some (.cells tab tt (0, 0)) ∧ e.G.still g := by
  have hlt : g < X.w0.heap.size := (Array.getElem?_eq_some_iff.1 hK.blk).1
  refine ⟨by rw [r.keep g hlt hK.out hK.still]; exact hK.blk, fun L hL => ?_⟩
  rcases r.newm g _ hL with h | h | h
  · exact hK.still L h
  · omega
  · exact hK.out h

/-- A call of such a function. -/
theorem O_callW (hK : KnowsB X g tab tt) (is : List Nat) {f : FuncId} {dst : Nat} {args : Array Operand} {tys : Array TypeId} {ty : TypeId} {pos : String} {aft : Array Edge} {gd : Option (Nat × Bool)} {rest : List Oper} {avs : List AV} {cs : List Abs} {cr : List Ch} {post : AV → List Abs → Prop}
    {s : List (Nat × AV)} {c : List Ch} (hf : FnW g tab tt P f avs cs post) (hg : guardA ops ⟨s, c⟩ ⟨some dst, .call ⟨.value (.func f), args, tys⟩, ty, pos, aft, gd⟩ = some true) (ha : opds s args.toList = some avs) (himm : AV.imm.immL avs = true)
    (hp : pickA is c = some (cs, cr)) (hd : Nat.blt dst n = true)
    (k : ∀ r cs', post r cs' → SymO X n ops rest ⟨(dst, r) :: s, cs'.map Ch.abs ++ cr⟩ K) :
    SymO X n ops (⟨some dst, .call ⟨.value (.func f), args, tys⟩, ty, pos, aft, gd⟩ :: rest) ⟨s, c⟩ K := by
  intro e a w Q r hq
  unfold wpList
  rw [if_pos (guardA_sound r hg)]
  refine .inl ?_
  unfold Oper.wp
  rw [run_call hf.1 a.eval rfl w, Oper.upon_enter]
  have h1 := RepT.toI avs himm (opds_sound r ha)
  rw [map_eval]
  obtain ⟨n1, n2⟩ := hK.now r
  have hd2 := (r.heap.perm (pickA_perm hp)).absOK
  have hout : g ∉ blocks cs := fun hin => by
    have hlt : g < X.w0.heap.size := (Array.getElem?_eq_some_iff.1 hK.blk).1
    rcases hd2.2 g hin with h | h
    · omega
    · exact hK.out h
  refine (hf.2 e.G w _ n1 hout n2 ⟨r.im, r.mz⟩ h1 hd2.1).mono ?_
  rintro en w' ⟨rv, cv, cs', G', hpost, rfl, g1, g2, g3, g4, g5, g6, o1, o2, o3, o4, o5⟩
  have r' := r.swapAbs (st := ⟨s, c⟩) (pickA_perm hp) g2 g4 g3 g5 g6 ⟨o1, o2, o3⟩ o4 o5
  exact k rv cs' hpost _ _ w' Q (r'.put (x := rv) (v := cv) hd (RepI.toRep (e := ⟨G', e.μ, e.hd⟩) rv g1)) hq
end

/-- A contract of numbers and texts that was proved elsewhere. -/
theorem FnW.ofCalls {g : Nat} {tab : Array Value} {tt : TypeId} {P : Program} {f : FuncId} {avs : List AV} {vs : List Value} {x : AV} {v : Value} (hc : Callable P f) (ha : ∀ G cargs, RepIT G avs cargs → cargs = vs) (hxi : ∀ G, RepI G x v)
    (h : ∀ w : World, w.heap[g]? = some (.cells tab tt (0, 0)) → Calls P f vs.toArray w fun e w' => e = .returned v ∧ Below w.heap.size w w') : FnW g tab tt P f avs [] (fun r cs' => r = x ∧ cs' = []) := by
  refine ⟨hc, fun G w cargs hb _ _ him hr _ => ?_⟩
  rw [ha G cargs hr]
  refine (h w hb).mono ?_
  rintro e w' ⟨rfl, hbl⟩
  have hblk : ∀ b, b < w.heap.size → w'.heap[b]? = w.heap[b]? := fun b h => hbl.block b h
  refine ⟨x, v, [], G, ⟨rfl, rfl⟩, rfl, hxi G, IM.le_refl _, NewAt.of _ (NewIn.refl _ _), ⟨fun b o u hu => ?_, fun b y hy => (him.2 b y hy).keep0 (hblk b (him.2 b y hy).lt)⟩, ⟨by simp, by simp [blocks], by simp [blocks]⟩, by simp [blocks], hbl.os, hbl.tape, hbl.output, hbl.size, fun k hk _ _ => hblk k hk⟩
  have h1 := him.1 b o u hu
  have h2 := Go.block_lt_of_cell h1
  simp only [World.cell?] at h1 ⊢
  rw [hblk b h2]
  exact h1

/-- At the whole memory known. -/
theorem FnW.law0 {g : Nat} {tab : Array Value} {tt : TypeId} {P : Program} {f : FuncId} {avs : List AV} {post : AV → List Abs → Prop} (h : FnW g tab tt P f avs [] post) (hp : ∀ r c, post r c → r = B true) {W : World} {args : Array Value}
    (hb : W.heap[g]? = some (.cells tab tt (0, 0))) (hr : RepIT (memG W) avs args.toList) :
    Calls P f args W fun e w' => e = .returned (.bool true) ∧ Below W.heap.size W w' := by
  have h1 := h.2 (memG W) W args.toList hb (by simp [blocks]) (fun L hL => by simp [memG] at hL) (memG_ok W) hr ⟨by simp, by simp [blocks], by simp [blocks]⟩
  rw [Array.toArray_toList] at h1
  refine h1.mono ?_
  rintro e w' ⟨r, cr, cs', G', hpo, rfl, g1, g2, g3, g4, g5, g6, o1, o2, o3, o4, o5⟩
  rw [hp r cs' hpo] at g1
  simp only [RepI] at g1
  refine ⟨by rw [g1], o1, o2, o3, o4, fun k hk => o5 k hk (by simp [blocks]) (fun L hL => by simp [memG] at hL)⟩

/-- What a law's row asks of the call. -/
theorem law_callW {g : Nat} {tab : Array Value} {tt : TypeId} {P : Program} {fn : Func} {f : FuncId} {s : ChangeSpec} {tb : Nat} {ts : List Nat} {α : Type} {avs : α → List AV} {ok : α → Prop} (W : World) (hblk : W.heap[g]? = some (.cells tab tt (0, 0)))
    (hts : fn.params.toList = ts) (hrt : fn.resultTypes = #[tb]) (htb : P.underlying tb = some .bool) (hvars : s.vars = [])
    (hfn : ∀ (H : Type) (ds : List (DataW H)), ds.length = ts.length → s.fn H ds = { results := [.lit (.bool true)], args := ds })
    (ho : OpensA P ts avs ok) (hl : laidOutB P = true) (hk : ∀ t ∈ ts, P.readableRec t = true ∧ t < P.types.size)
    (hc : ∀ x, ok x → FnW g tab tt P f (avs x) [] (fun r _ => r = B true)) {H : Type} (enc : TypeId × Value → H) :
    ∀ (base : Nat) (args : Array Value) (ds gs : List (DataW H)) (before : List MemPlace),
      (∀ (j : Nat) t v, fn.params[j]? = some t → args[j]? = some v → Value.okWide P W .any base t v) →
      DataW.Whole enc P fn.params.toList s.vars false W args.toList ds gs before →
      Calls P f args W fun e W' => ∃ v, e = .returned v ∧ s.post enc P fn false true false false W args v W' := by
  intro base args ds gs before hval hW
  have hW' := hW
  obtain ⟨p, q, hA, hV, rfl, hfz, hnd⟩ := hW
  rw [hvars] at hV
  obtain ⟨rfl, rfl⟩ := trodVars_none hV
  rw [hts] at hA
  obtain ⟨x, hx, hxr⟩ := ho H enc W base args.toList ds p (fun j t v h1 h2 => hval j t v (by rw [← hts] at h1; simpa using h1) (by simpa using h2)) hA
  refine ((hc x hx).law0 (fun r c h => h) hblk hxr).mono fun e W' ⟨he, bel⟩ => ?_
  subst he
  have hlen := trodAll_count hA
  refine ⟨_, rfl, ds, [], p ++ [], [], p, [], hW', ?_, ?_, ?_, bel.frame _, fun h => by cases h⟩
  · rw [List.append_nil, hfn H ds hlen, hrt]
    exact trodAll_mk1 (shut_bool htb _)
  · rw [List.append_nil, hfn H ds hlen, hts]
    exact trodAll_below hl bel hk hA
  · rw [List.append_nil, hfn H ds hlen, hvars]
    rfl
end Go.Sy

/- Lines of what was counted. -/
set_option linter.unusedSimpArgs false
set_option linter.unusedVariables false
set_option maxRecDepth 100000
namespace Go.Proofs
open Go.Sy Go.Lib

noncomputable def powV : Array Value := (Lib.pow10Tab.map fun z => Value.int .u64 z).toArray
abbrev FnK (f : FuncId) (args : List AV) (cs : List Abs) (post : AV → List Abs → Prop) : Prop := FnW 0 powV 219 Tryz.prog f args cs post
theorem powTab {w : World} (h : w.heap[0]? = some (.cells powV 219 (0, 0))) : Lib.TabIs Tryz.prog w "internal/strconv.uint64pow10" .u64 Lib.pow10Tab := by
  unfold Lib.TabIs World.var?
  rw [show Tryz.prog.globalNamed "internal/strconv.uint64pow10" = some 0 by kernel_rfl]
  show (match w.heap[0]? with | some (.cells cs _ _) => some cs | _ => none) = _
  rw [h]
  rfl
theorem fmt10_W (n : Int) (h0 : -9223372036854775808 ≤ n) (h1 : n ≤ 9223372036854775807) : FnK 69 [I64 n, I64 10] [] (fun r cs' => r = .s (Lib.itoa n) ∧ cs' = []) :=
  FnW.ofCalls (vs := [.int .i64 n, .int .i64 10]) (v := S (Lib.itoa n)) ⟨_, Tryz.func69, rfl, by decide⟩ (fun G c h => by
    simp only [RepIT, RepI] at h
    obtain ⟨z, zs, rfl, rfl, z1, zs1, rfl, rfl, rfl⟩ := h
    rfl) (fun G => by simp only [RepI]) (fun w hw => (Tryz.internal_strconv_FormatInt_10 n h0 h1 w (powTab hw)).mono (fun e w' ⟨he, k, os, hg⟩ => ⟨he, by rw [hg]; exact Lib.below_grow _ w (Nat.le_refl _) k os⟩))
theorem itoa_W (n : Int) (h0 : -9223372036854775808 ≤ n) (h1 : n ≤ 9223372036854775807) : FnK 37 [I64 n] [] (fun r cs' => r = .s (Lib.itoa n) ∧ cs' = []) :=
  FnW.ofCalls (vs := [.int .i64 n]) (v := S (Lib.itoa n)) ⟨_, Tryz.func37, rfl, by decide⟩ (fun G c h => by
    simp only [RepIT, RepI] at h
    obtain ⟨z, zs, rfl, rfl, rfl⟩ := h
    rfl) (fun G => by simp only [RepI]) (fun w hw => (Tryz.strconv_Itoa n h0 h1 w (powTab hw)).mono (fun e w' ⟨he, k, os, hg⟩ => ⟨he, by rw [hg]; exact Lib.below_grow _ w (Nat.le_refl _) k os⟩))
theorem format_W (n : Int) (h0 : -9223372036854775808 ≤ n) (h1 : n ≤ 9223372036854775807) : FnK 49 [I64 n, I64 10] [] (fun r cs' => r = .s (Lib.itoa n) ∧ cs' = []) := by
  refine FnW.intro Tryz.tabOK Tryz.wide_ Tryz.func49 rfl (by decide) rfl (fun X hK => ?_)
  repeat (first | refine sc rfl ?_ | refine so rfl ?_ | refine sb rfl ?_)
  refine O_callW hK [] (fmt10_W n h0 h1) (by rfl) (by rfl) (by rfl) (by rfl) (by rfl) ?_
  rintro r' cs' ⟨rfl, rfl⟩
  repeat (first | refine sc rfl ?_ | refine so rfl ?_ | refine sb rfl ?_)
  exact ⟨_, [], _, rfl, pickA_perm (is := []) (As := []) rfl, rfl, rfl, rfl⟩
abbrev WDc (w : List UInt8) : List AV := [.s w]
/-- Words joined. -/
theorem joinW_p (ws : List (List UInt8)) (sep : List UInt8) (h0 : 0 < ws.length) (hn : ws.length ≤ 2) (h : (Lib.join ws sep).length ≤ 140737488355328) : FnP Tryz.prog 48 [SL 1 WDc ws, .s sep] (· = .s (Lib.join ws sep)) := by
  refine FnP.ofHand ⟨_, Tryz.func48, rfl, by decide⟩ (fun G w cargs him hr => ?_)
  simp only [RepIT, RepI] at hr
  obtain ⟨v0, zs, rfl, ⟨aa, c, rfl, hc, ha⟩, v1, zs1, rfl, rfl, rfl⟩ := hr
  rcases ha with ha | ⟨b, o, rfl, ha⟩
  · omega
  have hcell : ∀ (j : Nat), j < ws.length → w.cell? ⟨b, o + j, none⟩ = some (S (ws.getD j default)) := by
    intro j hj
    have h1 := ha j hj
    simp only [WDc, CellsAt, RepI] at h1
    obtain ⟨⟨q, q1, q2, _⟩, _⟩ := h1
    have := him.1 b _ q q1
    rw [q2] at this
    rw [Nat.mul_one] at this
    exact this
  have c0 := hcell 0 h0
  have hj := Tryz.strings_Join b o c (ws.map fun x => ⟨x.toArray⟩) ⟨sep.toArray⟩ w (fun j u hu => by
    rw [List.getElem?_map] at hu
    cases hg : ws[j]? with
    | none => rw [hg] at hu; cases hu
    | some x =>
      rw [hg] at hu
      have hjl : j < ws.length := (List.getElem?_eq_some_iff.1 hg).1
      have h2 := hcell j hjl
      rw [List.getD_eq_getElem?_getD, hg] at h2
      simp only [Option.map_some, Option.some.injEq] at hu
      rw [← hu]
      exact h2) (block_lt_of_cell c0) (by rw [List.length_map]; omega) (by rw [List.length_map]; exact hc) (by rw [List.map_map]; simpa [Function.comp_def] using h)
  rw [List.length_map, List.map_map] at hj
  refine (show Calls Tryz.prog 48 _ w _ from hj).mono ?_
  rintro e w' ⟨rfl, hb⟩
  exact ⟨⟨_, rfl, fun H => by simp [RepI, S, Function.comp_def]⟩, hb⟩
def lineF (n : Int) (w : List UInt8) : List UInt8 := if n = 0 then [] else w ++ [32] ++ Lib.itoa n ++ [10]
theorem lineF_len {n : Int} {w : List UInt8} (h0 : -9223372036854775808 ≤ n) (h1 : n ≤ 9223372036854775807) : (lineF n w).length ≤ w.length + 24 := by
  have := Lib.itoa_length_le n h0 h1
  unfold lineF
  split
  · simp
  · simp only [List.length_append, List.length_cons, List.length_nil]; omega
theorem line_W (n : Int) (h0 : -9223372036854775808 ≤ n) (h1 : n ≤ 9223372036854775807) (ws : List (List UInt8)) (hw0 : 0 < ws.length) (hwn : ws.length ≤ 2) (hl : (Lib.join ws [32]).length ≤ 1000) :
    FnK 34 [I64 n, SL 1 WDc ws] [] (fun r cs' => r = .s (lineF n (Lib.join ws [32])) ∧ cs' = []) := by
  refine FnW.intro Tryz.tabOK Tryz.wide_ Tryz.func34 rfl (by decide) rfl (fun X hK => ?_)
  have hi := Lib.itoa_length_le n h0 h1
  unfold lineF
  repeat (first | refine sc rfl ?_ | refine so rfl ?_ | refine sb rfl ?_)
  refine C_if rfl (fun m0 => ?_) (fun m0 => ?_) <;> simp only [decide_eq_true_eq, decide_eq_false_iff_not, Bool.not_eq_true', Bool.not_eq_false', beq_iff_eq, beq_eq_false_iff_ne, bne_iff_ne, ne_eq, bne_eq_false_iff_eq, Decidable.not_not] at m0
  · rw [if_pos m0]
    repeat (first | refine sc rfl ?_ | refine so rfl ?_ | refine sb rfl ?_)
    exact ⟨_, [], _, rfl, pickA_perm (is := []) (As := []) rfl, rfl, rfl, rfl⟩
  · rw [if_neg m0]
    repeat (first | refine sc rfl ?_ | refine so rfl ?_ | refine sb rfl ?_)
    refine O_call (joinW_p ws [32] hw0 hwn (by omega)) (by rfl) (by rfl) (by rfl) (by rfl) (fun r hr => ?_)
    subst hr
    repeat (first | refine sc rfl ?_ | refine so rfl ?_ | refine sb rfl ?_)
    refine ⟨by simp only [List.length_append, List.length_cons, List.length_nil, maxLen]; omega, ?_⟩
    repeat (first | refine sc rfl ?_ | refine so rfl ?_ | refine sb rfl ?_)
    refine O_callW hK [] (format_W n h0 h1) (by rfl) (by rfl) (by rfl) (by rfl) (by rfl) ?_
    rintro r' cs' ⟨rfl, rfl⟩
    repeat (first | refine sc rfl ?_ | refine so rfl ?_ | refine sb rfl ?_)
    refine ⟨by simp only [List.length_append, List.length_cons, List.length_nil, maxLen]; omega, ?_⟩
    repeat (first | refine sc rfl ?_ | refine so rfl ?_ | refine sb rfl ?_)
    refine ⟨by simp only [List.length_append, List.length_cons, List.length_nil, maxLen]; omega, ?_⟩
    repeat (first | refine sc rfl ?_ | refine so rfl ?_ | refine sb rfl ?_)
    exact ⟨_, [], _, rfl, pickA_perm (is := []) (As := []) rfl, rfl, rfl, rfl⟩
def wordL (k : Int) : List UInt8 :=
  if k = 1 then [104, 101, 108, 108, 111] else if k = 2 then [99, 97, 108, 108] else if k = 3 then [111, 110, 101, 119, 97, 121] else if k = 4 then [99, 97, 110, 99, 101, 108] else if k = 5 then [112, 105, 110, 103] else if k = 6 then [115, 99, 104, 101, 109, 97] else if k = 7 then [98, 105, 110, 100] else if k = 8 then [97, 100, 109, 105, 110] else [114, 101, 112, 108, 121]
theorem word_c (k : Int) : FnP Tryz.prog 35 [I64 k] (· = .s (wordL k)) := by
  refine FnP.intro Tryz.tabOK Tryz.wide_ Tryz.func35 rfl (by decide) rfl (fun X => ?_)
  unfold wordL
  iterate 8
    repeat (first | refine sc rfl ?_ | refine so rfl ?_ | refine sb rfl ?_)
    refine C_if rfl (fun h => ?_) (fun h => ?_) <;> simp only [decide_eq_true_eq, decide_eq_false_iff_not, Bool.not_eq_true', Bool.not_eq_false', beq_iff_eq, beq_eq_false_iff_ne, bne_iff_ne, ne_eq, bne_eq_false_iff_eq, Decidable.not_not] at h
    · rw [if_pos h]
      repeat (first | refine sc rfl ?_ | refine so rfl ?_ | refine sb rfl ?_)
      exact ⟨_, rfl, rfl, rfl⟩
    rw [if_neg h]
  repeat (first | refine sc rfl ?_ | refine so rfl ?_ | refine sb rfl ?_)
  exact ⟨_, rfl, rfl, rfl⟩
end Go.Proofs

/- Whence a row has its table's block. -/
set_option linter.unusedSimpArgs false
set_option linter.unusedVariables false
set_option maxRecDepth 100000
namespace Go.Proofs
open Go.Sy Go.Lib

theorem laid_mem {P : Program} {W : World} {name : String} {d : DataW Unit} : ∀ {laid : List (String × DataW Unit)} {ps : List MemPlace}, DataW.LaidVars P W laid ps → (name, d) ∈ laid →
    ∃ g t cs fuel p, P.globalNamed name = some g ∧ (P.globals[g]?).map (·.type) = some t ∧ W.var? P name = some cs ∧ DataW.trod (fun _ => ()) P W 0 (fun _ => true) false fuel t cs.toList = some (d, p)
  | [], _, _, h => by cases h
  | (n, e) :: r, ps, ⟨g, t, cs, fuel, p, q, a1, a2, a3, a4, a5, _⟩, h => by
    rcases List.mem_cons.1 h with h | h
    · cases h
      exact ⟨g, t, cs, fuel, p, a1, a2, a3, a4⟩
    · exact laid_mem a5 h
theorem tabIs_mem {P : Program} {W : World} {name : String} {k : IntKind} {zs : List Int} {laid : List (String × DataW Unit)} {g : Nat} {t e : TypeId} {n : Nat}
    (hg : P.globalNamed name = some g) (hty : (P.globals[g]?).map (·.type) = some t) (ht : P.underlying t = some (.array n e)) (he : P.underlying e = some (.int k)) (hce : P.cellsOf e = 1) (hct : P.cellsOf t = n)
    (h : laidMet P laid W) (hm : (name, tabData k zs) ∈ laid) : TabIs P W name k zs := by
  obtain ⟨ps, hl, _⟩ := h
  obtain ⟨g', t', cs, fuel, p, hg', ht', hvar, hd⟩ := laid_mem hl hm
  obtain rfl := Option.some.inj (hg.symm.trans hg')
  obtain rfl := Option.some.inj (hty.symm.trans ht')
  unfold TabIs
  rw [hvar, ← cells_of_tab ht he hce hct hd]
theorem pow_blk {W : World} {laid : List (String × DataW Unit)} (hsh : W.ShapedOpen Tryz.prog) (h : laidMet Tryz.prog laid W) (hm : ("internal/strconv.uint64pow10", tabData .u64 Lib.pow10Tab) ∈ laid) : W.heap[0]? = some (.cells powV 219 (0, 0)) := by
  have hg : Tryz.prog.globalNamed "internal/strconv.uint64pow10" = some 0 := by kernel_rfl
  have ht := tabIs_mem (P := Tryz.prog) (g := 0) (t := 219) (e := 62) (n := 20) hg (by kernel_rfl) Tryz.underlying219 Tryz.underlying62 (by kernel_rfl) (by kernel_rfl) h hm
  obtain ⟨cs, hh, _, _⟩ := hsh.1 0 (Array.replicate 20 (.int .u64 0)) 219 (of_decide_eq_true (by kernel_rfl)) (by kernel_rfl)
  unfold TabIs World.var? at ht
  rw [hg] at ht
  simp only [Option.bind_some, hh] at ht
  rw [hh, Option.some.inj ht]
  rfl
end Go.Proofs

/- Rows and outs are opened. -/
set_option linter.unusedSimpArgs false
set_option linter.unusedVariables false
set_option maxRecDepth 100000
namespace Go.Proofs
open Go.Sy Go.Lib Go.RowKit Go.ChangeShapes Go.WideShapes Go.ChangeAt

theorem opNte : OpensT Tryz.prog 34 Nte.c (fun x => x.body.length ≤ maxLen) :=
  opens_struct (α := Int × Int × Int × List UInt8 × Int × List UInt8 × Unit) (fun p => (⟨p.1, p.2.1, p.2.2.1, p.2.2.2.1, p.2.2.2.2.1, p.2.2.2.2.2.1⟩ : Nte)) Tryz.underlying34 (by kernel_rfl)
    (opensF_cons (sz := 1) rfl (by kernel_rfl) (opens_int Tryz.underlying3) (opensF_cons (sz := 1) rfl (by kernel_rfl) (opens_int Tryz.underlying3) (opensF_cons (sz := 1) rfl (by kernel_rfl) (opens_int Tryz.underlying3)
      (opensF_cons (sz := 1) rfl (by kernel_rfl) (opens_string Tryz.underlying9) (opensF_cons (sz := 1) rfl (by kernel_rfl) (opens_int Tryz.underlying28) (opensF_cons (sz := 1) rfl (by kernel_rfl) (opens_string Tryz.underlying9) opensF_nil)))))) (fun _ => rfl) (fun _ h => h.2.2.2.1)
theorem opRw : OpensT Tryz.prog 36 Rw.c (fun x => x.note.body.length ≤ maxLen) :=
  opens_struct (α := Int × Int × Nte × Unit) (fun p => (⟨p.1, p.2.1, p.2.2.1⟩ : Rw)) Tryz.underlying36 (by kernel_rfl)
    (opensF_cons (sz := 1) rfl (by kernel_rfl) (opens_int Tryz.underlying3) (opensF_cons (sz := 1) rfl (by kernel_rfl) (opens_int Tryz.underlying3) (opensF_cons (sz := 6) rfl (by kernel_rfl) opNte opensF_nil))) (fun _ => rfl) (fun _ h => h.2.2.1)
theorem opOu : OpensT Tryz.prog 39 Ou.c (fun _ => True) :=
  opens_struct (α := Int × Int × List UInt8 × Bool × Unit) (fun p => (⟨p.1, p.2.1, p.2.2.1, p.2.2.2.1⟩ : Ou)) Tryz.underlying39 (by kernel_rfl)
    (opensF_cons (sz := 1) rfl (by kernel_rfl) (opens_int Tryz.underlying3) (opensF_cons (sz := 1) rfl (by kernel_rfl) (opens_int Tryz.underlying3) (opensF_cons (sz := 1) rfl (by kernel_rfl) (opens_string Tryz.underlying9)
      (opensF_cons (sz := 1) rfl (by kernel_rfl) (opens_bool Tryz.underlying4) opensF_nil)))) (fun _ => rfl) (fun _ _ => trivial)
theorem opensN : OpensA Tryz.prog [36, 39, 3] (fun p : Rw × Ou × Int × Unit => [.agg (Rw.c p.1), .agg (Ou.c p.2.1), I64 p.2.2.1]) (fun p => p.1.note.body.length ≤ maxLen ∧ True ∧ (Lit.int .i64 p.2.2.1).wf = true ∧ True) :=
  opensA_cons (opensV_struct Tryz.underlying36 opRw) (opensA_cons (opensV_struct Tryz.underlying39 opOu) (opensA_cons (opensV_int Tryz.underlying3) opensA_nil))
end Go.Proofs
