/- Contracts of conf: Check, as the walk wants it; Of. -/
import Derived.Test.YtekmhpkomhjbpaaGreatDoorE7
import Derived.Test.YtekmhpkomhjbpaaGreatDoorE6
set_option linter.unusedSimpArgs false
set_option linter.unusedVariables false
set_option maxRecDepth 100000
namespace Go.Proofs
open Go.RowKit Go.Shelf Go.Sy

attribute [local go_sem] Oper.semAt_some

/-- A contract that was proved by hand, over arguments that are told by memory. -/
theorem FnP.ofHand {P : Program} {f : FuncId} {avs : List AV} {x : AV} (hc : Callable P f)
    (h : ∀ G w cargs, ImOK G w → RepIT G avs cargs → Calls P f cargs.toArray w fun e w' => (∃ v, e = .returned v ∧ ∀ H, RepI H x v) ∧ Below w.heap.size w w') : FnP P f avs (· = x) := by
  refine ⟨hc, fun G w cargs him hr => ?_⟩
  refine (h G w cargs him hr).mono ?_
  rintro e w' ⟨⟨v, rfl, hv⟩, hb⟩
  exact ⟨x, v, G, rfl, rfl, hv G, IM.le_refl _, NewIn.refl _ _, ⟨fun b o u hu => by
    have h1 := him.1 b o u hu
    have h2 := Go.block_lt_of_cell h1
    simp only [World.cell?] at h1 ⊢
    rw [hb.block b h2]
    exact h1, fun b x hx => (him.2 b x hx).keep0 (hb.block b (him.2 b x hx).lt)⟩, .of hb⟩

theorem confCheck_c (x : Cf) : FnP Tryz.prog 137 [.agg (Cf.c x)] (· = I64 (ckF x)) := by
  refine FnP.ofHand ⟨Tryz.f137, Tryz.func137, by kernel_rfl, by kernel_rfl⟩ (fun G w cargs him hr => ?_)
  simp only [RepIT] at hr
  obtain ⟨z, zs, rfl, h1, rfl⟩ := hr
  simp only [RepI] at h1
  obtain ⟨ys, rfl, h2⟩ := h1
  have h3 : ys.toList = x.vs := RepIL_v (l := x.vs) h2
  have h4 : ys = x.vs.toArray := by rw [← h3]
  subst h4
  refine (confCheck_calls x w).mono ?_
  rintro e w' ⟨rfl, hb⟩
  exact ⟨⟨_, rfl, fun H => by simp only [RepI]⟩, hb⟩

def Cf.ofV (l : Nat → Int) : Cf := ⟨l 0, l 1, l 2, l 3, l 4, l 5, l 6, l 7, l 8⟩
/-- The numbers that have come, the others still nought. -/
def prt (l : Nat → Int) (pre : List (Fin 9)) : List Value := (List.finRange 9).map fun j => .int .i64 (if j ∈ pre then l j.val else 0)
theorem prt_nil (l : Nat → Int) : prt l [] = [.int .i64 0, .int .i64 0, .int .i64 0, .int .i64 0, .int .i64 0, .int .i64 0, .int .i64 0, .int .i64 0, .int .i64 0] := by simp [prt]; rfl
theorem prt_all (l : Nat → Int) : prt l (List.finRange 9) = (Cf.ofV l).vs := by
  simp only [prt, List.mem_finRange, if_true]; rfl
theorem prt_len (l : Nat → Int) (pre : List (Fin 9)) : (prt l pre).length = 9 := by simp [prt]
theorem prt_get (l : Nat → Int) (pre : List (Fin 9)) (i : Fin 9) : (prt l pre)[i.val]? = some (.int .i64 (if i ∈ pre then l i.val else 0)) := by
  simp [prt]
theorem prt_set (l : Nat → Int) (pre : List (Fin 9)) (i : Fin 9) : (prt l pre).set i.val (.int .i64 (l i.val)) = prt l (pre ++ [i]) := by
  apply List.ext_getElem?
  intro j
  rw [List.getElem?_set]
  by_cases hj : j < 9
  · have h1 := prt_get l (pre ++ [i]) ⟨j, hj⟩
    have h2 := prt_get l pre ⟨j, hj⟩
    simp only at h1 h2
    rw [h1]
    by_cases e : i.val = j
    · subst e
      rw [if_pos rfl, if_pos (by rw [prt_len]; exact hj)]
      simp
    · rw [if_neg e, h2]
      have : (⟨j, hj⟩ : Fin 9) ≠ i := fun hh => e (by rw [← hh])
      simp [this]
  · rw [if_neg (by omega), List.getElem?_eq_none (by rw [prt_len]; omega), List.getElem?_eq_none (by rw [prt_len]; omega)]

def confOfV (l : Nat → Int) : Cf × Int := if ckF (Cf.ofV l) = 0 then (Cf.ofV l, 0) else (default, 1)
theorem ntmps136_ : Tryz.f136.ntmps = 26 := by kernel_rfl

theorem set9 {w : World} {b : Nat} {a0 a1 a2 a3 a4 a5 a6 a7 a8 v0 v1 v2 v3 v4 v5 v6 v7 v8 : Value} {t : TypeId} (h : w.heap[b]? = some (.cells #[a0, a1, a2, a3, a4, a5, a6, a7, a8] t (0, 0))) :
    (((((((((w.setCell ⟨b, 0, none⟩ v0).setCell ⟨b, 1, none⟩ v1).setCell ⟨b, 2, none⟩ v2).setCell ⟨b, 3, none⟩ v3).setCell ⟨b, 4, none⟩ v4).setCell ⟨b, 5, none⟩ v5).setCell ⟨b, 6, none⟩ v6).setCell ⟨b, 7, none⟩ v7).setCell ⟨b, 8, none⟩ v8).heap[b]? = some (.cells #[v0, v1, v2, v3, v4, v5, v6, v7, v8] t (0, 0)) := by
  have := setCell_heap (o := 8) (v := v8) (setCell_heap (o := 7) (v := v7) (setCell_heap (o := 6) (v := v6) (setCell_heap (o := 5) (v := v5) (setCell_heap (o := 4) (v := v4) (setCell_heap (o := 3) (v := v3) (setCell_heap (o := 2) (v := v2) (setCell_heap (o := 1) (v := v1) (setCell_heap (o := 0) (v := v0) h))))))))
  simpa using this
theorem set9_other {w : World} {b D : Nat} {v0 v1 v2 v3 v4 v5 v6 v7 v8 : Value} (h : D ≠ b) :
    (((((((((w.setCell ⟨b, 0, none⟩ v0).setCell ⟨b, 1, none⟩ v1).setCell ⟨b, 2, none⟩ v2).setCell ⟨b, 3, none⟩ v3).setCell ⟨b, 4, none⟩ v4).setCell ⟨b, 5, none⟩ v5).setCell ⟨b, 6, none⟩ v6).setCell ⟨b, 7, none⟩ v7).setCell ⟨b, 8, none⟩ v8).heap[D]? = w.heap[D]? := by
  rw [setCell_other h, setCell_other h, setCell_other h, setCell_other h, setCell_other h, setCell_other h, setCell_other h, setCell_other h, setCell_other h]
theorem set9_below {w w0 : World} {b n : Nat} {v0 v1 v2 v3 v4 v5 v6 v7 v8 : Value} (h : Below n w0 w) (hb : n ≤ b) :
    Below n w0 (((((((((w.setCell ⟨b, 0, none⟩ v0).setCell ⟨b, 1, none⟩ v1).setCell ⟨b, 2, none⟩ v2).setCell ⟨b, 3, none⟩ v3).setCell ⟨b, 4, none⟩ v4).setCell ⟨b, 5, none⟩ v5).setCell ⟨b, 6, none⟩ v6).setCell ⟨b, 7, none⟩ v7).setCell ⟨b, 8, none⟩ v8) :=
  ((((((((h.setCell (p := ⟨b, 0, none⟩) hb _).setCell (p := ⟨b, 1, none⟩) hb _).setCell (p := ⟨b, 2, none⟩) hb _).setCell (p := ⟨b, 3, none⟩) hb _).setCell (p := ⟨b, 4, none⟩) hb _).setCell (p := ⟨b, 5, none⟩) hb _).setCell (p := ⟨b, 6, none⟩) hb _).setCell (p := ⟨b, 7, none⟩) hb _).setCell (p := ⟨b, 8, none⟩) hb _
/-- What conf.Of gives back. -/
theorem res233 {W : World} {b : Nat} {x : Cf} {tmps : Array Value} {e : Int} (h9 : W.heap[b + 1]? = some (.cells x.vs.toArray 28 (0, 0))) (h2 : tmps[2]? = some (.pointer (some ⟨b + 1, 0, none⟩))) (h3 : tmps[3]? = some (.int .i64 e)) :
    (results Tryz.f136 tmps).run Tryz.prog W = .ok (.tuple #[.agg x.vs.toArray, .int .i64 e]) W := by
  have c0 := cell_heap (j := 0) h9 rfl
  have c1 := cell_heap (j := 1) h9 rfl
  have c2 := cell_heap (j := 2) h9 rfl
  have c3 := cell_heap (j := 3) h9 rfl
  have c4 := cell_heap (j := 4) h9 rfl
  have c5 := cell_heap (j := 5) h9 rfl
  have c6 := cell_heap (j := 6) h9 rfl
  have c7 := cell_heap (j := 7) h9 rfl
  have c8 := cell_heap (j := 8) h9 rfl
  have hl := load_whole (t := 28) (i := _) rfl h9 (by intro y hy; simp only [Cf.vs, List.mem_cons, List.not_mem_nil, or_false] at hy; rcases hy with rfl | rfl | rfl | rfl | rfl | rfl | rfl | rfl | rfl <;> rfl) rfl
  simp [results, Tryz.f136, go_sem, h2, h3, c0, c1, c2, c3, c4, c5, c6, c7, c8]
  rfl

set_option maxHeartbeats 4000000 in
theorem confOf_calls (l : Nat → Int) (sb so cap : Nat) (w : World) (hs : ∀ j : Fin 9, w.cell? ⟨sb, so + j.val, none⟩ = some (.int .i64 (l j.val))) :
    Calls Tryz.prog 136 #[.slice (some ⟨sb, so, none⟩) 9 cap] w fun e w' => e = .returned (.tuple #[.agg (confOfV l).1.vs.toArray, .int .i64 (confOfV l).2]) ∧ Below w.heap.size w w' := by
  refine (callsIn_wide (n := 6)).1 ?_
  refine callsIn_of_wp_marks Tryz.func136 rfl trivial ?_ rfl
  simp only [ntmps136_, List.size_toArray, List.length_cons, List.length_nil, Nat.reduceAdd, Nat.reduceSub, Array.replicate_succ, Array.replicate_zero, List.push_toArray, List.append_toArray, List.nil_append, List.cons_append]
  have hF : Fence.wide.fn 192 := trivial
  gi_wp2_with (gi_at_call 192; refine (callsIn_wide.2 (places_calls _ _)).mono ?_; rintro e w1 ⟨g, rfl, hg, hga, hb1⟩)
  obtain ⟨b, hb⟩ : ∃ b, w.heap.size = b := ⟨_, rfl⟩
  rw [hb] at hga
  have hs1 : b + 3 ≤ w1.heap.size := by have := hb1.size; simp at this; omega
  have e0 : w1.heap[b]? = some (.cells #[.slice (some ⟨sb, so, none⟩) 9 cap] 76 (0, 0)) := by
    rw [hb1.block b (by simp; omega)]; subst hb
    exact ((Below.heap_alloc _ _ _ (by simp; omega)).trans (Below.heap_alloc _ _ _ (by simp))).trans (World.alloc_heap_new w _)
  have e1 : w1.heap[b + 1]? = some (.cells (prt l []).toArray 28 (0, 0)) := by
    rw [hb1.block (b + 1) (by simp; omega)]; subst hb
    refine (Below.heap_alloc _ _ _ (by simp)).trans ?_
    have := World.alloc_heap_new (w.alloc (.cells #[.slice (some ⟨sb, so, none⟩) 9 cap] 76)) (.cells #[.int .i64 0, .int .i64 0, .int .i64 0, .int .i64 0, .int .i64 0, .int .i64 0, .int .i64 0, .int .i64 0, .int .i64 0] 28)
    rw [World.size_alloc] at this
    rw [prt_nil]
    exact this
  have e2 : w1.heap[b + 2]? = some (.cells (prt l []).toArray 28 (0, 0)) := by
    rw [hb1.block (b + 2) (by simp; omega)]; subst hb
    have := World.alloc_heap_new ((w.alloc (.cells #[.slice (some ⟨sb, so, none⟩) 9 cap] 76)).alloc (.cells #[.int .i64 0, .int .i64 0, .int .i64 0, .int .i64 0, .int .i64 0, .int .i64 0, .int .i64 0, .int .i64 0, .int .i64 0] 28)) (.cells #[.int .i64 0, .int .i64 0, .int .i64 0, .int .i64 0, .int .i64 0, .int .i64 0, .int .i64 0, .int .i64 0, .int .i64 0] 28)
    rw [World.size_alloc, World.size_alloc] at this
    rw [prt_nil]
    exact this
  have hbw : Below b w w1 := by
    subst hb
    exact ((((Below.refl _ w).alloc (Nat.le_refl _) _).alloc (by simp) _).alloc (by simp; omega) _).trans (hb1.mono (by simp; omega))
  have hsb : sb < b := by rw [← hb]; exact Go.block_lt_of_cell (hs ⟨0, by decide⟩)
  simp only [hb]
  refine wpIn_rangeFunc_ownH rfl (by decide : 1 ≤ 6) (gf := 232) (lb := #[.pointer (some ⟨g, 0, none⟩)]) rfl trivial (enters_of Tryz.func232 (by kernel_rfl) rfl) (places_stops Fence.wide 5 trivial rfl (by decide) g (b + 1 + 1) w1 hga) walksK_t walksK_b (Below.refl _ _) (fun _ => rfl)
    (fun pre W => W.heap[b]? = some (.cells #[.slice (some ⟨sb, so, none⟩) 9 cap] 76 (0, 0)) ∧ W.heap[b + 1]? = some (.cells (prt l []).toArray 28 (0, 0)) ∧ W.heap[b + 2]? = some (.cells (prt l pre).toArray 28 (0, 0)) ∧ Below b w W)
    (fun _ _ _ => False)
    ?hI ?hIx ⟨e0, e1, e2, hbw⟩
    (fun (i : Fin 9) a' W => ∃ Bx, W.heap[Bx]? = some (.cells #[.pointer (some ⟨b + 1 + 1, i.val, none⟩), .int .i64 (loP i.val), .int .i64 (hiP i.val)] 331 (0, 0)) ∧
      a' = { tmps := #[.slice (some ⟨sb, so, none⟩) 9 cap, .pointer (some ⟨b, 0, none⟩), .pointer (some ⟨b + 1, 0, none⟩), .int .i64 0, .pointer (some ⟨b + 1 + 1, 0, none⟩), .int .i64 (i.val : Int), .pointer (some ⟨Bx, 0, none⟩), .slice (some ⟨sb, so, none⟩) 9 cap, .int .i64 9, .bool false, undef, .func (.func 232) #[] #[.pointer (some ⟨g, 0, none⟩)], .int .i64 (i.val : Int), plV (b + 1 + 1) i.val, undef, undef, undef, undef, undef, undef, undef, undef, undef, undef, undef, undef], defers := [] })
    ?hAx ?assign ?body ?done ?stop
  case hI => exact OwnFrom.and ownFrom_cells (OwnFrom.and ownFrom_cells (OwnFrom.and (fun s A C row h hg hr => ownFrom_cells (β := Unit) () A C row h hg hr) (ownFrom_below (by omega) (by omega))))
  case hIx => exact fun c s A C row h hg hr => h
  case hAx =>
    rintro i a' s A C row ⟨Bx, h2, h3⟩ hg hr
    exact ⟨Bx, ownFrom_cells (β := Unit) () A C row h2 hg hr, h3⟩
  case assign =>
    rintro l' pre i W K ⟨i0, i1, i2, i4⟩ hK
    have hbs : b ≤ W.heap.size := by have := i4.size; omega
    gi_wp2
    exact hK _ _ ((KeepsOthers.alloc _ _).from _) (KeepsWalks.alloc _ _) ⟨(Below.heap_alloc _ _ _ (Array.getElem?_eq_some_iff.1 i0).1).trans i0, (Below.heap_alloc _ _ _ (Array.getElem?_eq_some_iff.1 i1).1).trans i1, (Below.heap_alloc _ _ _ (Array.getElem?_eq_some_iff.1 i2).1).trans i2, i4.alloc hbs _⟩
      ⟨W.heap.size, World.alloc_heap_new _ _, rfl⟩
  case body =>
    rintro l' pre i a' W hl' hr ⟨i0, i1, i2, i4⟩ ⟨Bx, hbx, rfl⟩ hlen
    refine wpIn_block (round_region_still_tail 6 Tryz.wide_ (by kernel_rfl) (by kernel_rfl) (fun ⟨a, w, h⟩ => h) ?_)
    obtain ⟨W', hW'⟩ : ∃ W', ({ heap := W.heap, tape := W.tape, drawn := W.drawn + 1, os := W.os, output := W.output } : World) = W' := ⟨_, rfl⟩
    have hh : W'.heap = W.heap := by rw [← hW']
    have hk1 : KeepsFrom w1.heap.size W W' := by rw [← hW']; exact (KeepsOthers.drew W).from _
    have hk2 : KeepsWalks W W' := by rw [← hW']; exact (KeepsOthers.drew W).walks
    have hb4 : Below b w W' := by rw [← hW']; exact ⟨i4.os, i4.tape, i4.output, i4.size, i4.block⟩
    have q0 : W'.heap[b]? = some (.cells #[.slice (some ⟨sb, so, none⟩) 9 cap] 76 (0, 0)) := by rw [hh]; exact i0
    have q1 : W'.heap[b + 1]? = some (.cells (prt l []).toArray 28 (0, 0)) := by rw [hh]; exact i1
    have q2 : W'.heap[b + 2]? = some (.cells (prt l pre).toArray 28 (0, 0)) := by rw [hh]; exact i2
    have qx : W'.heap[Bx]? = some (.cells #[.pointer (some ⟨b + 1 + 1, i.val, none⟩), .int .i64 (loP i.val), .int .i64 (hiP i.val)] 331 (0, 0)) := by rw [hh]; exact hbx
    have hv : W'.cell? ⟨sb, so + i.val, none⟩ = some (.int .i64 (l i.val)) := (hb4.cell (p := ⟨sb, so + i.val, none⟩) hsb).trans (hs i)
    rw [hW']
    simp only [List.take_succ_cons, List.take_zero, List.drop_succ_cons, List.drop_zero]
    refine Stl.h ?_
    clear hbx i0 i1 i2 hr hl' hg hb1 e0 e1 e2 hga hs
    have hp0 : W'.cell? ⟨Bx, 0, none⟩ = some (.pointer (some ⟨b + 1 + 1, i.val, none⟩)) := cell_heap qx rfl
    have hc0 := Boxed.cell q0
    have hc2 : W'.cell? ⟨b + 1 + 1, i.val, none⟩ = some (.int .i64 (if i ∈ pre then l i.val else 0)) := cell_heap q2 (prt_get l pre i)
    have hf2 : W'.frozen? ⟨b + 1 + 1, i.val, none⟩ = false := by simp [World.frozen?, show W'.heap[b + 1 + 1]? = _ from q2]
    have hi9 : (i.val : Int) < 9 := by omega
    have hi0 : (0 : Int) ≤ (i.val : Int) := by omega
    iterate 6 (refine Stl.step (fun K hK => ?_); go_simp; refine hK _ ?_; clear hK K)
    refine Stl.nil ?_
    go_wp2
    refine ⟨hk1.trans ((KeepsOthers.setCell _ _ _).from _), hk2.trans (KeepsWalks.setCell _ _ _), (setCell_other (by omega)).trans q0, (setCell_other (by omega)).trans q1, ?_, hb4.setCell (p := ⟨b + 1 + 1, i.val, none⟩) (by simp; omega) _⟩
    have h5 := setCell_heap (o := i.val) (v := .int .i64 (l i.val)) q2
    rw [show (prt l (pre ++ [i])).toArray = (prt l pre).toArray.setIfInBounds i.val (.int .i64 (l i.val)) by rw [← prt_set]; simp]
    exact h5
  case done =>
    rintro D xs W hD rfl ⟨i0, i1, i2, i4⟩ hK
    rw [prt_all] at i2
    have hF2 : Fence.wide.fn 137 := trivial
    have c0 : W.cell? ⟨b + 1 + 1, 0, none⟩ = some (.int .i64 (l 0)) := cell_heap i2 rfl
    have c1 : W.cell? ⟨b + 1 + 1, 1, none⟩ = some (.int .i64 (l 1)) := cell_heap i2 rfl
    have c2 : W.cell? ⟨b + 1 + 1, 2, none⟩ = some (.int .i64 (l 2)) := cell_heap i2 rfl
    have c3 : W.cell? ⟨b + 1 + 1, 3, none⟩ = some (.int .i64 (l 3)) := cell_heap i2 rfl
    have c4 : W.cell? ⟨b + 1 + 1, 4, none⟩ = some (.int .i64 (l 4)) := cell_heap i2 rfl
    have c5 : W.cell? ⟨b + 1 + 1, 5, none⟩ = some (.int .i64 (l 5)) := cell_heap i2 rfl
    have c6 : W.cell? ⟨b + 1 + 1, 6, none⟩ = some (.int .i64 (l 6)) := cell_heap i2 rfl
    have c7 : W.cell? ⟨b + 1 + 1, 7, none⟩ = some (.int .i64 (l 7)) := cell_heap i2 rfl
    have c8 : W.cell? ⟨b + 1 + 1, 8, none⟩ = some (.int .i64 (l 8)) := cell_heap i2 rfl
    gi_wp2
    refine (callsIn_wide.2 (confCheck_calls (Cf.ofV l) W)).mono ?_
    rintro e w2 ⟨rfl, hb2⟩
    obtain ⟨ce, hce⟩ : ∃ ce, ckF (Cf.ofV l) = ce := ⟨_, rfl⟩
    simp only [hce]
    have r1 : w2.heap[b + 1]? = some (.cells (prt l []).toArray 28 (0, 0)) := (hb2.block _ (Array.getElem?_eq_some_iff.1 i1).1).trans i1
    have r2 : w2.heap[b + 1 + 1]? = some (.cells (Cf.ofV l).vs.toArray 28 (0, 0)) := (hb2.block _ (Array.getElem?_eq_some_iff.1 i2).1).trans i2
    have rK : w2.heap[D]? = some (.deferred (some [])) := (hb2.block _ (Array.getElem?_eq_some_iff.1 hK).1).trans hK
    have rB : Below b w w2 := i4.trans (hb2.mono (by have := i4.size; omega))
    rw [prt_nil] at r1
    have d0 : w2.cell? ⟨b + 1 + 1, 0, none⟩ = some (.int .i64 (l 0)) := cell_heap r2 rfl
    have d1 : w2.cell? ⟨b + 1 + 1, 1, none⟩ = some (.int .i64 (l 1)) := cell_heap r2 rfl
    have d2 : w2.cell? ⟨b + 1 + 1, 2, none⟩ = some (.int .i64 (l 2)) := cell_heap r2 rfl
    have d3 : w2.cell? ⟨b + 1 + 1, 3, none⟩ = some (.int .i64 (l 3)) := cell_heap r2 rfl
    have d4 : w2.cell? ⟨b + 1 + 1, 4, none⟩ = some (.int .i64 (l 4)) := cell_heap r2 rfl
    have d5 : w2.cell? ⟨b + 1 + 1, 5, none⟩ = some (.int .i64 (l 5)) := cell_heap r2 rfl
    have d6 : w2.cell? ⟨b + 1 + 1, 6, none⟩ = some (.int .i64 (l 6)) := cell_heap r2 rfl
    have d7 : w2.cell? ⟨b + 1 + 1, 7, none⟩ = some (.int .i64 (l 7)) := cell_heap r2 rfl
    have d8 : w2.cell? ⟨b + 1 + 1, 8, none⟩ = some (.int .i64 (l 8)) := cell_heap r2 rfl
    have z0 : w2.cell? ⟨b + 1, 0, none⟩ = some (.int .i64 0) := cell_heap r1 rfl
    have z1 : w2.cell? ⟨b + 1, 1, none⟩ = some (.int .i64 0) := cell_heap r1 rfl
    have z2 : w2.cell? ⟨b + 1, 2, none⟩ = some (.int .i64 0) := cell_heap r1 rfl
    have z3 : w2.cell? ⟨b + 1, 3, none⟩ = some (.int .i64 0) := cell_heap r1 rfl
    have z4 : w2.cell? ⟨b + 1, 4, none⟩ = some (.int .i64 0) := cell_heap r1 rfl
    have z5 : w2.cell? ⟨b + 1, 5, none⟩ = some (.int .i64 0) := cell_heap r1 rfl
    have z6 : w2.cell? ⟨b + 1, 6, none⟩ = some (.int .i64 0) := cell_heap r1 rfl
    have z7 : w2.cell? ⟨b + 1, 7, none⟩ = some (.int .i64 0) := cell_heap r1 rfl
    have z8 : w2.cell? ⟨b + 1, 8, none⟩ = some (.int .i64 0) := cell_heap r1 rfl
    have f0 : w2.frozen? ⟨b + 1, 0, none⟩ = false := by simp [World.frozen?, r1]
    have f1 : w2.frozen? ⟨b + 1, 1, none⟩ = false := by simp [World.frozen?, r1]
    have f2 : w2.frozen? ⟨b + 1, 2, none⟩ = false := by simp [World.frozen?, r1]
    have f3 : w2.frozen? ⟨b + 1, 3, none⟩ = false := by simp [World.frozen?, r1]
    have f4 : w2.frozen? ⟨b + 1, 4, none⟩ = false := by simp [World.frozen?, r1]
    have f5 : w2.frozen? ⟨b + 1, 5, none⟩ = false := by simp [World.frozen?, r1]
    have f6 : w2.frozen? ⟨b + 1, 6, none⟩ = false := by simp [World.frozen?, r1]
    have f7 : w2.frozen? ⟨b + 1, 7, none⟩ = false := by simp [World.frozen?, r1]
    have f8 : w2.frozen? ⟨b + 1, 8, none⟩ = false := by simp [World.frozen?, r1]
    by_cases h0 : ce = 0
    · subst h0
      gi_wp2
      have hD9 := (set9_other (v0 := .int .i64 (l 0)) (v1 := .int .i64 (l 1)) (v2 := .int .i64 (l 2)) (v3 := .int .i64 (l 3)) (v4 := .int .i64 (l 4)) (v5 := .int .i64 (l 5)) (v6 := .int .i64 (l 6)) (v7 := .int .i64 (l 7)) (v8 := .int .i64 (l 8)) (show D ≠ b + 1 by omega)).trans rK
      have hN9 := set9 (v0 := .int .i64 (l 0)) (v1 := .int .i64 (l 1)) (v2 := .int .i64 (l 2)) (v3 := .int .i64 (l 3)) (v4 := .int .i64 (l 4)) (v5 := .int .i64 (l 5)) (v6 := .int .i64 (l 6)) (v7 := .int .i64 (l 7)) (v8 := .int .i64 (l 8)) r1
      have hB9 := set9_below (v0 := .int .i64 (l 0)) (v1 := .int .i64 (l 1)) (v2 := .int .i64 (l 2)) (v3 := .int .i64 (l 3)) (v4 := .int .i64 (l 4)) (v5 := .int .i64 (l 5)) (v6 := .int .i64 (l 6)) (v7 := .int .i64 (l 7)) (v8 := .int .i64 (l 8)) rB (show b ≤ b + 1 by omega)
      refine ⟨by simp, .inl ⟨_, _, rfl, run_takeDeferred hD9, ?_⟩⟩
      refine ⟨_, res233 (x := Cf.ofV l) (e := 0) ((World.putObj_heap_other (show b + 1 ≠ D by omega)).trans hN9) rfl rfl, by unfold confOfV; rw [hce, if_pos rfl], ?_⟩
      rw [hb]
      exact hB9.trans (belowK_b (w := w) (Nat.le_of_eq hb.symm) _ D _ _ (by omega) hD9 rfl rfl)
    · gi_wp2
      have hD9 := (set9_other (v0 := .int .i64 0) (v1 := .int .i64 0) (v2 := .int .i64 0) (v3 := .int .i64 0) (v4 := .int .i64 0) (v5 := .int .i64 0) (v6 := .int .i64 0) (v7 := .int .i64 0) (v8 := .int .i64 0) (show D ≠ b + 1 by omega)).trans rK
      have hN9 := set9 (v0 := .int .i64 0) (v1 := .int .i64 0) (v2 := .int .i64 0) (v3 := .int .i64 0) (v4 := .int .i64 0) (v5 := .int .i64 0) (v6 := .int .i64 0) (v7 := .int .i64 0) (v8 := .int .i64 0) r1
      have hB9 := set9_below (v0 := .int .i64 0) (v1 := .int .i64 0) (v2 := .int .i64 0) (v3 := .int .i64 0) (v4 := .int .i64 0) (v5 := .int .i64 0) (v6 := .int .i64 0) (v7 := .int .i64 0) (v8 := .int .i64 0) rB (show b ≤ b + 1 by omega)
      refine ⟨by simp, .inl ⟨_, _, rfl, run_takeDeferred hD9, ?_⟩⟩
      refine ⟨_, res233 (x := default) (e := 1) ((World.putObj_heap_other (show b + 1 ≠ D by omega)).trans hN9) rfl rfl, by unfold confOfV; rw [hce, if_neg h0], ?_⟩
      rw [hb]
      exact hB9.trans (belowK_b (w := w) (Nat.le_of_eq hb.symm) _ D _ _ (by omega) hD9 rfl rfl)
  case stop =>
    rintro D c pre W hD hSp h hK
    exact h.elim

def confOfF (l : List Int) : Cf × Int := if l.length = 9 then confOfV (fun j => l.getD j 0) else (default, 1)
theorem confOf_c (l : List Int) (hl : l.length ≤ 1000) : FnP Tryz.prog 136 [SL 1 INTc l] (· = .tup [.agg (Cf.c (confOfF l).1), I64 (confOfF l).2]) := by
  by_cases h9 : l.length = 9
  · refine FnP.ofHand ⟨Tryz.f136, Tryz.func136, by kernel_rfl, by kernel_rfl⟩ (fun G w cargs him hr => ?_)
    simp only [RepIT] at hr
    obtain ⟨z, zs, rfl, h1, rfl⟩ := hr
    simp only [RepI] at h1
    obtain ⟨a, c, rfl, hc, h2⟩ := h1
    rcases h2 with h2 | ⟨sb, so, rfl, h2⟩
    · omega
    rw [h9]
    refine (confOf_calls (fun j => l.getD j 0) sb so c w (fun j => ?_)).mono ?_
    · have h3 := h2 j.val (by omega)
      simp only [CellsAt, and_true] at h3
      obtain ⟨z, h4, h5, _⟩ := h3
      simp only [RepI] at h5
      subst h5
      have h6 := him.1 _ _ _ h4
      simp only [Nat.mul_one] at h6
      rw [h6]
      rw [List.getD_eq_getElem?_getD, List.getD_eq_getElem?_getD, List.getElem?_eq_getElem (show j.val < l.length by omega)]
      rfl
    · rintro e w' ⟨rfl, hb⟩
      refine ⟨⟨_, rfl, fun H => ?_⟩, hb⟩
      rw [show confOfF l = confOfV (fun j => l.getD j 0) by unfold confOfF; rw [if_pos h9]]
      simp only [RepI, RepIT]
      refine ⟨_, rfl, _, _, rfl, ⟨_, rfl, ?_⟩, _, _, rfl, rfl, rfl⟩
      simp only [Cf.c, Cf.vs, RepIL, RepI]
      exact ⟨_, _, rfl, rfl, rfl, _, _, rfl, rfl, rfl, _, _, rfl, rfl, rfl, _, _, rfl, rfl, rfl, _, _, rfl, rfl, rfl, _, _, rfl, rfl, rfl, _, _, rfl, rfl, rfl, _, _, rfl, rfl, rfl, _, _, rfl, rfl, rfl, rfl⟩
  · rw [show confOfF l = (default, 1) by unfold confOfF; rw [if_neg h9]]
    refine FnP.intro Tryz.tabOK Tryz.wide_ Tryz.func136 rfl (by decide) rfl (fun X => ?_)
    repeat (first | refine sc rfl ?_ | refine so rfl ?_ | refine sb rfl ?_)
    refine C_true rfl (by simp; omega) ?_
    repeat (first | refine sc rfl ?_ | refine so rfl ?_ | refine sb rfl ?_)
    exact ⟨_, rfl, rfl, rfl⟩
end Go.Proofs

/- Contracts of span: the reader of bytes. -/
set_option linter.unusedSimpArgs false
set_option linter.unusedVariables false
set_option maxRecDepth 100000
namespace Go.Proofs
open Go.Sy Go.Lib

/-- A reader: its bytes, how many were taken, what was wrong. -/
abbrev rdr (g : Nat) (b : List UInt8) (at_ : Nat) (e : Int) : Abs := boxA g 248 [.s b, I64 (at_ : Nat), I64 e]
def rdAt (at_ k : Nat) (e e2 : Int) : Nat := if e ≠ 0 then at_ else if e2 ≠ 0 then at_ else at_ + k
def rdE (e e2 : Int) : Int := if e ≠ 0 then e else e2
def rdV {α : Type} (z x : α) (e e2 : Int) : α := if e ≠ 0 then z else if e2 ≠ 0 then z else x

theorem takeU_A (g : Nat) (b : List UInt8) (at_ : Nat) (e : Int) (fv : AV) (f : FuncId) (caps : List AV) (k : Nat) (e2 : Int) (x : Int) (hclo : IsClo fv f caps) (himm : fv.imm = true) (hat : at_ ≤ b.length) (hfv : fv = .p (cloRP f caps) ∨ ∃ v, fv = .v v)
    (hf : e = 0 → FnP Tryz.prog f ([.s (b.drop at_)] ++ caps) (· = .tup [U64 x, I64 (k : Nat), I64 e2])) (hk : e = 0 → e2 = 0 → at_ + k ≤ b.length) (hb : b.length ≤ 9223372036854775807) :
    FnA Tryz.prog 130 [PT g 0, fv] [rdr g b at_ e] (fun r cs' => r = U64 (rdV 0 x e e2) ∧ cs' = [rdr g b (rdAt at_ k e e2) (rdE e e2)]) := by
  rcases hfv with rfl | ⟨v, rfl⟩
  · refine FnA.intro Tryz.tabOK Tryz.wide_ Tryz.func130 rfl (by decide) rfl (fun X => ?_)
    repeat (first | refine sc rfl ?_ | refine so rfl ?_ | refine sb rfl ?_)
    refine O_Xd (X_ptrnil Tryz.underlying155 rfl rfl rfl) ?_
    repeat (first | refine sc rfl ?_ | refine so rfl ?_ | refine sb rfl ?_)
    first
      | refine O_loadP 0 (reads_box 2) rfl rfl rfl rfl rfl rfl ?_
      | refine O_loadP 1 (reads_box 2) rfl rfl rfl rfl rfl rfl ?_
      | refine O_loadP 2 (reads_box 2) rfl rfl rfl rfl rfl rfl ?_
      | refine O_loadP 3 (reads_box 2) rfl rfl rfl rfl rfl rfl ?_
      | refine O_loadP 4 (reads_box 2) rfl rfl rfl rfl rfl rfl ?_
    repeat (first | refine sc rfl ?_ | refine so rfl ?_ | refine sb rfl ?_)
    refine C_if rfl (fun h0 => ?_) (fun h0 => ?_) <;> simp only [decide_eq_true_eq, decide_eq_false_iff_not, Bool.not_eq_true', Bool.not_eq_false', beq_iff_eq, beq_eq_false_iff_ne, bne_iff_ne, ne_eq, bne_eq_false_iff_eq, Decidable.not_not] at h0
    · repeat (first | refine sc rfl ?_ | refine so rfl ?_ | refine sb rfl ?_)
      first
        | exact ⟨_, [_], _, rfl, pickA_perm (is := [0]) (As := [_]) rfl, rfl, by unfold rdV; rw [if_pos h0], by unfold rdAt rdE; rw [if_pos h0, if_pos h0]⟩
        | exact ⟨_, [_], _, rfl, pickA_perm (is := [1]) (As := [_]) rfl, rfl, by unfold rdV; rw [if_pos h0], by unfold rdAt rdE; rw [if_pos h0, if_pos h0]⟩
        | exact ⟨_, [_], _, rfl, pickA_perm (is := [2]) (As := [_]) rfl, rfl, by unfold rdV; rw [if_pos h0], by unfold rdAt rdE; rw [if_pos h0, if_pos h0]⟩
        | exact ⟨_, [_], _, rfl, pickA_perm (is := [3]) (As := [_]) rfl, rfl, by unfold rdV; rw [if_pos h0], by unfold rdAt rdE; rw [if_pos h0, if_pos h0]⟩
        | exact ⟨_, [_], _, rfl, pickA_perm (is := [4]) (As := [_]) rfl, rfl, by unfold rdV; rw [if_pos h0], by unfold rdAt rdE; rw [if_pos h0, if_pos h0]⟩
    subst h0
    repeat (first | refine sc rfl ?_ | refine so rfl ?_ | refine sb rfl ?_)
    refine C_drawD rfl (by kernel_rfl) ?_
    repeat (first | refine sd rfl ?_ | refine sdb rfl ?_ | refine sds rfl ?_)
    refine D_X (.s b) (X_loadP 0 (A := rdr g b at_ 0) (reads_box 0) rfl rfl rfl rfl rfl rfl) ?_
    repeat (first | refine sd rfl ?_ | refine sdb rfl ?_ | refine sds rfl ?_)
    refine D_X (I64 (at_ : Nat)) (X_loadP 0 (A := rdr g b at_ 0) (reads_box 1) rfl rfl rfl rfl rfl rfl) ?_
    repeat (first | refine sd rfl ?_ | refine ⟨by omega, ?_⟩)
    rw [Int.toNat_natCast]
    refine D_callV hclo himm (hf rfl) rfl rfl rfl rfl rfl ?_
    repeat (first | refine sd rfl ?_ | refine sdb rfl ?_ | refine sds rfl ?_)
    repeat (first | refine sc rfl ?_ | refine so rfl ?_ | refine sb rfl ?_)
    refine C_if rfl (fun h1 => ?_) (fun h1 => ?_) <;> simp only [decide_eq_true_eq, decide_eq_false_iff_not, Bool.not_eq_true', Bool.not_eq_false', beq_iff_eq, beq_eq_false_iff_ne, bne_iff_ne, ne_eq, bne_eq_false_iff_eq, Decidable.not_not] at h1
    · repeat (first | refine sc rfl ?_ | refine so rfl ?_ | refine sb rfl ?_)
      first
        | refine O_Xn (X_storeP 0 (writes_box (b := g) (t := 248) (cells := [.s b, I64 (at_ : Nat), I64 0]) (by simp)) rfl rfl rfl rfl rfl rfl rfl) ?_
        | refine O_Xn (X_storeP 1 (writes_box (b := g) (t := 248) (cells := [.s b, I64 (at_ : Nat), I64 0]) (by simp)) rfl rfl rfl rfl rfl rfl rfl) ?_
        | refine O_Xn (X_storeP 2 (writes_box (b := g) (t := 248) (cells := [.s b, I64 (at_ : Nat), I64 0]) (by simp)) rfl rfl rfl rfl rfl rfl rfl) ?_
        | refine O_Xn (X_storeP 3 (writes_box (b := g) (t := 248) (cells := [.s b, I64 (at_ : Nat), I64 0]) (by simp)) rfl rfl rfl rfl rfl rfl rfl) ?_
        | refine O_Xn (X_storeP 4 (writes_box (b := g) (t := 248) (cells := [.s b, I64 (at_ : Nat), I64 0]) (by simp)) rfl rfl rfl rfl rfl rfl rfl) ?_
      repeat (first | refine sc rfl ?_ | refine so rfl ?_ | refine sb rfl ?_)
      first
        | exact ⟨_, [_], _, rfl, pickA_perm (is := [0]) (As := [_]) rfl, rfl, by unfold rdV; rw [if_neg (by decide), if_pos h1], by unfold rdAt rdE; rw [if_neg (by decide), if_pos h1, if_neg (by decide)]; rfl⟩
        | exact ⟨_, [_], _, rfl, pickA_perm (is := [1]) (As := [_]) rfl, rfl, by unfold rdV; rw [if_neg (by decide), if_pos h1], by unfold rdAt rdE; rw [if_neg (by decide), if_pos h1, if_neg (by decide)]; rfl⟩
        | exact ⟨_, [_], _, rfl, pickA_perm (is := [2]) (As := [_]) rfl, rfl, by unfold rdV; rw [if_neg (by decide), if_pos h1], by unfold rdAt rdE; rw [if_neg (by decide), if_pos h1, if_neg (by decide)]; rfl⟩
        | exact ⟨_, [_], _, rfl, pickA_perm (is := [3]) (As := [_]) rfl, rfl, by unfold rdV; rw [if_neg (by decide), if_pos h1], by unfold rdAt rdE; rw [if_neg (by decide), if_pos h1, if_neg (by decide)]; rfl⟩
        | exact ⟨_, [_], _, rfl, pickA_perm (is := [4]) (As := [_]) rfl, rfl, by unfold rdV; rw [if_neg (by decide), if_pos h1], by unfold rdAt rdE; rw [if_neg (by decide), if_pos h1, if_neg (by decide)]; rfl⟩
    · subst h1
      have hk' := hk rfl rfl
      repeat (first | refine sc rfl ?_ | refine so rfl ?_ | refine sb rfl ?_)
      first
        | refine O_loadP 0 (reads_box 1) rfl rfl rfl rfl rfl rfl ?_
        | refine O_loadP 1 (reads_box 1) rfl rfl rfl rfl rfl rfl ?_
        | refine O_loadP 2 (reads_box 1) rfl rfl rfl rfl rfl rfl ?_
        | refine O_loadP 3 (reads_box 1) rfl rfl rfl rfl rfl rfl ?_
        | refine O_loadP 4 (reads_box 1) rfl rfl rfl rfl rfl rfl ?_
      repeat (first | refine sc rfl ?_ | refine so rfl ?_ | refine sb rfl ?_)
      rw [w64 (x := (at_ : Int) + (k : Int)) (by omega) (by omega)]
      first
        | refine O_Xn (X_storeP 0 (writes_box (b := g) (t := 248) (cells := [.s b, I64 (at_ : Nat), I64 0]) (by simp)) rfl rfl rfl rfl rfl rfl rfl) ?_
        | refine O_Xn (X_storeP 1 (writes_box (b := g) (t := 248) (cells := [.s b, I64 (at_ : Nat), I64 0]) (by simp)) rfl rfl rfl rfl rfl rfl rfl) ?_
        | refine O_Xn (X_storeP 2 (writes_box (b := g) (t := 248) (cells := [.s b, I64 (at_ : Nat), I64 0]) (by simp)) rfl rfl rfl rfl rfl rfl rfl) ?_
        | refine O_Xn (X_storeP 3 (writes_box (b := g) (t := 248) (cells := [.s b, I64 (at_ : Nat), I64 0]) (by simp)) rfl rfl rfl rfl rfl rfl rfl) ?_
        | refine O_Xn (X_storeP 4 (writes_box (b := g) (t := 248) (cells := [.s b, I64 (at_ : Nat), I64 0]) (by simp)) rfl rfl rfl rfl rfl rfl rfl) ?_
      repeat (first | refine sc rfl ?_ | refine so rfl ?_ | refine sb rfl ?_)
      first
        | exact ⟨_, [_], _, rfl, pickA_perm (is := [0]) (As := [_]) rfl, rfl, by unfold rdV; rw [if_neg (by decide), if_neg (by decide)], by unfold rdAt rdE; rw [if_neg (by decide), if_neg (by decide), if_neg (by decide)]; rfl⟩
        | exact ⟨_, [_], _, rfl, pickA_perm (is := [1]) (As := [_]) rfl, rfl, by unfold rdV; rw [if_neg (by decide), if_neg (by decide)], by unfold rdAt rdE; rw [if_neg (by decide), if_neg (by decide), if_neg (by decide)]; rfl⟩
        | exact ⟨_, [_], _, rfl, pickA_perm (is := [2]) (As := [_]) rfl, rfl, by unfold rdV; rw [if_neg (by decide), if_neg (by decide)], by unfold rdAt rdE; rw [if_neg (by decide), if_neg (by decide), if_neg (by decide)]; rfl⟩
        | exact ⟨_, [_], _, rfl, pickA_perm (is := [3]) (As := [_]) rfl, rfl, by unfold rdV; rw [if_neg (by decide), if_neg (by decide)], by unfold rdAt rdE; rw [if_neg (by decide), if_neg (by decide), if_neg (by decide)]; rfl⟩
        | exact ⟨_, [_], _, rfl, pickA_perm (is := [4]) (As := [_]) rfl, rfl, by unfold rdV; rw [if_neg (by decide), if_neg (by decide)], by unfold rdAt rdE; rw [if_neg (by decide), if_neg (by decide), if_neg (by decide)]; rfl⟩
  · refine FnA.intro Tryz.tabOK Tryz.wide_ Tryz.func130 rfl (by decide) rfl (fun X => ?_)
    repeat (first | refine sc rfl ?_ | refine so rfl ?_ | refine sb rfl ?_)
    refine O_Xd (X_ptrnil Tryz.underlying155 rfl rfl rfl) ?_
    repeat (first | refine sc rfl ?_ | refine so rfl ?_ | refine sb rfl ?_)
    first
      | refine O_loadP 0 (reads_box 2) rfl rfl rfl rfl rfl rfl ?_
      | refine O_loadP 1 (reads_box 2) rfl rfl rfl rfl rfl rfl ?_
      | refine O_loadP 2 (reads_box 2) rfl rfl rfl rfl rfl rfl ?_
      | refine O_loadP 3 (reads_box 2) rfl rfl rfl rfl rfl rfl ?_
      | refine O_loadP 4 (reads_box 2) rfl rfl rfl rfl rfl rfl ?_
    repeat (first | refine sc rfl ?_ | refine so rfl ?_ | refine sb rfl ?_)
    refine C_if rfl (fun h0 => ?_) (fun h0 => ?_) <;> simp only [decide_eq_true_eq, decide_eq_false_iff_not, Bool.not_eq_true', Bool.not_eq_false', beq_iff_eq, beq_eq_false_iff_ne, bne_iff_ne, ne_eq, bne_eq_false_iff_eq, Decidable.not_not] at h0
    · repeat (first | refine sc rfl ?_ | refine so rfl ?_ | refine sb rfl ?_)
      first
        | exact ⟨_, [_], _, rfl, pickA_perm (is := [0]) (As := [_]) rfl, rfl, by unfold rdV; rw [if_pos h0], by unfold rdAt rdE; rw [if_pos h0, if_pos h0]⟩
        | exact ⟨_, [_], _, rfl, pickA_perm (is := [1]) (As := [_]) rfl, rfl, by unfold rdV; rw [if_pos h0], by unfold rdAt rdE; rw [if_pos h0, if_pos h0]⟩
        | exact ⟨_, [_], _, rfl, pickA_perm (is := [2]) (As := [_]) rfl, rfl, by unfold rdV; rw [if_pos h0], by unfold rdAt rdE; rw [if_pos h0, if_pos h0]⟩
        | exact ⟨_, [_], _, rfl, pickA_perm (is := [3]) (As := [_]) rfl, rfl, by unfold rdV; rw [if_pos h0], by unfold rdAt rdE; rw [if_pos h0, if_pos h0]⟩
        | exact ⟨_, [_], _, rfl, pickA_perm (is := [4]) (As := [_]) rfl, rfl, by unfold rdV; rw [if_pos h0], by unfold rdAt rdE; rw [if_pos h0, if_pos h0]⟩
    subst h0
    repeat (first | refine sc rfl ?_ | refine so rfl ?_ | refine sb rfl ?_)
    refine C_drawD rfl (by kernel_rfl) ?_
    repeat (first | refine sd rfl ?_ | refine sdb rfl ?_ | refine sds rfl ?_)
    refine D_X (.s b) (X_loadP 0 (A := rdr g b at_ 0) (reads_box 0) rfl rfl rfl rfl rfl rfl) ?_
    repeat (first | refine sd rfl ?_ | refine sdb rfl ?_ | refine sds rfl ?_)
    refine D_X (I64 (at_ : Nat)) (X_loadP 0 (A := rdr g b at_ 0) (reads_box 1) rfl rfl rfl rfl rfl rfl) ?_
    repeat (first | refine sd rfl ?_ | refine ⟨by omega, ?_⟩)
    rw [Int.toNat_natCast]
    refine D_callV hclo himm (hf rfl) rfl rfl rfl rfl rfl ?_
    repeat (first | refine sd rfl ?_ | refine sdb rfl ?_ | refine sds rfl ?_)
    repeat (first | refine sc rfl ?_ | refine so rfl ?_ | refine sb rfl ?_)
    refine C_if rfl (fun h1 => ?_) (fun h1 => ?_) <;> simp only [decide_eq_true_eq, decide_eq_false_iff_not, Bool.not_eq_true', Bool.not_eq_false', beq_iff_eq, beq_eq_false_iff_ne, bne_iff_ne, ne_eq, bne_eq_false_iff_eq, Decidable.not_not] at h1
    · repeat (first | refine sc rfl ?_ | refine so rfl ?_ | refine sb rfl ?_)
      first
        | refine O_Xn (X_storeP 0 (writes_box (b := g) (t := 248) (cells := [.s b, I64 (at_ : Nat), I64 0]) (by simp)) rfl rfl rfl rfl rfl rfl rfl) ?_
        | refine O_Xn (X_storeP 1 (writes_box (b := g) (t := 248) (cells := [.s b, I64 (at_ : Nat), I64 0]) (by simp)) rfl rfl rfl rfl rfl rfl rfl) ?_
        | refine O_Xn (X_storeP 2 (writes_box (b := g) (t := 248) (cells := [.s b, I64 (at_ : Nat), I64 0]) (by simp)) rfl rfl rfl rfl rfl rfl rfl) ?_
        | refine O_Xn (X_storeP 3 (writes_box (b := g) (t := 248) (cells := [.s b, I64 (at_ : Nat), I64 0]) (by simp)) rfl rfl rfl rfl rfl rfl rfl) ?_
        | refine O_Xn (X_storeP 4 (writes_box (b := g) (t := 248) (cells := [.s b, I64 (at_ : Nat), I64 0]) (by simp)) rfl rfl rfl rfl rfl rfl rfl) ?_
      repeat (first | refine sc rfl ?_ | refine so rfl ?_ | refine sb rfl ?_)
      first
        | exact ⟨_, [_], _, rfl, pickA_perm (is := [0]) (As := [_]) rfl, rfl, by unfold rdV; rw [if_neg (by decide), if_pos h1], by unfold rdAt rdE; rw [if_neg (by decide), if_pos h1, if_neg (by decide)]; rfl⟩
        | exact ⟨_, [_], _, rfl, pickA_perm (is := [1]) (As := [_]) rfl, rfl, by unfold rdV; rw [if_neg (by decide), if_pos h1], by unfold rdAt rdE; rw [if_neg (by decide), if_pos h1, if_neg (by decide)]; rfl⟩
        | exact ⟨_, [_], _, rfl, pickA_perm (is := [2]) (As := [_]) rfl, rfl, by unfold rdV; rw [if_neg (by decide), if_pos h1], by unfold rdAt rdE; rw [if_neg (by decide), if_pos h1, if_neg (by decide)]; rfl⟩
        | exact ⟨_, [_], _, rfl, pickA_perm (is := [3]) (As := [_]) rfl, rfl, by unfold rdV; rw [if_neg (by decide), if_pos h1], by unfold rdAt rdE; rw [if_neg (by decide), if_pos h1, if_neg (by decide)]; rfl⟩
        | exact ⟨_, [_], _, rfl, pickA_perm (is := [4]) (As := [_]) rfl, rfl, by unfold rdV; rw [if_neg (by decide), if_pos h1], by unfold rdAt rdE; rw [if_neg (by decide), if_pos h1, if_neg (by decide)]; rfl⟩
    · subst h1
      have hk' := hk rfl rfl
      repeat (first | refine sc rfl ?_ | refine so rfl ?_ | refine sb rfl ?_)
      first
        | refine O_loadP 0 (reads_box 1) rfl rfl rfl rfl rfl rfl ?_
        | refine O_loadP 1 (reads_box 1) rfl rfl rfl rfl rfl rfl ?_
        | refine O_loadP 2 (reads_box 1) rfl rfl rfl rfl rfl rfl ?_
        | refine O_loadP 3 (reads_box 1) rfl rfl rfl rfl rfl rfl ?_
        | refine O_loadP 4 (reads_box 1) rfl rfl rfl rfl rfl rfl ?_
      repeat (first | refine sc rfl ?_ | refine so rfl ?_ | refine sb rfl ?_)
      rw [w64 (x := (at_ : Int) + (k : Int)) (by omega) (by omega)]
      first
        | refine O_Xn (X_storeP 0 (writes_box (b := g) (t := 248) (cells := [.s b, I64 (at_ : Nat), I64 0]) (by simp)) rfl rfl rfl rfl rfl rfl rfl) ?_
        | refine O_Xn (X_storeP 1 (writes_box (b := g) (t := 248) (cells := [.s b, I64 (at_ : Nat), I64 0]) (by simp)) rfl rfl rfl rfl rfl rfl rfl) ?_
        | refine O_Xn (X_storeP 2 (writes_box (b := g) (t := 248) (cells := [.s b, I64 (at_ : Nat), I64 0]) (by simp)) rfl rfl rfl rfl rfl rfl rfl) ?_
        | refine O_Xn (X_storeP 3 (writes_box (b := g) (t := 248) (cells := [.s b, I64 (at_ : Nat), I64 0]) (by simp)) rfl rfl rfl rfl rfl rfl rfl) ?_
        | refine O_Xn (X_storeP 4 (writes_box (b := g) (t := 248) (cells := [.s b, I64 (at_ : Nat), I64 0]) (by simp)) rfl rfl rfl rfl rfl rfl rfl) ?_
      repeat (first | refine sc rfl ?_ | refine so rfl ?_ | refine sb rfl ?_)
      first
        | exact ⟨_, [_], _, rfl, pickA_perm (is := [0]) (As := [_]) rfl, rfl, by unfold rdV; rw [if_neg (by decide), if_neg (by decide)], by unfold rdAt rdE; rw [if_neg (by decide), if_neg (by decide), if_neg (by decide)]; rfl⟩
        | exact ⟨_, [_], _, rfl, pickA_perm (is := [1]) (As := [_]) rfl, rfl, by unfold rdV; rw [if_neg (by decide), if_neg (by decide)], by unfold rdAt rdE; rw [if_neg (by decide), if_neg (by decide), if_neg (by decide)]; rfl⟩
        | exact ⟨_, [_], _, rfl, pickA_perm (is := [2]) (As := [_]) rfl, rfl, by unfold rdV; rw [if_neg (by decide), if_neg (by decide)], by unfold rdAt rdE; rw [if_neg (by decide), if_neg (by decide), if_neg (by decide)]; rfl⟩
        | exact ⟨_, [_], _, rfl, pickA_perm (is := [3]) (As := [_]) rfl, rfl, by unfold rdV; rw [if_neg (by decide), if_neg (by decide)], by unfold rdAt rdE; rw [if_neg (by decide), if_neg (by decide), if_neg (by decide)]; rfl⟩
        | exact ⟨_, [_], _, rfl, pickA_perm (is := [4]) (As := [_]) rfl, rfl, by unfold rdV; rw [if_neg (by decide), if_neg (by decide)], by unfold rdAt rdE; rw [if_neg (by decide), if_neg (by decide), if_neg (by decide)]; rfl⟩

theorem takeI_A (g : Nat) (b : List UInt8) (at_ : Nat) (e : Int) (fv : AV) (f : FuncId) (caps : List AV) (k : Nat) (e2 : Int) (x : Int) (hclo : IsClo fv f caps) (himm : fv.imm = true) (hat : at_ ≤ b.length) (hfv : fv = .p (cloRP f caps) ∨ ∃ v, fv = .v v)
    (hf : e = 0 → FnP Tryz.prog f ([.s (b.drop at_)] ++ caps) (· = .tup [I64 x, I64 (k : Nat), I64 e2])) (hk : e = 0 → e2 = 0 → at_ + k ≤ b.length) (hb : b.length ≤ 9223372036854775807) :
    FnA Tryz.prog 132 [PT g 0, fv] [rdr g b at_ e] (fun r cs' => r = I64 (rdV 0 x e e2) ∧ cs' = [rdr g b (rdAt at_ k e e2) (rdE e e2)]) := by
  rcases hfv with rfl | ⟨v, rfl⟩
  · refine FnA.intro Tryz.tabOK Tryz.wide_ Tryz.func132 rfl (by decide) rfl (fun X => ?_)
    repeat (first | refine sc rfl ?_ | refine so rfl ?_ | refine sb rfl ?_)
    refine O_Xd (X_ptrnil Tryz.underlying155 rfl rfl rfl) ?_
    repeat (first | refine sc rfl ?_ | refine so rfl ?_ | refine sb rfl ?_)
    first
      | refine O_loadP 0 (reads_box 2) rfl rfl rfl rfl rfl rfl ?_
      | refine O_loadP 1 (reads_box 2) rfl rfl rfl rfl rfl rfl ?_
      | refine O_loadP 2 (reads_box 2) rfl rfl rfl rfl rfl rfl ?_
      | refine O_loadP 3 (reads_box 2) rfl rfl rfl rfl rfl rfl ?_
      | refine O_loadP 4 (reads_box 2) rfl rfl rfl rfl rfl rfl ?_
    repeat (first | refine sc rfl ?_ | refine so rfl ?_ | refine sb rfl ?_)
    refine C_if rfl (fun h0 => ?_) (fun h0 => ?_) <;> simp only [decide_eq_true_eq, decide_eq_false_iff_not, Bool.not_eq_true', Bool.not_eq_false', beq_iff_eq, beq_eq_false_iff_ne, bne_iff_ne, ne_eq, bne_eq_false_iff_eq, Decidable.not_not] at h0
    · repeat (first | refine sc rfl ?_ | refine so rfl ?_ | refine sb rfl ?_)
      first
        | exact ⟨_, [_], _, rfl, pickA_perm (is := [0]) (As := [_]) rfl, rfl, by unfold rdV; rw [if_pos h0], by unfold rdAt rdE; rw [if_pos h0, if_pos h0]⟩
        | exact ⟨_, [_], _, rfl, pickA_perm (is := [1]) (As := [_]) rfl, rfl, by unfold rdV; rw [if_pos h0], by unfold rdAt rdE; rw [if_pos h0, if_pos h0]⟩
        | exact ⟨_, [_], _, rfl, pickA_perm (is := [2]) (As := [_]) rfl, rfl, by unfold rdV; rw [if_pos h0], by unfold rdAt rdE; rw [if_pos h0, if_pos h0]⟩
        | exact ⟨_, [_], _, rfl, pickA_perm (is := [3]) (As := [_]) rfl, rfl, by unfold rdV; rw [if_pos h0], by unfold rdAt rdE; rw [if_pos h0, if_pos h0]⟩
        | exact ⟨_, [_], _, rfl, pickA_perm (is := [4]) (As := [_]) rfl, rfl, by unfold rdV; rw [if_pos h0], by unfold rdAt rdE; rw [if_pos h0, if_pos h0]⟩
    subst h0
    repeat (first | refine sc rfl ?_ | refine so rfl ?_ | refine sb rfl ?_)
    refine C_drawD rfl (by kernel_rfl) ?_
    repeat (first | refine sd rfl ?_ | refine sdb rfl ?_ | refine sds rfl ?_)
    refine D_X (.s b) (X_loadP 0 (A := rdr g b at_ 0) (reads_box 0) rfl rfl rfl rfl rfl rfl) ?_
    repeat (first | refine sd rfl ?_ | refine sdb rfl ?_ | refine sds rfl ?_)
    refine D_X (I64 (at_ : Nat)) (X_loadP 0 (A := rdr g b at_ 0) (reads_box 1) rfl rfl rfl rfl rfl rfl) ?_
    repeat (first | refine sd rfl ?_ | refine ⟨by omega, ?_⟩)
    rw [Int.toNat_natCast]
    refine D_callV hclo himm (hf rfl) rfl rfl rfl rfl rfl ?_
    repeat (first | refine sd rfl ?_ | refine sdb rfl ?_ | refine sds rfl ?_)
    repeat (first | refine sc rfl ?_ | refine so rfl ?_ | refine sb rfl ?_)
    refine C_if rfl (fun h1 => ?_) (fun h1 => ?_) <;> simp only [decide_eq_true_eq, decide_eq_false_iff_not, Bool.not_eq_true', Bool.not_eq_false', beq_iff_eq, beq_eq_false_iff_ne, bne_iff_ne, ne_eq, bne_eq_false_iff_eq, Decidable.not_not] at h1
    · repeat (first | refine sc rfl ?_ | refine so rfl ?_ | refine sb rfl ?_)
      first
        | refine O_Xn (X_storeP 0 (writes_box (b := g) (t := 248) (cells := [.s b, I64 (at_ : Nat), I64 0]) (by simp)) rfl rfl rfl rfl rfl rfl rfl) ?_
        | refine O_Xn (X_storeP 1 (writes_box (b := g) (t := 248) (cells := [.s b, I64 (at_ : Nat), I64 0]) (by simp)) rfl rfl rfl rfl rfl rfl rfl) ?_
        | refine O_Xn (X_storeP 2 (writes_box (b := g) (t := 248) (cells := [.s b, I64 (at_ : Nat), I64 0]) (by simp)) rfl rfl rfl rfl rfl rfl rfl) ?_
        | refine O_Xn (X_storeP 3 (writes_box (b := g) (t := 248) (cells := [.s b, I64 (at_ : Nat), I64 0]) (by simp)) rfl rfl rfl rfl rfl rfl rfl) ?_
        | refine O_Xn (X_storeP 4 (writes_box (b := g) (t := 248) (cells := [.s b, I64 (at_ : Nat), I64 0]) (by simp)) rfl rfl rfl rfl rfl rfl rfl) ?_
      repeat (first | refine sc rfl ?_ | refine so rfl ?_ | refine sb rfl ?_)
      first
        | exact ⟨_, [_], _, rfl, pickA_perm (is := [0]) (As := [_]) rfl, rfl, by unfold rdV; rw [if_neg (by decide), if_pos h1], by unfold rdAt rdE; rw [if_neg (by decide), if_pos h1, if_neg (by decide)]; rfl⟩
        | exact ⟨_, [_], _, rfl, pickA_perm (is := [1]) (As := [_]) rfl, rfl, by unfold rdV; rw [if_neg (by decide), if_pos h1], by unfold rdAt rdE; rw [if_neg (by decide), if_pos h1, if_neg (by decide)]; rfl⟩
        | exact ⟨_, [_], _, rfl, pickA_perm (is := [2]) (As := [_]) rfl, rfl, by unfold rdV; rw [if_neg (by decide), if_pos h1], by unfold rdAt rdE; rw [if_neg (by decide), if_pos h1, if_neg (by decide)]; rfl⟩
        | exact ⟨_, [_], _, rfl, pickA_perm (is := [3]) (As := [_]) rfl, rfl, by unfold rdV; rw [if_neg (by decide), if_pos h1], by unfold rdAt rdE; rw [if_neg (by decide), if_pos h1, if_neg (by decide)]; rfl⟩
        | exact ⟨_, [_], _, rfl, pickA_perm (is := [4]) (As := [_]) rfl, rfl, by unfold rdV; rw [if_neg (by decide), if_pos h1], by unfold rdAt rdE; rw [if_neg (by decide), if_pos h1, if_neg (by decide)]; rfl⟩
    · subst h1
      have hk' := hk rfl rfl
      repeat (first | refine sc rfl ?_ | refine so rfl ?_ | refine sb rfl ?_)
      first
        | refine O_loadP 0 (reads_box 1) rfl rfl rfl rfl rfl rfl ?_
        | refine O_loadP 1 (reads_box 1) rfl rfl rfl rfl rfl rfl ?_
        | refine O_loadP 2 (reads_box 1) rfl rfl rfl rfl rfl rfl ?_
        | refine O_loadP 3 (reads_box 1) rfl rfl rfl rfl rfl rfl ?_
        | refine O_loadP 4 (reads_box 1) rfl rfl rfl rfl rfl rfl ?_
      repeat (first | refine sc rfl ?_ | refine so rfl ?_ | refine sb rfl ?_)
      rw [w64 (x := (at_ : Int) + (k : Int)) (by omega) (by omega)]
      first
        | refine O_Xn (X_storeP 0 (writes_box (b := g) (t := 248) (cells := [.s b, I64 (at_ : Nat), I64 0]) (by simp)) rfl rfl rfl rfl rfl rfl rfl) ?_
        | refine O_Xn (X_storeP 1 (writes_box (b := g) (t := 248) (cells := [.s b, I64 (at_ : Nat), I64 0]) (by simp)) rfl rfl rfl rfl rfl rfl rfl) ?_
        | refine O_Xn (X_storeP 2 (writes_box (b := g) (t := 248) (cells := [.s b, I64 (at_ : Nat), I64 0]) (by simp)) rfl rfl rfl rfl rfl rfl rfl) ?_
        | refine O_Xn (X_storeP 3 (writes_box (b := g) (t := 248) (cells := [.s b, I64 (at_ : Nat), I64 0]) (by simp)) rfl rfl rfl rfl rfl rfl rfl) ?_
        | refine O_Xn (X_storeP 4 (writes_box (b := g) (t := 248) (cells := [.s b, I64 (at_ : Nat), I64 0]) (by simp)) rfl rfl rfl rfl rfl rfl rfl) ?_
      repeat (first | refine sc rfl ?_ | refine so rfl ?_ | refine sb rfl ?_)
      first
        | exact ⟨_, [_], _, rfl, pickA_perm (is := [0]) (As := [_]) rfl, rfl, by unfold rdV; rw [if_neg (by decide), if_neg (by decide)], by unfold rdAt rdE; rw [if_neg (by decide), if_neg (by decide), if_neg (by decide)]; rfl⟩
        | exact ⟨_, [_], _, rfl, pickA_perm (is := [1]) (As := [_]) rfl, rfl, by unfold rdV; rw [if_neg (by decide), if_neg (by decide)], by unfold rdAt rdE; rw [if_neg (by decide), if_neg (by decide), if_neg (by decide)]; rfl⟩
        | exact ⟨_, [_], _, rfl, pickA_perm (is := [2]) (As := [_]) rfl, rfl, by unfold rdV; rw [if_neg (by decide), if_neg (by decide)], by unfold rdAt rdE; rw [if_neg (by decide), if_neg (by decide), if_neg (by decide)]; rfl⟩
        | exact ⟨_, [_], _, rfl, pickA_perm (is := [3]) (As := [_]) rfl, rfl, by unfold rdV; rw [if_neg (by decide), if_neg (by decide)], by unfold rdAt rdE; rw [if_neg (by decide), if_neg (by decide), if_neg (by decide)]; rfl⟩
        | exact ⟨_, [_], _, rfl, pickA_perm (is := [4]) (As := [_]) rfl, rfl, by unfold rdV; rw [if_neg (by decide), if_neg (by decide)], by unfold rdAt rdE; rw [if_neg (by decide), if_neg (by decide), if_neg (by decide)]; rfl⟩
  · refine FnA.intro Tryz.tabOK Tryz.wide_ Tryz.func132 rfl (by decide) rfl (fun X => ?_)
    repeat (first | refine sc rfl ?_ | refine so rfl ?_ | refine sb rfl ?_)
    refine O_Xd (X_ptrnil Tryz.underlying155 rfl rfl rfl) ?_
    repeat (first | refine sc rfl ?_ | refine so rfl ?_ | refine sb rfl ?_)
    first
      | refine O_loadP 0 (reads_box 2) rfl rfl rfl rfl rfl rfl ?_
      | refine O_loadP 1 (reads_box 2) rfl rfl rfl rfl rfl rfl ?_
      | refine O_loadP 2 (reads_box 2) rfl rfl rfl rfl rfl rfl ?_
      | refine O_loadP 3 (reads_box 2) rfl rfl rfl rfl rfl rfl ?_
      | refine O_loadP 4 (reads_box 2) rfl rfl rfl rfl rfl rfl ?_
    repeat (first | refine sc rfl ?_ | refine so rfl ?_ | refine sb rfl ?_)
    refine C_if rfl (fun h0 => ?_) (fun h0 => ?_) <;> simp only [decide_eq_true_eq, decide_eq_false_iff_not, Bool.not_eq_true', Bool.not_eq_false', beq_iff_eq, beq_eq_false_iff_ne, bne_iff_ne, ne_eq, bne_eq_false_iff_eq, Decidable.not_not] at h0
    · repeat (first | refine sc rfl ?_ | refine so rfl ?_ | refine sb rfl ?_)
      first
        | exact ⟨_, [_], _, rfl, pickA_perm (is := [0]) (As := [_]) rfl, rfl, by unfold rdV; rw [if_pos h0], by unfold rdAt rdE; rw [if_pos h0, if_pos h0]⟩
        | exact ⟨_, [_], _, rfl, pickA_perm (is := [1]) (As := [_]) rfl, rfl, by unfold rdV; rw [if_pos h0], by unfold rdAt rdE; rw [if_pos h0, if_pos h0]⟩
        | exact ⟨_, [_], _, rfl, pickA_perm (is := [2]) (As := [_]) rfl, rfl, by unfold rdV; rw [if_pos h0], by unfold rdAt rdE; rw [if_pos h0, if_pos h0]⟩
        | exact ⟨_, [_], _, rfl, pickA_perm (is := [3]) (As := [_]) rfl, rfl, by unfold rdV; rw [if_pos h0], by unfold rdAt rdE; rw [if_pos h0, if_pos h0]⟩
        | exact ⟨_, [_], _, rfl, pickA_perm (is := [4]) (As := [_]) rfl, rfl, by unfold rdV; rw [if_pos h0], by unfold rdAt rdE; rw [if_pos h0, if_pos h0]⟩
    subst h0
    repeat (first | refine sc rfl ?_ | refine so rfl ?_ | refine sb rfl ?_)
    refine C_drawD rfl (by kernel_rfl) ?_
    repeat (first | refine sd rfl ?_ | refine sdb rfl ?_ | refine sds rfl ?_)
    refine D_X (.s b) (X_loadP 0 (A := rdr g b at_ 0) (reads_box 0) rfl rfl rfl rfl rfl rfl) ?_
    repeat (first | refine sd rfl ?_ | refine sdb rfl ?_ | refine sds rfl ?_)
    refine D_X (I64 (at_ : Nat)) (X_loadP 0 (A := rdr g b at_ 0) (reads_box 1) rfl rfl rfl rfl rfl rfl) ?_
    repeat (first | refine sd rfl ?_ | refine ⟨by omega, ?_⟩)
    rw [Int.toNat_natCast]
    refine D_callV hclo himm (hf rfl) rfl rfl rfl rfl rfl ?_
    repeat (first | refine sd rfl ?_ | refine sdb rfl ?_ | refine sds rfl ?_)
    repeat (first | refine sc rfl ?_ | refine so rfl ?_ | refine sb rfl ?_)
    refine C_if rfl (fun h1 => ?_) (fun h1 => ?_) <;> simp only [decide_eq_true_eq, decide_eq_false_iff_not, Bool.not_eq_true', Bool.not_eq_false', beq_iff_eq, beq_eq_false_iff_ne, bne_iff_ne, ne_eq, bne_eq_false_iff_eq, Decidable.not_not] at h1
    · repeat (first | refine sc rfl ?_ | refine so rfl ?_ | refine sb rfl ?_)
      first
        | refine O_Xn (X_storeP 0 (writes_box (b := g) (t := 248) (cells := [.s b, I64 (at_ : Nat), I64 0]) (by simp)) rfl rfl rfl rfl rfl rfl rfl) ?_
        | refine O_Xn (X_storeP 1 (writes_box (b := g) (t := 248) (cells := [.s b, I64 (at_ : Nat), I64 0]) (by simp)) rfl rfl rfl rfl rfl rfl rfl) ?_
        | refine O_Xn (X_storeP 2 (writes_box (b := g) (t := 248) (cells := [.s b, I64 (at_ : Nat), I64 0]) (by simp)) rfl rfl rfl rfl rfl rfl rfl) ?_
        | refine O_Xn (X_storeP 3 (writes_box (b := g) (t := 248) (cells := [.s b, I64 (at_ : Nat), I64 0]) (by simp)) rfl rfl rfl rfl rfl rfl rfl) ?_
        | refine O_Xn (X_storeP 4 (writes_box (b := g) (t := 248) (cells := [.s b, I64 (at_ : Nat), I64 0]) (by simp)) rfl rfl rfl rfl rfl rfl rfl) ?_
      repeat (first | refine sc rfl ?_ | refine so rfl ?_ | refine sb rfl ?_)
      first
        | exact ⟨_, [_], _, rfl, pickA_perm (is := [0]) (As := [_]) rfl, rfl, by unfold rdV; rw [if_neg (by decide), if_pos h1], by unfold rdAt rdE; rw [if_neg (by decide), if_pos h1, if_neg (by decide)]; rfl⟩
        | exact ⟨_, [_], _, rfl, pickA_perm (is := [1]) (As := [_]) rfl, rfl, by unfold rdV; rw [if_neg (by decide), if_pos h1], by unfold rdAt rdE; rw [if_neg (by decide), if_pos h1, if_neg (by decide)]; rfl⟩
        | exact ⟨_, [_], _, rfl, pickA_perm (is := [2]) (As := [_]) rfl, rfl, by unfold rdV; rw [if_neg (by decide), if_pos h1], by unfold rdAt rdE; rw [if_neg (by decide), if_pos h1, if_neg (by decide)]; rfl⟩
        | exact ⟨_, [_], _, rfl, pickA_perm (is := [3]) (As := [_]) rfl, rfl, by unfold rdV; rw [if_neg (by decide), if_pos h1], by unfold rdAt rdE; rw [if_neg (by decide), if_pos h1, if_neg (by decide)]; rfl⟩
        | exact ⟨_, [_], _, rfl, pickA_perm (is := [4]) (As := [_]) rfl, rfl, by unfold rdV; rw [if_neg (by decide), if_pos h1], by unfold rdAt rdE; rw [if_neg (by decide), if_pos h1, if_neg (by decide)]; rfl⟩
    · subst h1
      have hk' := hk rfl rfl
      repeat (first | refine sc rfl ?_ | refine so rfl ?_ | refine sb rfl ?_)
      first
        | refine O_loadP 0 (reads_box 1) rfl rfl rfl rfl rfl rfl ?_
        | refine O_loadP 1 (reads_box 1) rfl rfl rfl rfl rfl rfl ?_
        | refine O_loadP 2 (reads_box 1) rfl rfl rfl rfl rfl rfl ?_
        | refine O_loadP 3 (reads_box 1) rfl rfl rfl rfl rfl rfl ?_
        | refine O_loadP 4 (reads_box 1) rfl rfl rfl rfl rfl rfl ?_
      repeat (first | refine sc rfl ?_ | refine so rfl ?_ | refine sb rfl ?_)
      rw [w64 (x := (at_ : Int) + (k : Int)) (by omega) (by omega)]
      first
        | refine O_Xn (X_storeP 0 (writes_box (b := g) (t := 248) (cells := [.s b, I64 (at_ : Nat), I64 0]) (by simp)) rfl rfl rfl rfl rfl rfl rfl) ?_
        | refine O_Xn (X_storeP 1 (writes_box (b := g) (t := 248) (cells := [.s b, I64 (at_ : Nat), I64 0]) (by simp)) rfl rfl rfl rfl rfl rfl rfl) ?_
        | refine O_Xn (X_storeP 2 (writes_box (b := g) (t := 248) (cells := [.s b, I64 (at_ : Nat), I64 0]) (by simp)) rfl rfl rfl rfl rfl rfl rfl) ?_
        | refine O_Xn (X_storeP 3 (writes_box (b := g) (t := 248) (cells := [.s b, I64 (at_ : Nat), I64 0]) (by simp)) rfl rfl rfl rfl rfl rfl rfl) ?_
        | refine O_Xn (X_storeP 4 (writes_box (b := g) (t := 248) (cells := [.s b, I64 (at_ : Nat), I64 0]) (by simp)) rfl rfl rfl rfl rfl rfl rfl) ?_
      repeat (first | refine sc rfl ?_ | refine so rfl ?_ | refine sb rfl ?_)
      first
        | exact ⟨_, [_], _, rfl, pickA_perm (is := [0]) (As := [_]) rfl, rfl, by unfold rdV; rw [if_neg (by decide), if_neg (by decide)], by unfold rdAt rdE; rw [if_neg (by decide), if_neg (by decide), if_neg (by decide)]; rfl⟩
        | exact ⟨_, [_], _, rfl, pickA_perm (is := [1]) (As := [_]) rfl, rfl, by unfold rdV; rw [if_neg (by decide), if_neg (by decide)], by unfold rdAt rdE; rw [if_neg (by decide), if_neg (by decide), if_neg (by decide)]; rfl⟩
        | exact ⟨_, [_], _, rfl, pickA_perm (is := [2]) (As := [_]) rfl, rfl, by unfold rdV; rw [if_neg (by decide), if_neg (by decide)], by unfold rdAt rdE; rw [if_neg (by decide), if_neg (by decide), if_neg (by decide)]; rfl⟩
        | exact ⟨_, [_], _, rfl, pickA_perm (is := [3]) (As := [_]) rfl, rfl, by unfold rdV; rw [if_neg (by decide), if_neg (by decide)], by unfold rdAt rdE; rw [if_neg (by decide), if_neg (by decide), if_neg (by decide)]; rfl⟩
        | exact ⟨_, [_], _, rfl, pickA_perm (is := [4]) (As := [_]) rfl, rfl, by unfold rdV; rw [if_neg (by decide), if_neg (by decide)], by unfold rdAt rdE; rw [if_neg (by decide), if_neg (by decide), if_neg (by decide)]; rfl⟩

theorem takeS_A (g : Nat) (b : List UInt8) (at_ : Nat) (e : Int) (fv : AV) (f : FuncId) (caps : List AV) (k : Nat) (e2 : Int) (x : List UInt8) (hclo : IsClo fv f caps) (himm : fv.imm = true) (hat : at_ ≤ b.length) (hfv : fv = .p (cloRP f caps) ∨ ∃ v, fv = .v v)
    (hf : e = 0 → FnP Tryz.prog f ([.s (b.drop at_)] ++ caps) (· = .tup [.s x, I64 (k : Nat), I64 e2])) (hk : e = 0 → e2 = 0 → at_ + k ≤ b.length) (hb : b.length ≤ 9223372036854775807) :
    FnA Tryz.prog 134 [PT g 0, fv] [rdr g b at_ e] (fun r cs' => r = .s (rdV [] x e e2) ∧ cs' = [rdr g b (rdAt at_ k e e2) (rdE e e2)]) := by
  rcases hfv with rfl | ⟨v, rfl⟩
  · refine FnA.intro Tryz.tabOK Tryz.wide_ Tryz.func134 rfl (by decide) rfl (fun X => ?_)
    repeat (first | refine sc rfl ?_ | refine so rfl ?_ | refine sb rfl ?_)
    refine O_Xd (X_ptrnil Tryz.underlying155 rfl rfl rfl) ?_
    repeat (first | refine sc rfl ?_ | refine so rfl ?_ | refine sb rfl ?_)
    first
      | refine O_loadP 0 (reads_box 2) rfl rfl rfl rfl rfl rfl ?_
      | refine O_loadP 1 (reads_box 2) rfl rfl rfl rfl rfl rfl ?_
      | refine O_loadP 2 (reads_box 2) rfl rfl rfl rfl rfl rfl ?_
      | refine O_loadP 3 (reads_box 2) rfl rfl rfl rfl rfl rfl ?_
      | refine O_loadP 4 (reads_box 2) rfl rfl rfl rfl rfl rfl ?_
    repeat (first | refine sc rfl ?_ | refine so rfl ?_ | refine sb rfl ?_)
    refine C_if rfl (fun h0 => ?_) (fun h0 => ?_) <;> simp only [decide_eq_true_eq, decide_eq_false_iff_not, Bool.not_eq_true', Bool.not_eq_false', beq_iff_eq, beq_eq_false_iff_ne, bne_iff_ne, ne_eq, bne_eq_false_iff_eq, Decidable.not_not] at h0
    · repeat (first | refine sc rfl ?_ | refine so rfl ?_ | refine sb rfl ?_)
      first
        | exact ⟨_, [_], _, rfl, pickA_perm (is := [0]) (As := [_]) rfl, rfl, by unfold rdV; rw [if_pos h0], by unfold rdAt rdE; rw [if_pos h0, if_pos h0]⟩
        | exact ⟨_, [_], _, rfl, pickA_perm (is := [1]) (As := [_]) rfl, rfl, by unfold rdV; rw [if_pos h0], by unfold rdAt rdE; rw [if_pos h0, if_pos h0]⟩
        | exact ⟨_, [_], _, rfl, pickA_perm (is := [2]) (As := [_]) rfl, rfl, by unfold rdV; rw [if_pos h0], by unfold rdAt rdE; rw [if_pos h0, if_pos h0]⟩
        | exact ⟨_, [_], _, rfl, pickA_perm (is := [3]) (As := [_]) rfl, rfl, by unfold rdV; rw [if_pos h0], by unfold rdAt rdE; rw [if_pos h0, if_pos h0]⟩
        | exact ⟨_, [_], _, rfl, pickA_perm (is := [4]) (As := [_]) rfl, rfl, by unfold rdV; rw [if_pos h0], by unfold rdAt rdE; rw [if_pos h0, if_pos h0]⟩
    subst h0
    repeat (first | refine sc rfl ?_ | refine so rfl ?_ | refine sb rfl ?_)
    refine C_drawD rfl (by kernel_rfl) ?_
    repeat (first | refine sd rfl ?_ | refine sdb rfl ?_ | refine sds rfl ?_)
    refine D_X (.s b) (X_loadP 0 (A := rdr g b at_ 0) (reads_box 0) rfl rfl rfl rfl rfl rfl) ?_
    repeat (first | refine sd rfl ?_ | refine sdb rfl ?_ | refine sds rfl ?_)
    refine D_X (I64 (at_ : Nat)) (X_loadP 0 (A := rdr g b at_ 0) (reads_box 1) rfl rfl rfl rfl rfl rfl) ?_
    repeat (first | refine sd rfl ?_ | refine ⟨by omega, ?_⟩)
    rw [Int.toNat_natCast]
    refine D_callV hclo himm (hf rfl) rfl rfl rfl rfl rfl ?_
    repeat (first | refine sd rfl ?_ | refine sdb rfl ?_ | refine sds rfl ?_)
    repeat (first | refine sc rfl ?_ | refine so rfl ?_ | refine sb rfl ?_)
    refine C_if rfl (fun h1 => ?_) (fun h1 => ?_) <;> simp only [decide_eq_true_eq, decide_eq_false_iff_not, Bool.not_eq_true', Bool.not_eq_false', beq_iff_eq, beq_eq_false_iff_ne, bne_iff_ne, ne_eq, bne_eq_false_iff_eq, Decidable.not_not] at h1
    · repeat (first | refine sc rfl ?_ | refine so rfl ?_ | refine sb rfl ?_)
      first
        | refine O_Xn (X_storeP 0 (writes_box (b := g) (t := 248) (cells := [.s b, I64 (at_ : Nat), I64 0]) (by simp)) rfl rfl rfl rfl rfl rfl rfl) ?_
        | refine O_Xn (X_storeP 1 (writes_box (b := g) (t := 248) (cells := [.s b, I64 (at_ : Nat), I64 0]) (by simp)) rfl rfl rfl rfl rfl rfl rfl) ?_
        | refine O_Xn (X_storeP 2 (writes_box (b := g) (t := 248) (cells := [.s b, I64 (at_ : Nat), I64 0]) (by simp)) rfl rfl rfl rfl rfl rfl rfl) ?_
        | refine O_Xn (X_storeP 3 (writes_box (b := g) (t := 248) (cells := [.s b, I64 (at_ : Nat), I64 0]) (by simp)) rfl rfl rfl rfl rfl rfl rfl) ?_
        | refine O_Xn (X_storeP 4 (writes_box (b := g) (t := 248) (cells := [.s b, I64 (at_ : Nat), I64 0]) (by simp)) rfl rfl rfl rfl rfl rfl rfl) ?_
      repeat (first | refine sc rfl ?_ | refine so rfl ?_ | refine sb rfl ?_)
      first
        | exact ⟨_, [_], _, rfl, pickA_perm (is := [0]) (As := [_]) rfl, rfl, by unfold rdV; rw [if_neg (by decide), if_pos h1], by unfold rdAt rdE; rw [if_neg (by decide), if_pos h1, if_neg (by decide)]; rfl⟩
        | exact ⟨_, [_], _, rfl, pickA_perm (is := [1]) (As := [_]) rfl, rfl, by unfold rdV; rw [if_neg (by decide), if_pos h1], by unfold rdAt rdE; rw [if_neg (by decide), if_pos h1, if_neg (by decide)]; rfl⟩
        | exact ⟨_, [_], _, rfl, pickA_perm (is := [2]) (As := [_]) rfl, rfl, by unfold rdV; rw [if_neg (by decide), if_pos h1], by unfold rdAt rdE; rw [if_neg (by decide), if_pos h1, if_neg (by decide)]; rfl⟩
        | exact ⟨_, [_], _, rfl, pickA_perm (is := [3]) (As := [_]) rfl, rfl, by unfold rdV; rw [if_neg (by decide), if_pos h1], by unfold rdAt rdE; rw [if_neg (by decide), if_pos h1, if_neg (by decide)]; rfl⟩
        | exact ⟨_, [_], _, rfl, pickA_perm (is := [4]) (As := [_]) rfl, rfl, by unfold rdV; rw [if_neg (by decide), if_pos h1], by unfold rdAt rdE; rw [if_neg (by decide), if_pos h1, if_neg (by decide)]; rfl⟩
    · subst h1
      have hk' := hk rfl rfl
      repeat (first | refine sc rfl ?_ | refine so rfl ?_ | refine sb rfl ?_)
      first
        | refine O_loadP 0 (reads_box 1) rfl rfl rfl rfl rfl rfl ?_
        | refine O_loadP 1 (reads_box 1) rfl rfl rfl rfl rfl rfl ?_
        | refine O_loadP 2 (reads_box 1) rfl rfl rfl rfl rfl rfl ?_
        | refine O_loadP 3 (reads_box 1) rfl rfl rfl rfl rfl rfl ?_
        | refine O_loadP 4 (reads_box 1) rfl rfl rfl rfl rfl rfl ?_
      repeat (first | refine sc rfl ?_ | refine so rfl ?_ | refine sb rfl ?_)
      rw [w64 (x := (at_ : Int) + (k : Int)) (by omega) (by omega)]
      first
        | refine O_Xn (X_storeP 0 (writes_box (b := g) (t := 248) (cells := [.s b, I64 (at_ : Nat), I64 0]) (by simp)) rfl rfl rfl rfl rfl rfl rfl) ?_
        | refine O_Xn (X_storeP 1 (writes_box (b := g) (t := 248) (cells := [.s b, I64 (at_ : Nat), I64 0]) (by simp)) rfl rfl rfl rfl rfl rfl rfl) ?_
        | refine O_Xn (X_storeP 2 (writes_box (b := g) (t := 248) (cells := [.s b, I64 (at_ : Nat), I64 0]) (by simp)) rfl rfl rfl rfl rfl rfl rfl) ?_
        | refine O_Xn (X_storeP 3 (writes_box (b := g) (t := 248) (cells := [.s b, I64 (at_ : Nat), I64 0]) (by simp)) rfl rfl rfl rfl rfl rfl rfl) ?_
        | refine O_Xn (X_storeP 4 (writes_box (b := g) (t := 248) (cells := [.s b, I64 (at_ : Nat), I64 0]) (by simp)) rfl rfl rfl rfl rfl rfl rfl) ?_
      repeat (first | refine sc rfl ?_ | refine so rfl ?_ | refine sb rfl ?_)
      first
        | exact ⟨_, [_], _, rfl, pickA_perm (is := [0]) (As := [_]) rfl, rfl, by unfold rdV; rw [if_neg (by decide), if_neg (by decide)], by unfold rdAt rdE; rw [if_neg (by decide), if_neg (by decide), if_neg (by decide)]; rfl⟩
        | exact ⟨_, [_], _, rfl, pickA_perm (is := [1]) (As := [_]) rfl, rfl, by unfold rdV; rw [if_neg (by decide), if_neg (by decide)], by unfold rdAt rdE; rw [if_neg (by decide), if_neg (by decide), if_neg (by decide)]; rfl⟩
        | exact ⟨_, [_], _, rfl, pickA_perm (is := [2]) (As := [_]) rfl, rfl, by unfold rdV; rw [if_neg (by decide), if_neg (by decide)], by unfold rdAt rdE; rw [if_neg (by decide), if_neg (by decide), if_neg (by decide)]; rfl⟩
        | exact ⟨_, [_], _, rfl, pickA_perm (is := [3]) (As := [_]) rfl, rfl, by unfold rdV; rw [if_neg (by decide), if_neg (by decide)], by unfold rdAt rdE; rw [if_neg (by decide), if_neg (by decide), if_neg (by decide)]; rfl⟩
        | exact ⟨_, [_], _, rfl, pickA_perm (is := [4]) (As := [_]) rfl, rfl, by unfold rdV; rw [if_neg (by decide), if_neg (by decide)], by unfold rdAt rdE; rw [if_neg (by decide), if_neg (by decide), if_neg (by decide)]; rfl⟩
  · refine FnA.intro Tryz.tabOK Tryz.wide_ Tryz.func134 rfl (by decide) rfl (fun X => ?_)
    repeat (first | refine sc rfl ?_ | refine so rfl ?_ | refine sb rfl ?_)
    refine O_Xd (X_ptrnil Tryz.underlying155 rfl rfl rfl) ?_
    repeat (first | refine sc rfl ?_ | refine so rfl ?_ | refine sb rfl ?_)
    first
      | refine O_loadP 0 (reads_box 2) rfl rfl rfl rfl rfl rfl ?_
      | refine O_loadP 1 (reads_box 2) rfl rfl rfl rfl rfl rfl ?_
      | refine O_loadP 2 (reads_box 2) rfl rfl rfl rfl rfl rfl ?_
      | refine O_loadP 3 (reads_box 2) rfl rfl rfl rfl rfl rfl ?_
      | refine O_loadP 4 (reads_box 2) rfl rfl rfl rfl rfl rfl ?_
    repeat (first | refine sc rfl ?_ | refine so rfl ?_ | refine sb rfl ?_)
    refine C_if rfl (fun h0 => ?_) (fun h0 => ?_) <;> simp only [decide_eq_true_eq, decide_eq_false_iff_not, Bool.not_eq_true', Bool.not_eq_false', beq_iff_eq, beq_eq_false_iff_ne, bne_iff_ne, ne_eq, bne_eq_false_iff_eq, Decidable.not_not] at h0
    · repeat (first | refine sc rfl ?_ | refine so rfl ?_ | refine sb rfl ?_)
      first
        | exact ⟨_, [_], _, rfl, pickA_perm (is := [0]) (As := [_]) rfl, rfl, by unfold rdV; rw [if_pos h0], by unfold rdAt rdE; rw [if_pos h0, if_pos h0]⟩
        | exact ⟨_, [_], _, rfl, pickA_perm (is := [1]) (As := [_]) rfl, rfl, by unfold rdV; rw [if_pos h0], by unfold rdAt rdE; rw [if_pos h0, if_pos h0]⟩
        | exact ⟨_, [_], _, rfl, pickA_perm (is := [2]) (As := [_]) rfl, rfl, by unfold rdV; rw [if_pos h0], by unfold rdAt rdE; rw [if_pos h0, if_pos h0]⟩
        | exact ⟨_, [_], _, rfl, pickA_perm (is := [3]) (As := [_]) rfl, rfl, by unfold rdV; rw [if_pos h0], by unfold rdAt rdE; rw [if_pos h0, if_pos h0]⟩
        | exact ⟨_, [_], _, rfl, pickA_perm (is := [4]) (As := [_]) rfl, rfl, by unfold rdV; rw [if_pos h0], by unfold rdAt rdE; rw [if_pos h0, if_pos h0]⟩
    subst h0
    repeat (first | refine sc rfl ?_ | refine so rfl ?_ | refine sb rfl ?_)
    refine C_drawD rfl (by kernel_rfl) ?_
    repeat (first | refine sd rfl ?_ | refine sdb rfl ?_ | refine sds rfl ?_)
    refine D_X (.s b) (X_loadP 0 (A := rdr g b at_ 0) (reads_box 0) rfl rfl rfl rfl rfl rfl) ?_
    repeat (first | refine sd rfl ?_ | refine sdb rfl ?_ | refine sds rfl ?_)
    refine D_X (I64 (at_ : Nat)) (X_loadP 0 (A := rdr g b at_ 0) (reads_box 1) rfl rfl rfl rfl rfl rfl) ?_
    repeat (first | refine sd rfl ?_ | refine ⟨by omega, ?_⟩)
    rw [Int.toNat_natCast]
    refine D_callV hclo himm (hf rfl) rfl rfl rfl rfl rfl ?_
    repeat (first | refine sd rfl ?_ | refine sdb rfl ?_ | refine sds rfl ?_)
    repeat (first | refine sc rfl ?_ | refine so rfl ?_ | refine sb rfl ?_)
    refine C_if rfl (fun h1 => ?_) (fun h1 => ?_) <;> simp only [decide_eq_true_eq, decide_eq_false_iff_not, Bool.not_eq_true', Bool.not_eq_false', beq_iff_eq, beq_eq_false_iff_ne, bne_iff_ne, ne_eq, bne_eq_false_iff_eq, Decidable.not_not] at h1
    · repeat (first | refine sc rfl ?_ | refine so rfl ?_ | refine sb rfl ?_)
      first
        | refine O_Xn (X_storeP 0 (writes_box (b := g) (t := 248) (cells := [.s b, I64 (at_ : Nat), I64 0]) (by simp)) rfl rfl rfl rfl rfl rfl rfl) ?_
        | refine O_Xn (X_storeP 1 (writes_box (b := g) (t := 248) (cells := [.s b, I64 (at_ : Nat), I64 0]) (by simp)) rfl rfl rfl rfl rfl rfl rfl) ?_
        | refine O_Xn (X_storeP 2 (writes_box (b := g) (t := 248) (cells := [.s b, I64 (at_ : Nat), I64 0]) (by simp)) rfl rfl rfl rfl rfl rfl rfl) ?_
        | refine O_Xn (X_storeP 3 (writes_box (b := g) (t := 248) (cells := [.s b, I64 (at_ : Nat), I64 0]) (by simp)) rfl rfl rfl rfl rfl rfl rfl) ?_
        | refine O_Xn (X_storeP 4 (writes_box (b := g) (t := 248) (cells := [.s b, I64 (at_ : Nat), I64 0]) (by simp)) rfl rfl rfl rfl rfl rfl rfl) ?_
      repeat (first | refine sc rfl ?_ | refine so rfl ?_ | refine sb rfl ?_)
      first
        | exact ⟨_, [_], _, rfl, pickA_perm (is := [0]) (As := [_]) rfl, rfl, by unfold rdV; rw [if_neg (by decide), if_pos h1], by unfold rdAt rdE; rw [if_neg (by decide), if_pos h1, if_neg (by decide)]; rfl⟩
        | exact ⟨_, [_], _, rfl, pickA_perm (is := [1]) (As := [_]) rfl, rfl, by unfold rdV; rw [if_neg (by decide), if_pos h1], by unfold rdAt rdE; rw [if_neg (by decide), if_pos h1, if_neg (by decide)]; rfl⟩
        | exact ⟨_, [_], _, rfl, pickA_perm (is := [2]) (As := [_]) rfl, rfl, by unfold rdV; rw [if_neg (by decide), if_pos h1], by unfold rdAt rdE; rw [if_neg (by decide), if_pos h1, if_neg (by decide)]; rfl⟩
        | exact ⟨_, [_], _, rfl, pickA_perm (is := [3]) (As := [_]) rfl, rfl, by unfold rdV; rw [if_neg (by decide), if_pos h1], by unfold rdAt rdE; rw [if_neg (by decide), if_pos h1, if_neg (by decide)]; rfl⟩
        | exact ⟨_, [_], _, rfl, pickA_perm (is := [4]) (As := [_]) rfl, rfl, by unfold rdV; rw [if_neg (by decide), if_pos h1], by unfold rdAt rdE; rw [if_neg (by decide), if_pos h1, if_neg (by decide)]; rfl⟩
    · subst h1
      have hk' := hk rfl rfl
      repeat (first | refine sc rfl ?_ | refine so rfl ?_ | refine sb rfl ?_)
      first
        | refine O_loadP 0 (reads_box 1) rfl rfl rfl rfl rfl rfl ?_
        | refine O_loadP 1 (reads_box 1) rfl rfl rfl rfl rfl rfl ?_
        | refine O_loadP 2 (reads_box 1) rfl rfl rfl rfl rfl rfl ?_
        | refine O_loadP 3 (reads_box 1) rfl rfl rfl rfl rfl rfl ?_
        | refine O_loadP 4 (reads_box 1) rfl rfl rfl rfl rfl rfl ?_
      repeat (first | refine sc rfl ?_ | refine so rfl ?_ | refine sb rfl ?_)
      rw [w64 (x := (at_ : Int) + (k : Int)) (by omega) (by omega)]
      first
        | refine O_Xn (X_storeP 0 (writes_box (b := g) (t := 248) (cells := [.s b, I64 (at_ : Nat), I64 0]) (by simp)) rfl rfl rfl rfl rfl rfl rfl) ?_
        | refine O_Xn (X_storeP 1 (writes_box (b := g) (t := 248) (cells := [.s b, I64 (at_ : Nat), I64 0]) (by simp)) rfl rfl rfl rfl rfl rfl rfl) ?_
        | refine O_Xn (X_storeP 2 (writes_box (b := g) (t := 248) (cells := [.s b, I64 (at_ : Nat), I64 0]) (by simp)) rfl rfl rfl rfl rfl rfl rfl) ?_
        | refine O_Xn (X_storeP 3 (writes_box (b := g) (t := 248) (cells := [.s b, I64 (at_ : Nat), I64 0]) (by simp)) rfl rfl rfl rfl rfl rfl rfl) ?_
        | refine O_Xn (X_storeP 4 (writes_box (b := g) (t := 248) (cells := [.s b, I64 (at_ : Nat), I64 0]) (by simp)) rfl rfl rfl rfl rfl rfl rfl) ?_
      repeat (first | refine sc rfl ?_ | refine so rfl ?_ | refine sb rfl ?_)
      first
        | exact ⟨_, [_], _, rfl, pickA_perm (is := [0]) (As := [_]) rfl, rfl, by unfold rdV; rw [if_neg (by decide), if_neg (by decide)], by unfold rdAt rdE; rw [if_neg (by decide), if_neg (by decide), if_neg (by decide)]; rfl⟩
        | exact ⟨_, [_], _, rfl, pickA_perm (is := [1]) (As := [_]) rfl, rfl, by unfold rdV; rw [if_neg (by decide), if_neg (by decide)], by unfold rdAt rdE; rw [if_neg (by decide), if_neg (by decide), if_neg (by decide)]; rfl⟩
        | exact ⟨_, [_], _, rfl, pickA_perm (is := [2]) (As := [_]) rfl, rfl, by unfold rdV; rw [if_neg (by decide), if_neg (by decide)], by unfold rdAt rdE; rw [if_neg (by decide), if_neg (by decide), if_neg (by decide)]; rfl⟩
        | exact ⟨_, [_], _, rfl, pickA_perm (is := [3]) (As := [_]) rfl, rfl, by unfold rdV; rw [if_neg (by decide), if_neg (by decide)], by unfold rdAt rdE; rw [if_neg (by decide), if_neg (by decide), if_neg (by decide)]; rfl⟩
        | exact ⟨_, [_], _, rfl, pickA_perm (is := [4]) (As := [_]) rfl, rfl, by unfold rdV; rw [if_neg (by decide), if_neg (by decide)], by unfold rdAt rdE; rw [if_neg (by decide), if_neg (by decide), if_neg (by decide)]; rfl⟩
end Go.Proofs

/- Contracts of span: numbers, what is left, the end. -/
set_option linter.unusedSimpArgs false
set_option linter.unusedVariables false
set_option maxRecDepth 100000
namespace Go.Proofs
open Go.Sy Go.Lib

/-- A number that is not too great, of bytes. -/
def intT (m : Nat) (l : List UInt8) : Int × Nat × Int := (IntKind.i64.wrap ((tk l).1 : Nat), (tk l).2.1, if (tk l).2.2 = 0 ∧ m < (tk l).1 then 3 else (tk l).2.2)

theorem IntF_p (m : Nat) (hm : m ≤ 9223372036854775807) (l : List UInt8) (hl : l.length ≤ 9223372036854775807) : FnP Tryz.prog 133 [.s l, .cp [I64 (m : Nat)]]
    (· = .tup [I64 (intT m l).1, I64 (((intT m l).2.1 : Nat) : Int), I64 (intT m l).2.2]) := by
  refine FnP.intro Tryz.tabOK Tryz.wide_ Tryz.func133 rfl (by decide) rfl (fun X => ?_)
  unfold intT
  repeat (first | refine sc rfl ?_ | refine so rfl ?_ | refine sb rfl ?_)
  refine O_call (vTake_p l hl) (by rfl) (by rfl) (by rfl) (by rfl) (fun r hr => ?_)
  subst hr
  obtain ⟨n, k, e, ht⟩ : ∃ n k e, tk l = (n, k, e) := ⟨_, _, _, rfl⟩
  rw [ht]
  simp only []
  repeat (first | refine sc rfl ?_ | refine so rfl ?_ | refine sb rfl ?_)
  refine O_join ⟨[(6, U64 (n : Nat)), (7, I64 (k : Nat)), (8, I64 e), (23, B (decide (e = 0 ∧ m < n)))], []⟩ ?_ (fun s h => C_le _ h ?_)
  · have fin2 : ∀ x : Bool, x = decide (e = 0 ∧ m < n) → some (B x) = some (B (decide (e = 0 ∧ m < n))) := fun x hb => by rw [hb]
    refine O_case 17 rfl (fun h5 => ?_) (fun h5 => ?_) <;> simp at h5 <;> repeat (first | refine sc rfl ?_ | refine so rfl ?_ | refine sb rfl ?_)
    · rw [show max (m : Int) 0 = (m : Int) by omega, u64wrap (x := (m : Int)) (by omega) (by omega)]
      refine Le.sub [] ⟨rfl, rfl, rfl, fin2 _ ?_, trivial⟩ rfl
      rw [Bool.eq_iff_iff, decide_eq_true_eq, decide_eq_true_eq]
      omega
    · exact Le.sub [] ⟨rfl, rfl, rfl, fin2 _ (by rw [Bool.eq_iff_iff]; simp; omega), trivial⟩ rfl
  refine C_ifJ ⟨[(6, U64 (n : Nat)), (7, I64 (k : Nat)), (8, I64 (if e = 0 ∧ m < n then 3 else e))], []⟩ rfl (fun h1 => ?_) (fun h1 => ?_) (fun s h => C_le _ h ?_)
  · rw [if_pos (of_decide_eq_true h1)]
    repeat (first | refine sc rfl ?_ | refine so rfl ?_ | refine sb rfl ?_)
    exact Le.sub [] ⟨rfl, rfl, rfl, trivial⟩ rfl
  · rw [if_neg (of_decide_eq_false h1)]
    repeat (first | refine sc rfl ?_ | refine so rfl ?_ | refine sb rfl ?_)
    exact Le.sub [] ⟨rfl, rfl, rfl, trivial⟩ rfl
  repeat (first | refine sc rfl ?_ | refine so rfl ?_ | refine sb rfl ?_)
  exact ⟨_, rfl, rfl, rfl⟩

theorem Read_A0 (b : List UInt8) : FnA Tryz.prog 81 [.s b] [] (fun r cs' => ∃ g, r = PT g 0 ∧ cs' = [rdr g b 0 0]) := by
  refine FnA.intro Tryz.tabOK Tryz.wide_ Tryz.func81 rfl (by decide) rfl (fun X => ?_)
  iterate 11 (first | refine sc rfl ?_ | refine so rfl ?_ | refine sb rfl ?_)
  refine C_absb 2 rfl rfl rfl (fun g => ?_)
  repeat (first | refine sc rfl ?_ | refine so rfl ?_ | refine sb rfl ?_)
  first
    | exact ⟨_, [_], _, rfl, pickA_perm (is := [0]) (As := [_]) rfl, rfl, g, rfl, rfl⟩
    | exact ⟨_, [_], _, rfl, pickA_perm (is := [1]) (As := [_]) rfl, rfl, g, rfl, rfl⟩

theorem tk_end {l : List UInt8} (h : (tk l).2.2 = 0) : (tk l).2.1 ≤ l.length := by
  obtain ⟨n, k, e, ht⟩ : ∃ n k e, tk l = (n, k, e) := ⟨_, _, _, rfl⟩
  rw [ht] at h ⊢
  simp only [] at h
  subst h
  exact (tk_take ht).2.2.1

theorem Num_A (g : Nat) (b : List UInt8) (at_ : Nat) (e : Int) (hat : at_ ≤ b.length) (hb : b.length ≤ 9223372036854775807) :
    FnA Tryz.prog 82 [PT g 0] [rdr g b at_ e] (fun r cs' => r = U64 (rdV 0 ((tk (b.drop at_)).1 : Nat) e (tk (b.drop at_)).2.2) ∧ cs' = [rdr g b (rdAt at_ (tk (b.drop at_)).2.1 e (tk (b.drop at_)).2.2) (rdE e (tk (b.drop at_)).2.2)]) := by
  refine FnA.intro Tryz.tabOK Tryz.wide_ Tryz.func82 rfl (by decide) rfl (fun X => ?_)
  repeat (first | refine sc rfl ?_ | refine so rfl ?_ | refine sb rfl ?_)
  first
    | refine O_callA [0] (takeU_A g b at_ e (.v (.func (.func 131) #[] #[])) 131 [] (tk (b.drop at_)).2.1 (tk (b.drop at_)).2.2 ((tk (b.drop at_)).1 : Nat) (isClo_func 131) rfl hat (.inr ⟨_, rfl⟩) (fun _ => vTake_p (b.drop at_) (by simp; omega)) (fun _ h => by have := tk_end h; simp at this; omega) hb) (by rfl) (by rfl) (by rfl) (by rfl) (by rfl) ?_
    | refine O_callA [1] (takeU_A g b at_ e (.v (.func (.func 131) #[] #[])) 131 [] (tk (b.drop at_)).2.1 (tk (b.drop at_)).2.2 ((tk (b.drop at_)).1 : Nat) (isClo_func 131) rfl hat (.inr ⟨_, rfl⟩) (fun _ => vTake_p (b.drop at_) (by simp; omega)) (fun _ h => by have := tk_end h; simp at this; omega) hb) (by rfl) (by rfl) (by rfl) (by rfl) (by rfl) ?_
    | refine O_callA [2] (takeU_A g b at_ e (.v (.func (.func 131) #[] #[])) 131 [] (tk (b.drop at_)).2.1 (tk (b.drop at_)).2.2 ((tk (b.drop at_)).1 : Nat) (isClo_func 131) rfl hat (.inr ⟨_, rfl⟩) (fun _ => vTake_p (b.drop at_) (by simp; omega)) (fun _ h => by have := tk_end h; simp at this; omega) hb) (by rfl) (by rfl) (by rfl) (by rfl) (by rfl) ?_
    | refine O_callA [3] (takeU_A g b at_ e (.v (.func (.func 131) #[] #[])) 131 [] (tk (b.drop at_)).2.1 (tk (b.drop at_)).2.2 ((tk (b.drop at_)).1 : Nat) (isClo_func 131) rfl hat (.inr ⟨_, rfl⟩) (fun _ => vTake_p (b.drop at_) (by simp; omega)) (fun _ h => by have := tk_end h; simp at this; omega) hb) (by rfl) (by rfl) (by rfl) (by rfl) (by rfl) ?_
    | refine O_callA [4] (takeU_A g b at_ e (.v (.func (.func 131) #[] #[])) 131 [] (tk (b.drop at_)).2.1 (tk (b.drop at_)).2.2 ((tk (b.drop at_)).1 : Nat) (isClo_func 131) rfl hat (.inr ⟨_, rfl⟩) (fun _ => vTake_p (b.drop at_) (by simp; omega)) (fun _ h => by have := tk_end h; simp at this; omega) hb) (by rfl) (by rfl) (by rfl) (by rfl) (by rfl) ?_
  rintro r cs' ⟨rfl, rfl⟩
  repeat (first | refine sc rfl ?_ | refine so rfl ?_ | refine sb rfl ?_)
  first
    | exact ⟨_, [_], _, rfl, pickA_perm (is := [0]) (As := [_]) rfl, rfl, rfl, rfl⟩
    | exact ⟨_, [_], _, rfl, pickA_perm (is := [1]) (As := [_]) rfl, rfl, rfl, rfl⟩
    | exact ⟨_, [_], _, rfl, pickA_perm (is := [2]) (As := [_]) rfl, rfl, rfl, rfl⟩
    | exact ⟨_, [_], _, rfl, pickA_perm (is := [3]) (As := [_]) rfl, rfl, rfl, rfl⟩
    | exact ⟨_, [_], _, rfl, pickA_perm (is := [4]) (As := [_]) rfl, rfl, rfl, rfl⟩

theorem intT_end {m : Nat} {l : List UInt8} (h : (intT m l).2.2 = 0) : (intT m l).2.1 ≤ l.length := by
  unfold intT at h ⊢
  simp only [] at h ⊢
  split at h
  · cases h
  · exact tk_end h

theorem Int_A (g : Nat) (b : List UInt8) (at_ : Nat) (e : Int) (m : Nat) (hm : m ≤ 9223372036854775807) (hat : at_ ≤ b.length) (hb : b.length ≤ 9223372036854775807) :
    FnA Tryz.prog 83 [PT g 0, I64 (m : Nat)] [rdr g b at_ e] (fun r cs' => r = I64 (rdV 0 (intT m (b.drop at_)).1 e (intT m (b.drop at_)).2.2) ∧ cs' = [rdr g b (rdAt at_ (intT m (b.drop at_)).2.1 e (intT m (b.drop at_)).2.2) (rdE e (intT m (b.drop at_)).2.2)]) := by
  refine FnA.intro Tryz.tabOK Tryz.wide_ Tryz.func83 rfl (by decide) rfl (fun X => ?_)
  repeat (first | refine sc rfl ?_ | refine so rfl ?_ | refine sb rfl ?_)
  refine O_le _ (Le.freezebox 3 rfl rfl rfl) ?_
  repeat (first | refine sc rfl ?_ | refine so rfl ?_ | refine sb rfl ?_)
  refine O_makeFunc rfl rfl rfl rfl ?_
  repeat (first | refine sc rfl ?_ | refine so rfl ?_ | refine sb rfl ?_)
  first
    | refine O_callA [0] (takeI_A g b at_ e (.p (cloRP 133 [.cp [I64 (m : Nat)]])) 133 [.cp [I64 (m : Nat)]] (intT m (b.drop at_)).2.1 (intT m (b.drop at_)).2.2 (intT m (b.drop at_)).1 (isClo_p _ _) rfl hat (.inl rfl) (fun _ => IntF_p m hm (b.drop at_) (by simp; omega)) (fun _ h => by have := intT_end h; simp at this; omega) hb) (by rfl) (by rfl) (by rfl) (by rfl) (by rfl) ?_
    | refine O_callA [1] (takeI_A g b at_ e (.p (cloRP 133 [.cp [I64 (m : Nat)]])) 133 [.cp [I64 (m : Nat)]] (intT m (b.drop at_)).2.1 (intT m (b.drop at_)).2.2 (intT m (b.drop at_)).1 (isClo_p _ _) rfl hat (.inl rfl) (fun _ => IntF_p m hm (b.drop at_) (by simp; omega)) (fun _ h => by have := intT_end h; simp at this; omega) hb) (by rfl) (by rfl) (by rfl) (by rfl) (by rfl) ?_
    | refine O_callA [2] (takeI_A g b at_ e (.p (cloRP 133 [.cp [I64 (m : Nat)]])) 133 [.cp [I64 (m : Nat)]] (intT m (b.drop at_)).2.1 (intT m (b.drop at_)).2.2 (intT m (b.drop at_)).1 (isClo_p _ _) rfl hat (.inl rfl) (fun _ => IntF_p m hm (b.drop at_) (by simp; omega)) (fun _ h => by have := intT_end h; simp at this; omega) hb) (by rfl) (by rfl) (by rfl) (by rfl) (by rfl) ?_
    | refine O_callA [3] (takeI_A g b at_ e (.p (cloRP 133 [.cp [I64 (m : Nat)]])) 133 [.cp [I64 (m : Nat)]] (intT m (b.drop at_)).2.1 (intT m (b.drop at_)).2.2 (intT m (b.drop at_)).1 (isClo_p _ _) rfl hat (.inl rfl) (fun _ => IntF_p m hm (b.drop at_) (by simp; omega)) (fun _ h => by have := intT_end h; simp at this; omega) hb) (by rfl) (by rfl) (by rfl) (by rfl) (by rfl) ?_
    | refine O_callA [4] (takeI_A g b at_ e (.p (cloRP 133 [.cp [I64 (m : Nat)]])) 133 [.cp [I64 (m : Nat)]] (intT m (b.drop at_)).2.1 (intT m (b.drop at_)).2.2 (intT m (b.drop at_)).1 (isClo_p _ _) rfl hat (.inl rfl) (fun _ => IntF_p m hm (b.drop at_) (by simp; omega)) (fun _ h => by have := intT_end h; simp at this; omega) hb) (by rfl) (by rfl) (by rfl) (by rfl) (by rfl) ?_
  rintro r cs' ⟨rfl, rfl⟩
  repeat (first | refine sc rfl ?_ | refine so rfl ?_ | refine sb rfl ?_)
  first
    | exact ⟨_, [_], _, rfl, pickA_perm (is := [0]) (As := [_]) rfl, rfl, rfl, rfl⟩
    | exact ⟨_, [_], _, rfl, pickA_perm (is := [1]) (As := [_]) rfl, rfl, rfl, rfl⟩
    | exact ⟨_, [_], _, rfl, pickA_perm (is := [2]) (As := [_]) rfl, rfl, rfl, rfl⟩
    | exact ⟨_, [_], _, rfl, pickA_perm (is := [3]) (As := [_]) rfl, rfl, rfl, rfl⟩
    | exact ⟨_, [_], _, rfl, pickA_perm (is := [4]) (As := [_]) rfl, rfl, rfl, rfl⟩

theorem RestF_c (b : List UInt8) : FnP Tryz.prog 135 [.s b] (· = .tup [.s b, I64 (b.length : Nat), I64 0]) := by
  refine FnP.intro Tryz.tabOK Tryz.wide_ Tryz.func135 rfl (by decide) rfl (fun X => ?_)
  repeat (first | refine sc rfl ?_ | refine so rfl ?_ | refine sb rfl ?_)
  exact ⟨_, rfl, rfl, rfl⟩

theorem Rest_A (g : Nat) (b : List UInt8) (at_ : Nat) (e : Int) (hat : at_ ≤ b.length) (hb : b.length ≤ 9223372036854775807) :
    FnA Tryz.prog 84 [PT g 0] [rdr g b at_ e] (fun r cs' => r = .s (rdV [] (b.drop at_) e 0) ∧ cs' = [rdr g b (rdAt at_ (b.length - at_) e 0) (rdE e 0)]) := by
  refine FnA.intro Tryz.tabOK Tryz.wide_ Tryz.func84 rfl (by decide) rfl (fun X => ?_)
  repeat (first | refine sc rfl ?_ | refine so rfl ?_ | refine sb rfl ?_)
  first
    | refine O_callA [0] (takeS_A g b at_ e (.v (.func (.func 135) #[] #[])) 135 [] (b.length - at_) 0 (b.drop at_) (isClo_func 135) rfl hat (.inr ⟨_, rfl⟩) (fun _ => by have h := RestF_c (b.drop at_); rw [List.length_drop] at h; exact h) (fun _ _ => by omega) hb) (by rfl) (by rfl) (by rfl) (by rfl) (by rfl) ?_
    | refine O_callA [1] (takeS_A g b at_ e (.v (.func (.func 135) #[] #[])) 135 [] (b.length - at_) 0 (b.drop at_) (isClo_func 135) rfl hat (.inr ⟨_, rfl⟩) (fun _ => by have h := RestF_c (b.drop at_); rw [List.length_drop] at h; exact h) (fun _ _ => by omega) hb) (by rfl) (by rfl) (by rfl) (by rfl) (by rfl) ?_
    | refine O_callA [2] (takeS_A g b at_ e (.v (.func (.func 135) #[] #[])) 135 [] (b.length - at_) 0 (b.drop at_) (isClo_func 135) rfl hat (.inr ⟨_, rfl⟩) (fun _ => by have h := RestF_c (b.drop at_); rw [List.length_drop] at h; exact h) (fun _ _ => by omega) hb) (by rfl) (by rfl) (by rfl) (by rfl) (by rfl) ?_
    | refine O_callA [3] (takeS_A g b at_ e (.v (.func (.func 135) #[] #[])) 135 [] (b.length - at_) 0 (b.drop at_) (isClo_func 135) rfl hat (.inr ⟨_, rfl⟩) (fun _ => by have h := RestF_c (b.drop at_); rw [List.length_drop] at h; exact h) (fun _ _ => by omega) hb) (by rfl) (by rfl) (by rfl) (by rfl) (by rfl) ?_
    | refine O_callA [4] (takeS_A g b at_ e (.v (.func (.func 135) #[] #[])) 135 [] (b.length - at_) 0 (b.drop at_) (isClo_func 135) rfl hat (.inr ⟨_, rfl⟩) (fun _ => by have h := RestF_c (b.drop at_); rw [List.length_drop] at h; exact h) (fun _ _ => by omega) hb) (by rfl) (by rfl) (by rfl) (by rfl) (by rfl) ?_
  rintro r cs' ⟨rfl, rfl⟩
  repeat (first | refine sc rfl ?_ | refine so rfl ?_ | refine sb rfl ?_)
  first
    | exact ⟨_, [_], _, rfl, pickA_perm (is := [0]) (As := [_]) rfl, rfl, rfl, rfl⟩
    | exact ⟨_, [_], _, rfl, pickA_perm (is := [1]) (As := [_]) rfl, rfl, rfl, rfl⟩
    | exact ⟨_, [_], _, rfl, pickA_perm (is := [2]) (As := [_]) rfl, rfl, rfl, rfl⟩
    | exact ⟨_, [_], _, rfl, pickA_perm (is := [3]) (As := [_]) rfl, rfl, rfl, rfl⟩
    | exact ⟨_, [_], _, rfl, pickA_perm (is := [4]) (As := [_]) rfl, rfl, rfl, rfl⟩

def rdDone (b : List UInt8) (at_ : Nat) (e : Int) : Int := if e ≠ 0 then e else if at_ < b.length then 1 else 0
theorem Done_A (g : Nat) (b : List UInt8) (at_ : Nat) (e : Int) : FnA Tryz.prog 85 [PT g 0] [rdr g b at_ e] (fun r cs' => r = I64 (rdDone b at_ e) ∧ cs' = [rdr g b at_ e]) := by
  refine FnA.intro Tryz.tabOK Tryz.wide_ Tryz.func85 rfl (by decide) rfl (fun X => ?_)
  unfold rdDone
  repeat (first | refine sc rfl ?_ | refine so rfl ?_ | refine sb rfl ?_)
  refine O_Xd (X_ptrnil Tryz.underlying155 rfl rfl rfl) ?_
  repeat (first | refine sc rfl ?_ | refine so rfl ?_ | refine sb rfl ?_)
  refine C_false rfl rfl ?_
  repeat (first | refine sc rfl ?_ | refine so rfl ?_ | refine sb rfl ?_)
  first
    | refine O_loadP 0 (reads_box 2) rfl rfl rfl rfl rfl rfl ?_
    | refine O_loadP 1 (reads_box 2) rfl rfl rfl rfl rfl rfl ?_
    | refine O_loadP 2 (reads_box 2) rfl rfl rfl rfl rfl rfl ?_
    | refine O_loadP 3 (reads_box 2) rfl rfl rfl rfl rfl rfl ?_
    | refine O_loadP 4 (reads_box 2) rfl rfl rfl rfl rfl rfl ?_
  repeat (first | refine sc rfl ?_ | refine so rfl ?_ | refine sb rfl ?_)
  refine C_if rfl (fun h0 => ?_) (fun h0 => ?_) <;> simp only [decide_eq_true_eq, decide_eq_false_iff_not, Bool.not_eq_true', Bool.not_eq_false', beq_iff_eq, beq_eq_false_iff_ne, bne_iff_ne, ne_eq, bne_eq_false_iff_eq, Decidable.not_not] at h0
  · repeat (first | refine sc rfl ?_ | refine so rfl ?_ | refine sb rfl ?_)
    first
      | refine O_loadP 0 (reads_box 2) rfl rfl rfl rfl rfl rfl ?_
      | refine O_loadP 1 (reads_box 2) rfl rfl rfl rfl rfl rfl ?_
      | refine O_loadP 2 (reads_box 2) rfl rfl rfl rfl rfl rfl ?_
      | refine O_loadP 3 (reads_box 2) rfl rfl rfl rfl rfl rfl ?_
      | refine O_loadP 4 (reads_box 2) rfl rfl rfl rfl rfl rfl ?_
    repeat (first | refine sc rfl ?_ | refine so rfl ?_ | refine sb rfl ?_)
    first
      | exact ⟨_, [_], _, rfl, pickA_perm (is := [0]) (As := [_]) rfl, rfl, by rw [if_pos h0], rfl⟩
      | exact ⟨_, [_], _, rfl, pickA_perm (is := [1]) (As := [_]) rfl, rfl, by rw [if_pos h0], rfl⟩
      | exact ⟨_, [_], _, rfl, pickA_perm (is := [2]) (As := [_]) rfl, rfl, by rw [if_pos h0], rfl⟩
      | exact ⟨_, [_], _, rfl, pickA_perm (is := [3]) (As := [_]) rfl, rfl, by rw [if_pos h0], rfl⟩
      | exact ⟨_, [_], _, rfl, pickA_perm (is := [4]) (As := [_]) rfl, rfl, by rw [if_pos h0], rfl⟩
  subst h0
  rw [if_neg (by decide)]
  repeat (first | refine sc rfl ?_ | refine so rfl ?_ | refine sb rfl ?_)
  refine C_drawD rfl (by kernel_rfl) ?_
  repeat (first | refine sd rfl ?_ | refine sdb rfl ?_ | refine sds rfl ?_)
  refine D_X (I64 (at_ : Nat)) (X_loadP 0 (A := rdr g b at_ 0) (reads_box 1) rfl rfl rfl rfl rfl rfl) ?_
  repeat (first | refine sd rfl ?_ | refine sdb rfl ?_ | refine sds rfl ?_)
  refine D_X (.s b) (X_loadP 0 (A := rdr g b at_ 0) (reads_box 0) rfl rfl rfl rfl rfl rfl) ?_
  repeat (first | refine sd rfl ?_ | refine sdb rfl ?_ | refine sds rfl ?_)
  repeat (first | refine sc rfl ?_ | refine so rfl ?_ | refine sb rfl ?_)
  refine C_if rfl (fun h1 => ?_) (fun h1 => ?_) <;> simp only [decide_eq_true_eq, decide_eq_false_iff_not, Bool.not_eq_true', Bool.not_eq_false', beq_iff_eq, beq_eq_false_iff_ne, bne_iff_ne, ne_eq, bne_eq_false_iff_eq, Decidable.not_not] at h1
  · rw [if_pos (by omega)]
    repeat (first | refine sc rfl ?_ | refine so rfl ?_ | refine sb rfl ?_)
    first
      | exact ⟨_, [_], _, rfl, pickA_perm (is := [0]) (As := [_]) rfl, rfl, rfl, rfl⟩
      | exact ⟨_, [_], _, rfl, pickA_perm (is := [1]) (As := [_]) rfl, rfl, rfl, rfl⟩
      | exact ⟨_, [_], _, rfl, pickA_perm (is := [2]) (As := [_]) rfl, rfl, rfl, rfl⟩
      | exact ⟨_, [_], _, rfl, pickA_perm (is := [3]) (As := [_]) rfl, rfl, rfl, rfl⟩
      | exact ⟨_, [_], _, rfl, pickA_perm (is := [4]) (As := [_]) rfl, rfl, rfl, rfl⟩
  · rw [if_neg (by omega)]
    repeat (first | refine sc rfl ?_ | refine so rfl ?_ | refine sb rfl ?_)
    first
      | exact ⟨_, [_], _, rfl, pickA_perm (is := [0]) (As := [_]) rfl, rfl, rfl, rfl⟩
      | exact ⟨_, [_], _, rfl, pickA_perm (is := [1]) (As := [_]) rfl, rfl, rfl, rfl⟩
      | exact ⟨_, [_], _, rfl, pickA_perm (is := [2]) (As := [_]) rfl, rfl, rfl, rfl⟩
      | exact ⟨_, [_], _, rfl, pickA_perm (is := [3]) (As := [_]) rfl, rfl, rfl, rfl⟩
      | exact ⟨_, [_], _, rfl, pickA_perm (is := [4]) (As := [_]) rfl, rfl, rfl, rfl⟩
end Go.Proofs

/- Contracts of conf and admin: Take; of trace: Done. -/
set_option linter.unusedSimpArgs false
set_option linter.unusedVariables false
set_option maxRecDepth 100000
namespace Go.Proofs
open Go.Sy Go.Lib

/-- Numbers taken one behind the other. -/
def ctRun (b : List UInt8) : Nat → Nat → Int → List Int × Nat × Int
  | 0, at_, e => ([], at_, e)
  | n + 1, at_, e =>
    let T := intT 1048576 (b.drop at_)
    let r := ctRun b n (rdAt at_ T.2.1 e T.2.2) (rdE e T.2.2)
    (rdV 0 T.1 e T.2.2 :: r.1, r.2)
theorem ctRun_len (b : List UInt8) : ∀ (n at_ : Nat) (e : Int), (ctRun b n at_ e).1.length = n
  | 0, _, _ => rfl
  | n + 1, at_, e => by simp only [ctRun, List.length_cons]; rw [ctRun_len b n]
theorem rdAt_le {b : List UInt8} {at_ : Nat} {e : Int} (h : at_ ≤ b.length) (m : Nat) : rdAt at_ (intT m (b.drop at_)).2.1 e (intT m (b.drop at_)).2.2 ≤ b.length := by
  unfold rdAt
  split
  · exact h
  · split
    · exact h
    · rename_i h2
      have := intT_end (Decidable.not_not.1 h2)
      simp at this
      omega
def confTakeF (b : List UInt8) : Cf × Int := if rdDone b (ctRun b 9 0 0).2.1 (ctRun b 9 0 0).2.2 ≠ 0 then (default, 1) else confOfF (ctRun b 9 0 0).1

abbrev zCf : List AV := [I64 0, I64 0, I64 0, I64 0, I64 0, I64 0, I64 0, I64 0, I64 0]
theorem confTake_c (b : List UInt8) (hb : b.length ≤ 9223372036854775807) : FnP Tryz.prog 87 [.s b] (· = .tup [.agg (Cf.c (confTakeF b).1), I64 (confTakeF b).2]) := by
  have hA : FnA Tryz.prog 87 [.s b] [] (fun r cs' => r = .tup [.agg (Cf.c (confTakeF b).1), I64 (confTakeF b).2] ∧ cs' = []) := by
    refine FnA.intro Tryz.tabOK Tryz.wide_ Tryz.func87 rfl (by decide) rfl (fun X => ?_)
    obtain ⟨q, hq⟩ : ∃ q, confTakeF b = q := ⟨_, rfl⟩
    rw [hq]
    unfold confTakeF at hq
    obtain ⟨p, hp⟩ : ∃ p, ctRun b 9 0 0 = p := ⟨_, rfl⟩
    rw [hp] at hq
    have hpl : p.1.length = 9 := by rw [← hp]; exact ctRun_len b 9 0 0
    repeat (first | refine sc rfl ?_ | refine so rfl ?_ | refine sb rfl ?_)
    refine O_callA [] (Read_A0 b) (by rfl) (by rfl) (by rfl) (by rfl) (by rfl) ?_
    rintro r cs' ⟨g, rfl, rfl⟩
    repeat (first | refine sc rfl ?_ | refine so rfl ?_ | refine sb rfl ?_)
    refine C_loop (fun s : Nat × Nat × Int × List Int => ⟨[(3, I64 0), (4, PT g 0), (2, .bp 2 0), (5, .own 14), (8, I64 (s.1 : Nat))], [.box 2 28 zCf, VEC 14 3 1 INTc s.2.2.2, .abs (rdr g b s.2.1 s.2.2.1)]⟩)
      (fun s => s.1 ≤ 9 ∧ s.2.1 ≤ b.length ∧ s.2.2.2.length = s.1 ∧ s.2.2.2 ++ (ctRun b (9 - s.1) s.2.1 s.2.2.1).1 = p.1 ∧ (ctRun b (9 - s.1) s.2.1 s.2.2.1).2 = p.2) (fun s => 9 - s.1) (0, 0, 0, []) ⟨by decide, Nat.zero_le _, rfl, by rw [← hp]; rfl, by rw [← hp]; rfl⟩
      ((Le.nilvec (α := Int) INTc 5 14 3 1 rfl rfl rfl).trans (Le.pick [2, 0, 0] ⟨rfl, rfl, rfl, rfl, rfl, trivial⟩ rfl)) ?_
    rintro ⟨i, at_, e, l⟩ ⟨h1, h2, h3, h4, h5⟩
    simp only [] at h1 h2 h3 h4 h5
    repeat (first | refine sc rfl ?_ | refine so rfl ?_ | refine sb rfl ?_)
    refine C_if rfl (fun m1 => ?_) (fun m1 => ?_) <;> simp only [decide_eq_true_eq, decide_eq_false_iff_not, Bool.not_eq_true', Bool.not_eq_false', beq_iff_eq, beq_eq_false_iff_ne, bne_iff_ne, ne_eq, bne_eq_false_iff_eq, Decidable.not_not] at m1
    · have hi : i < 9 := by omega
      rw [show 9 - i = (9 - (i + 1)) + 1 by omega] at h4 h5
      simp only [ctRun] at h4 h5
      repeat (first | refine sc rfl ?_ | refine so rfl ?_ | refine sb rfl ?_)
      first
        | refine O_callA [0] (Int_A g b at_ e 1048576 (by decide) h2 hb) (by rfl) (by rfl) (by rfl) (by rfl) (by rfl) ?_
        | refine O_callA [1] (Int_A g b at_ e 1048576 (by decide) h2 hb) (by rfl) (by rfl) (by rfl) (by rfl) (by rfl) ?_
        | refine O_callA [2] (Int_A g b at_ e 1048576 (by decide) h2 hb) (by rfl) (by rfl) (by rfl) (by rfl) (by rfl) ?_
        | refine O_callA [3] (Int_A g b at_ e 1048576 (by decide) h2 hb) (by rfl) (by rfl) (by rfl) (by rfl) (by rfl) ?_
        | refine O_callA [4] (Int_A g b at_ e 1048576 (by decide) h2 hb) (by rfl) (by rfl) (by rfl) (by rfl) (by rfl) ?_
      rintro r cs' ⟨rfl, rfl⟩
      repeat (first | refine sc rfl ?_ | refine so rfl ?_ | refine sb rfl ?_)
      refine O_push INTc l (rdV 0 (intT 1048576 (b.drop at_)).1 e (intT 1048576 (b.drop at_)).2.2) [(3, I64 0), (4, PT g 0), (2, .bp 2 0), (8, I64 (i : Nat))] rfl rfl rfl rfl rfl rfl rfl rfl rfl rfl ⟨rfl, rfl, rfl, rfl, trivial⟩ rfl rfl (by omega) (by simp only [maxLen]; omega) ?_
      repeat (first | refine sc rfl ?_ | refine so rfl ?_ | refine sb rfl ?_)
      rw [w64 (x := (i : Int) + 1) (by omega) (by omega)]
      refine ⟨(i + 1, rdAt at_ (intT 1048576 (b.drop at_)).2.1 e (intT 1048576 (b.drop at_)).2.2, rdE e (intT 1048576 (b.drop at_)).2.2, l ++ [rdV 0 (intT 1048576 (b.drop at_)).1 e (intT 1048576 (b.drop at_)).2.2]), ⟨by simp only []; omega, rdAt_le h2 _, by simp [h3], ?_, h5⟩, by simp only []; omega, Le.pick [3, 0, 1] ⟨rfl, rfl, rfl, rfl, rfl, trivial⟩ rfl⟩
      rw [List.append_assoc]
      exact h4
    · obtain rfl : i = 9 := by omega
      simp only [Nat.sub_self, ctRun, List.append_nil] at h4 h5
      subst h4
      rw [← h5] at hq
      repeat (first | refine sc rfl ?_ | refine so rfl ?_ | refine sb rfl ?_)
      first
        | refine O_callA [0] (Done_A g b at_ e) (by rfl) (by rfl) (by rfl) (by rfl) (by rfl) ?_
        | refine O_callA [1] (Done_A g b at_ e) (by rfl) (by rfl) (by rfl) (by rfl) (by rfl) ?_
        | refine O_callA [2] (Done_A g b at_ e) (by rfl) (by rfl) (by rfl) (by rfl) (by rfl) ?_
        | refine O_callA [3] (Done_A g b at_ e) (by rfl) (by rfl) (by rfl) (by rfl) (by rfl) ?_
        | refine O_callA [4] (Done_A g b at_ e) (by rfl) (by rfl) (by rfl) (by rfl) (by rfl) ?_
      rintro r cs' ⟨rfl, rfl⟩
      repeat (first | refine sc rfl ?_ | refine so rfl ?_ | refine sb rfl ?_)
      refine C_if rfl (fun m2 => ?_) (fun m2 => ?_) <;> simp only [decide_eq_true_eq, decide_eq_false_iff_not, Bool.not_eq_true', Bool.not_eq_false', beq_iff_eq, beq_eq_false_iff_ne, bne_iff_ne, ne_eq, bne_eq_false_iff_eq, Decidable.not_not] at m2
      · rw [if_pos m2] at hq
        repeat (first | refine sc rfl ?_ | refine so rfl ?_ | refine sb rfl ?_)
        exact ⟨_, [], _, rfl, .refl _, rfl, by rw [← hq]; rfl, rfl⟩
      · rw [if_neg (fun h => h m2)] at hq
        repeat (first | refine sc rfl ?_ | refine so rfl ?_ | refine sb rfl ?_)
        refine O_le _ (Le.freezeL 20 rfl rfl) ?_
        refine O_call (confOf_c p.1 (by omega)) (by rfl) (by rfl) (by rfl) (by rfl) (fun r hr => ?_)
        subst hr
        rw [hq]
        repeat (first | refine sc rfl ?_ | refine so rfl ?_ | refine sb rfl ?_)
        exact ⟨_, [], _, rfl, .refl _, rfl, rfl, rfl⟩
  exact (hA.toP).mono (fun r ⟨cs, h⟩ => h.1)

/-- Is an order formed rightly? -/
def formF (o : Ord) : Int := if o.op < 1 ∨ 6 < o.op ∨ o.owner < 1 ∨ 8 < o.owner then 1 else if o.op = 1 ∨ o.op = 6 then ckF o.conf else 0
theorem conf_c (op : Int) : FnP Tryz.prog 86 [I64 op] (· = B (decide (op = 1 ∨ op = 6))) := by
  refine FnP.intro Tryz.tabOK Tryz.wide_ Tryz.func86 rfl (by decide) rfl (fun X => ?_)
  repeat (first | refine sc rfl ?_ | refine so rfl ?_ | refine sb rfl ?_)
  refine O_case 5 rfl (fun c => ?_) (fun c => ?_) <;> simp only [decide_eq_true_eq, decide_eq_false_iff_not, Bool.not_eq_true', Bool.not_eq_false', beq_iff_eq, beq_eq_false_iff_ne, bne_iff_ne, ne_eq, bne_eq_false_iff_eq, Decidable.not_not] at c
  · repeat (first | refine sc rfl ?_ | refine so rfl ?_ | refine sb rfl ?_)
    exact ⟨_, rfl, rfl, congrArg (fun b => B b) (by rw [Bool.eq_iff_iff]; simp [c])⟩
  · repeat (first | refine sc rfl ?_ | refine so rfl ?_ | refine sb rfl ?_)
    exact ⟨_, rfl, rfl, congrArg (fun b => B b) (by rw [Bool.eq_iff_iff]; simp [c])⟩
theorem form_c (o : Ord) : FnP Tryz.prog 88 [.agg (Ord.c o)] (· = I64 (formF o)) := by
  refine FnP.intro Tryz.tabOK Tryz.wide_ Tryz.func88 rfl (by decide) rfl (fun X => ?_)
  unfold formF
  repeat (first | refine sc rfl ?_ | refine so rfl ?_ | refine sb rfl ?_)
  refine O_case 7 rfl (fun c1 => ?_) (fun c1 => ?_) <;> simp only [decide_eq_true_eq, decide_eq_false_iff_not, Bool.not_eq_true', Bool.not_eq_false', beq_iff_eq, beq_eq_false_iff_ne, bne_iff_ne, ne_eq, bne_eq_false_iff_eq, Decidable.not_not] at c1
  · repeat (first | refine sc rfl ?_ | refine so rfl ?_ | refine sb rfl ?_)
    refine C_true rfl rfl ?_
    repeat (first | refine sc rfl ?_ | refine so rfl ?_ | refine sb rfl ?_)
    exact ⟨_, rfl, rfl, by rw [if_pos (by omega)]⟩
  repeat (first | refine sc rfl ?_ | refine so rfl ?_ | refine sb rfl ?_)
  refine O_case 12 rfl (fun c2 => ?_) (fun c2 => ?_) <;> simp only [decide_eq_true_eq, decide_eq_false_iff_not, Bool.not_eq_true', Bool.not_eq_false', beq_iff_eq, beq_eq_false_iff_ne, bne_iff_ne, ne_eq, bne_eq_false_iff_eq, Decidable.not_not] at c2
  · repeat (first | refine sc rfl ?_ | refine so rfl ?_ | refine sb rfl ?_)
    refine C_true rfl rfl ?_
    repeat (first | refine sc rfl ?_ | refine so rfl ?_ | refine sb rfl ?_)
    exact ⟨_, rfl, rfl, by rw [if_pos (by omega)]⟩
  repeat (first | refine sc rfl ?_ | refine so rfl ?_ | refine sb rfl ?_)
  refine O_case 17 rfl (fun c3 => ?_) (fun c3 => ?_) <;> simp only [decide_eq_true_eq, decide_eq_false_iff_not, Bool.not_eq_true', Bool.not_eq_false', beq_iff_eq, beq_eq_false_iff_ne, bne_iff_ne, ne_eq, bne_eq_false_iff_eq, Decidable.not_not] at c3
  · repeat (first | refine sc rfl ?_ | refine so rfl ?_ | refine sb rfl ?_)
    refine C_true rfl rfl ?_
    repeat (first | refine sc rfl ?_ | refine so rfl ?_ | refine sb rfl ?_)
    exact ⟨_, rfl, rfl, by rw [if_pos (by omega)]⟩
  repeat (first | refine sc rfl ?_ | refine so rfl ?_ | refine sb rfl ?_)
  refine C_if rfl (fun c4 => ?_) (fun c4 => ?_) <;> simp only [decide_eq_true_eq, decide_eq_false_iff_not, Bool.not_eq_true', Bool.not_eq_false', beq_iff_eq, beq_eq_false_iff_ne, bne_iff_ne, ne_eq, bne_eq_false_iff_eq, Decidable.not_not] at c4
  · repeat (first | refine sc rfl ?_ | refine so rfl ?_ | refine sb rfl ?_)
    exact ⟨_, rfl, rfl, by rw [if_pos (by omega)]⟩
  rw [if_neg (by omega)]
  repeat (first | refine sc rfl ?_ | refine so rfl ?_ | refine sb rfl ?_)
  refine O_call (conf_c o.op) (by rfl) (by rfl) (by rfl) (by rfl) (fun r hr => ?_)
  subst hr
  repeat (first | refine sc rfl ?_ | refine so rfl ?_ | refine sb rfl ?_)
  refine C_if rfl (fun c5 => ?_) (fun c5 => ?_) <;> simp only [decide_eq_true_eq, decide_eq_false_iff_not, Bool.not_eq_true', Bool.not_eq_false', beq_iff_eq, beq_eq_false_iff_ne, bne_iff_ne, ne_eq, bne_eq_false_iff_eq, Decidable.not_not] at c5
  · rw [if_pos c5]
    repeat (first | refine sc rfl ?_ | refine so rfl ?_ | refine sb rfl ?_)
    refine O_call (confCheck_c o.conf) (by rfl) (by rfl) (by rfl) (by rfl) (fun r hr => ?_)
    subst hr
    repeat (first | refine sc rfl ?_ | refine so rfl ?_ | refine sb rfl ?_)
    exact ⟨_, rfl, rfl, rfl⟩
  · rw [if_neg c5]
    repeat (first | refine sc rfl ?_ | refine so rfl ?_ | refine sb rfl ?_)
    exact ⟨_, rfl, rfl, rfl⟩

/-- The order of a body, as the program takes it. -/
def adTakeF (b : List UInt8) : Ord × Int :=
  let T1 := tk b
  let a1 := rdAt 0 T1.2.1 0 T1.2.2
  let e1 := rdE 0 T1.2.2
  let T2 := intT 6 (b.drop a1)
  let a2 := rdAt a1 T2.2.1 e1 T2.2.2
  let e2 := rdE e1 T2.2.2
  let T3 := intT 8 (b.drop a2)
  let a3 := rdAt a2 T3.2.1 e2 T3.2.2
  let e3 := rdE e2 T3.2.2
  let rest := rdV [] (b.drop a3) e3 0
  let o : Ord := ⟨rdV 0 (T1.1 : Nat) 0 T1.2.2, rdV 0 T2.1 e1 T2.2.2, rdV 0 T3.1 e2 T3.2.2, default⟩
  if rdDone b (rdAt a3 (b.length - a3) e3 0) (rdE e3 0) ≠ 0 then (default, 1)
  else if o.op = 1 ∨ o.op = 6 then
    if (confTakeF rest).2 ≠ 0 then (default, 1)
    else if formF { o with conf := (confTakeF rest).1 } ≠ 0 then (default, 1) else ({ o with conf := (confTakeF rest).1 }, 0)
  else if rest ≠ [] then (default, 1)
  else if formF o ≠ 0 then (default, 1) else (o, 0)
theorem rdAt_le0 {b : List UInt8} (e : Int) : rdAt 0 (tk b).2.1 e (tk b).2.2 ≤ b.length := by
  unfold rdAt
  split
  · exact Nat.zero_le _
  · split
    · exact Nat.zero_le _
    · rename_i h2
      have := tk_end (Decidable.not_not.1 h2)
      omega

theorem adTake_c (b : List UInt8) (hb : b.length ≤ 9223372036854775807) : FnP Tryz.prog 33 [.s b] (· = .tup [.agg (Ord.c (adTakeF b).1), I64 (adTakeF b).2]) := by
  have hA : FnA Tryz.prog 33 [.s b] [] (fun r cs' => r = .tup [.agg (Ord.c (adTakeF b).1), I64 (adTakeF b).2] ∧ cs' = []) := by
    refine FnA.intro Tryz.tabOK Tryz.wide_ Tryz.func33 rfl (by decide) rfl (fun X => ?_)
    obtain ⟨q, hq⟩ : ∃ q, adTakeF b = q := ⟨_, rfl⟩
    rw [hq]
    unfold adTakeF at hq
    have l1 := rdAt_le0 (b := b) 0
    obtain ⟨a1, ha1⟩ : ∃ a1, rdAt 0 (tk b).2.1 0 (tk b).2.2 = a1 := ⟨_, rfl⟩
    obtain ⟨e1, he1⟩ : ∃ e1, rdE 0 (tk b).2.2 = e1 := ⟨_, rfl⟩
    obtain ⟨v1, hv1⟩ : ∃ v1 : Int, rdV (0 : Int) (((tk b).1 : Nat) : Int) 0 (tk b).2.2 = v1 := ⟨_, rfl⟩
    simp only [ha1, he1, hv1] at hq l1
    have l2 := rdAt_le (e := e1) l1 6
    obtain ⟨T2, hT2⟩ : ∃ T2, intT 6 (b.drop a1) = T2 := ⟨_, rfl⟩
    rw [hT2] at l2
    simp only [hT2] at hq
    obtain ⟨a2, ha2⟩ : ∃ a2, rdAt a1 T2.2.1 e1 T2.2.2 = a2 := ⟨_, rfl⟩
    obtain ⟨e2, he2⟩ : ∃ e2, rdE e1 T2.2.2 = e2 := ⟨_, rfl⟩
    obtain ⟨v2, hv2⟩ : ∃ v2 : Int, rdV 0 T2.1 e1 T2.2.2 = v2 := ⟨_, rfl⟩
    simp only [ha2, he2, hv2] at hq l2
    have l3 := rdAt_le (e := e2) l2 8
    obtain ⟨T3, hT3⟩ : ∃ T3, intT 8 (b.drop a2) = T3 := ⟨_, rfl⟩
    rw [hT3] at l3
    simp only [hT3] at hq
    obtain ⟨a3, ha3⟩ : ∃ a3, rdAt a2 T3.2.1 e2 T3.2.2 = a3 := ⟨_, rfl⟩
    obtain ⟨e3, he3⟩ : ∃ e3, rdE e2 T3.2.2 = e3 := ⟨_, rfl⟩
    obtain ⟨v3, hv3⟩ : ∃ v3 : Int, rdV 0 T3.1 e2 T3.2.2 = v3 := ⟨_, rfl⟩
    simp only [ha3, he3, hv3] at hq l3
    obtain ⟨rest, hrest⟩ : ∃ rest, rdV [] (b.drop a3) e3 0 = rest := ⟨_, rfl⟩
    have hrl : rest.length ≤ b.length := by
      rw [← hrest]; unfold rdV
      split
      · simp
      · split <;> simp
    simp only [hrest] at hq
    have hN := Num_A
    repeat (first | refine sc rfl ?_ | refine so rfl ?_ | refine sb rfl ?_)
    refine O_callA [] (Read_A0 b) (by rfl) (by rfl) (by rfl) (by rfl) (by rfl) ?_
    rintro r cs' ⟨g, rfl, rfl⟩
    repeat (first | refine sc rfl ?_ | refine so rfl ?_ | refine sb rfl ?_)
    first
      | refine O_callA [0] (Num_A g b 0 0 (Nat.zero_le _) hb) (by rfl) (by rfl) (by rfl) (by rfl) (by rfl) ?_
      | refine O_callA [1] (Num_A g b 0 0 (Nat.zero_le _) hb) (by rfl) (by rfl) (by rfl) (by rfl) (by rfl) ?_
      | refine O_callA [2] (Num_A g b 0 0 (Nat.zero_le _) hb) (by rfl) (by rfl) (by rfl) (by rfl) (by rfl) ?_
      | refine O_callA [3] (Num_A g b 0 0 (Nat.zero_le _) hb) (by rfl) (by rfl) (by rfl) (by rfl) (by rfl) ?_
      | refine O_callA [4] (Num_A g b 0 0 (Nat.zero_le _) hb) (by rfl) (by rfl) (by rfl) (by rfl) (by rfl) ?_
    rintro r cs' ⟨rfl, rfl⟩
    simp only [List.drop_zero, ha1, he1, hv1]
    repeat (first | refine sc rfl ?_ | refine so rfl ?_ | refine sb rfl ?_)
    first
      | refine O_callA [0] (Int_A g b a1 e1 6 (by decide) l1 hb) (by rfl) (by rfl) (by rfl) (by rfl) (by rfl) ?_
      | refine O_callA [1] (Int_A g b a1 e1 6 (by decide) l1 hb) (by rfl) (by rfl) (by rfl) (by rfl) (by rfl) ?_
      | refine O_callA [2] (Int_A g b a1 e1 6 (by decide) l1 hb) (by rfl) (by rfl) (by rfl) (by rfl) (by rfl) ?_
      | refine O_callA [3] (Int_A g b a1 e1 6 (by decide) l1 hb) (by rfl) (by rfl) (by rfl) (by rfl) (by rfl) ?_
      | refine O_callA [4] (Int_A g b a1 e1 6 (by decide) l1 hb) (by rfl) (by rfl) (by rfl) (by rfl) (by rfl) ?_
    rintro r cs' ⟨rfl, rfl⟩
    simp only [hT2, ha2, he2, hv2]
    repeat (first | refine sc rfl ?_ | refine so rfl ?_ | refine sb rfl ?_)
    first
      | refine O_callA [0] (Int_A g b a2 e2 8 (by decide) l2 hb) (by rfl) (by rfl) (by rfl) (by rfl) (by rfl) ?_
      | refine O_callA [1] (Int_A g b a2 e2 8 (by decide) l2 hb) (by rfl) (by rfl) (by rfl) (by rfl) (by rfl) ?_
      | refine O_callA [2] (Int_A g b a2 e2 8 (by decide) l2 hb) (by rfl) (by rfl) (by rfl) (by rfl) (by rfl) ?_
      | refine O_callA [3] (Int_A g b a2 e2 8 (by decide) l2 hb) (by rfl) (by rfl) (by rfl) (by rfl) (by rfl) ?_
      | refine O_callA [4] (Int_A g b a2 e2 8 (by decide) l2 hb) (by rfl) (by rfl) (by rfl) (by rfl) (by rfl) ?_
    rintro r cs' ⟨rfl, rfl⟩
    simp only [hT3, ha3, he3, hv3]
    repeat (first | refine sc rfl ?_ | refine so rfl ?_ | refine sb rfl ?_)
    first
      | refine O_callA [0] (Rest_A g b a3 e3 l3 hb) (by rfl) (by rfl) (by rfl) (by rfl) (by rfl) ?_
      | refine O_callA [1] (Rest_A g b a3 e3 l3 hb) (by rfl) (by rfl) (by rfl) (by rfl) (by rfl) ?_
      | refine O_callA [2] (Rest_A g b a3 e3 l3 hb) (by rfl) (by rfl) (by rfl) (by rfl) (by rfl) ?_
      | refine O_callA [3] (Rest_A g b a3 e3 l3 hb) (by rfl) (by rfl) (by rfl) (by rfl) (by rfl) ?_
      | refine O_callA [4] (Rest_A g b a3 e3 l3 hb) (by rfl) (by rfl) (by rfl) (by rfl) (by rfl) ?_
    rintro r cs' ⟨rfl, rfl⟩
    simp only [hrest]
    repeat (first | refine sc rfl ?_ | refine so rfl ?_ | refine sb rfl ?_)
    first
      | refine O_callA [0] (Done_A g b (rdAt a3 (b.length - a3) e3 0) (rdE e3 0)) (by rfl) (by rfl) (by rfl) (by rfl) (by rfl) ?_
      | refine O_callA [1] (Done_A g b (rdAt a3 (b.length - a3) e3 0) (rdE e3 0)) (by rfl) (by rfl) (by rfl) (by rfl) (by rfl) ?_
      | refine O_callA [2] (Done_A g b (rdAt a3 (b.length - a3) e3 0) (rdE e3 0)) (by rfl) (by rfl) (by rfl) (by rfl) (by rfl) ?_
      | refine O_callA [3] (Done_A g b (rdAt a3 (b.length - a3) e3 0) (rdE e3 0)) (by rfl) (by rfl) (by rfl) (by rfl) (by rfl) ?_
      | refine O_callA [4] (Done_A g b (rdAt a3 (b.length - a3) e3 0) (rdE e3 0)) (by rfl) (by rfl) (by rfl) (by rfl) (by rfl) ?_
    rintro r cs' ⟨rfl, rfl⟩
    obtain ⟨C, hC⟩ : ∃ C, confTakeF rest = C := ⟨_, rfl⟩
    simp only [hC] at hq
    repeat (first | refine sc rfl ?_ | refine so rfl ?_ | refine sb rfl ?_)
    simp only [hv1]
    refine C_if rfl (fun m1 => ?_) (fun m1 => ?_) <;> simp only [decide_eq_true_eq, decide_eq_false_iff_not, Bool.not_eq_true', Bool.not_eq_false', beq_iff_eq, beq_eq_false_iff_ne, bne_iff_ne, ne_eq, bne_eq_false_iff_eq, Decidable.not_not] at m1
    · rw [if_pos m1] at hq
      repeat (first | refine sc rfl ?_ | refine so rfl ?_ | refine sb rfl ?_)
      exact ⟨_, [], _, rfl, .refl _, rfl, by rw [← hq]; rfl, rfl⟩
    rw [if_neg (fun h => h m1)] at hq
    repeat (first | refine sc rfl ?_ | refine so rfl ?_ | refine sb rfl ?_)
    refine O_call (conf_c v2) (by rfl) (by rfl) (by rfl) (by rfl) (fun r hr => ?_)
    subst hr
    repeat (first | refine sc rfl ?_ | refine so rfl ?_ | refine sb rfl ?_)
    refine C_if rfl (fun m2 => ?_) (fun m2 => ?_) <;> simp only [decide_eq_true_eq, decide_eq_false_iff_not, Bool.not_eq_true', Bool.not_eq_false', beq_iff_eq, beq_eq_false_iff_ne, bne_iff_ne, ne_eq, bne_eq_false_iff_eq, Decidable.not_not] at m2
    · rw [if_pos m2] at hq
      repeat (first | refine sc rfl ?_ | refine so rfl ?_ | refine sb rfl ?_)
      refine O_call (confTake_c rest (by omega)) (by rfl) (by rfl) (by rfl) (by rfl) (fun r hr => ?_)
      subst hr
      rw [hC]
      repeat (first | refine sc rfl ?_ | refine so rfl ?_ | refine sb rfl ?_)
      refine C_if rfl (fun m3 => ?_) (fun m3 => ?_) <;> simp only [decide_eq_true_eq, decide_eq_false_iff_not, Bool.not_eq_true', Bool.not_eq_false', beq_iff_eq, beq_eq_false_iff_ne, bne_iff_ne, ne_eq, bne_eq_false_iff_eq, Decidable.not_not] at m3
      · rw [if_pos m3] at hq
        repeat (first | refine sc rfl ?_ | refine so rfl ?_ | refine sb rfl ?_)
        exact ⟨_, [], _, rfl, .refl _, rfl, by rw [← hq]; rfl, rfl⟩
      rw [if_neg (fun h => h m3)] at hq
      repeat (first | refine sc rfl ?_ | refine so rfl ?_ | refine sb rfl ?_)
      refine O_call (form_c ⟨v1, v2, v3, C.1⟩) (by rfl) (by rfl) (by rfl) (by rfl) (fun r hr => ?_)
      subst hr
      repeat (first | refine sc rfl ?_ | refine so rfl ?_ | refine sb rfl ?_)
      refine C_if rfl (fun m4 => ?_) (fun m4 => ?_) <;> simp only [decide_eq_true_eq, decide_eq_false_iff_not, Bool.not_eq_true', Bool.not_eq_false', beq_iff_eq, beq_eq_false_iff_ne, bne_iff_ne, ne_eq, bne_eq_false_iff_eq, Decidable.not_not] at m4
      · rw [if_pos m4] at hq
        repeat (first | refine sc rfl ?_ | refine so rfl ?_ | refine sb rfl ?_)
        exact ⟨_, [], _, rfl, .refl _, rfl, by rw [← hq]; rfl, rfl⟩
      · rw [if_neg (fun h => h m4)] at hq
        repeat (first | refine sc rfl ?_ | refine so rfl ?_ | refine sb rfl ?_)
        exact ⟨_, [], _, rfl, .refl _, rfl, by rw [← hq]; rfl, rfl⟩
    · rw [if_neg m2] at hq
      repeat (first | refine sc rfl ?_ | refine so rfl ?_ | refine sb rfl ?_)
      refine C_if rfl (fun m3 => ?_) (fun m3 => ?_) <;> simp only [decide_eq_true_eq, decide_eq_false_iff_not, Bool.not_eq_true', Bool.not_eq_false', beq_iff_eq, beq_eq_false_iff_ne, bne_iff_ne, ne_eq, bne_eq_false_iff_eq, Decidable.not_not] at m3
      · rw [if_pos m3] at hq
        repeat (first | refine sc rfl ?_ | refine so rfl ?_ | refine sb rfl ?_)
        exact ⟨_, [], _, rfl, .refl _, rfl, by rw [← hq]; rfl, rfl⟩
      rw [if_neg (fun h => h m3)] at hq
      repeat (first | refine sc rfl ?_ | refine so rfl ?_ | refine sb rfl ?_)
      refine O_call (form_c ⟨v1, v2, v3, default⟩) (by rfl) (by rfl) (by rfl) (by rfl) (fun r hr => ?_)
      subst hr
      repeat (first | refine sc rfl ?_ | refine so rfl ?_ | refine sb rfl ?_)
      refine C_if rfl (fun m4 => ?_) (fun m4 => ?_) <;> simp only [decide_eq_true_eq, decide_eq_false_iff_not, Bool.not_eq_true', Bool.not_eq_false', beq_iff_eq, beq_eq_false_iff_ne, bne_iff_ne, ne_eq, bne_eq_false_iff_eq, Decidable.not_not] at m4
      · rw [if_pos m4] at hq
        repeat (first | refine sc rfl ?_ | refine so rfl ?_ | refine sb rfl ?_)
        exact ⟨_, [], _, rfl, .refl _, rfl, by rw [← hq]; rfl, rfl⟩
      · rw [if_neg (fun h => h m4)] at hq
        repeat (first | refine sc rfl ?_ | refine so rfl ?_ | refine sb rfl ?_)
        exact ⟨_, [], _, rfl, .refl _, rfl, by rw [← hq]; rfl, rfl⟩
  exact (hA.toP).mono (fun r ⟨cs, h⟩ => h.1)

/-- The order that was done at a row. -/
def trDoneF (x : Rw) : Ord × Bool := if x.act ≠ 1 ∨ x.note.kind ≠ 8 ∨ x.note.owner ≠ 0 ∨ x.note.err ≠ 0 then (default, false) else ((adTakeF x.note.body).1, decide ((adTakeF x.note.body).2 = 0))
theorem trDone_c (x : Rw) (hb : x.note.body.length ≤ 9223372036854775807) : FnP Tryz.prog 7 [.agg (Rw.c x)] (· = .tup [.agg (Ord.c (trDoneF x).1), B (trDoneF x).2]) := by
  refine FnP.intro Tryz.tabOK Tryz.wide_ Tryz.func7 rfl (by decide) rfl (fun X => ?_)
  obtain ⟨q, hq⟩ : ∃ q, trDoneF x = q := ⟨_, rfl⟩
  rw [hq]
  unfold trDoneF at hq
  repeat (first | refine sc rfl ?_ | refine so rfl ?_ | refine sb rfl ?_)
  refine O_case 9 rfl (fun c1 => ?_) (fun c1 => ?_) <;> simp only [decide_eq_true_eq, decide_eq_false_iff_not, Bool.not_eq_true', Bool.not_eq_false', beq_iff_eq, beq_eq_false_iff_ne, bne_iff_ne, ne_eq, bne_eq_false_iff_eq, Decidable.not_not] at c1
  · repeat (first | refine sc rfl ?_ | refine so rfl ?_ | refine sb rfl ?_)
    refine C_true rfl rfl ?_
    repeat (first | refine sc rfl ?_ | refine so rfl ?_ | refine sb rfl ?_)
    exact ⟨_, rfl, rfl, by rw [← hq, if_pos (by omega)]; rfl⟩
  repeat (first | refine sc rfl ?_ | refine so rfl ?_ | refine sb rfl ?_)
  refine O_case 15 rfl (fun c2 => ?_) (fun c2 => ?_) <;> simp only [decide_eq_true_eq, decide_eq_false_iff_not, Bool.not_eq_true', Bool.not_eq_false', beq_iff_eq, beq_eq_false_iff_ne, bne_iff_ne, ne_eq, bne_eq_false_iff_eq, Decidable.not_not] at c2
  · repeat (first | refine sc rfl ?_ | refine so rfl ?_ | refine sb rfl ?_)
    refine C_true rfl rfl ?_
    repeat (first | refine sc rfl ?_ | refine so rfl ?_ | refine sb rfl ?_)
    exact ⟨_, rfl, rfl, by rw [← hq, if_pos (by omega)]; rfl⟩
  repeat (first | refine sc rfl ?_ | refine so rfl ?_ | refine sb rfl ?_)
  refine O_case 21 rfl (fun c3 => ?_) (fun c3 => ?_) <;> simp only [decide_eq_true_eq, decide_eq_false_iff_not, Bool.not_eq_true', Bool.not_eq_false', beq_iff_eq, beq_eq_false_iff_ne, bne_iff_ne, ne_eq, bne_eq_false_iff_eq, Decidable.not_not] at c3
  · repeat (first | refine sc rfl ?_ | refine so rfl ?_ | refine sb rfl ?_)
    refine C_true rfl rfl ?_
    repeat (first | refine sc rfl ?_ | refine so rfl ?_ | refine sb rfl ?_)
    exact ⟨_, rfl, rfl, by rw [← hq, if_pos (by omega)]; rfl⟩
  repeat (first | refine sc rfl ?_ | refine so rfl ?_ | refine sb rfl ?_)
  refine C_if rfl (fun c4 => ?_) (fun c4 => ?_) <;> simp only [decide_eq_true_eq, decide_eq_false_iff_not, Bool.not_eq_true', Bool.not_eq_false', beq_iff_eq, beq_eq_false_iff_ne, bne_iff_ne, ne_eq, bne_eq_false_iff_eq, Decidable.not_not] at c4
  · repeat (first | refine sc rfl ?_ | refine so rfl ?_ | refine sb rfl ?_)
    exact ⟨_, rfl, rfl, by rw [← hq, if_pos (by omega)]; rfl⟩
  rw [if_neg (by omega)] at hq
  repeat (first | refine sc rfl ?_ | refine so rfl ?_ | refine sb rfl ?_)
  refine O_call (adTake_c x.note.body hb) (by rfl) (by rfl) (by rfl) (by rfl) (fun r hr => ?_)
  subst hr
  repeat (first | refine sc rfl ?_ | refine so rfl ?_ | refine sb rfl ?_)
  exact ⟨_, rfl, rfl, by rw [← hq]; rfl⟩
end Go.Proofs
