/- Contracts of conf: Check. -/
import Derived.Test.YtpkbclagmkgpkaaGreatDoorQ7
import Derived.StillTailTactics
import Derived.Test.YtpkbclagmkgpkaaGreatDoorProg
import Derived.Shelf.Strings.Builder1
import Derived.Shelf.Strings.Builder2
import Derived.Shelf.Strings.OnBuilder
import Derived.Shelf.Strings.BuilderF
import Derived.Shelf.Strings.Builder2Cap
import Derived.Shelf.Strings.Prefix
import Derived.Shelf.Bits.Mul64
import Derived.Shelf.Strings.Repeat
import Derived.Ground.Names2Prog
import Derived.Shelf.Slices.SearchI
import Derived.Shelf.Strings.Trim
import Derived.Shelf.Small.Utf8
import Derived.Shelf.Small.Bits
import Derived.Shelf.Small.Strs
import Derived.Shelf.Strings.BuilderK
import Derived.Shelf.Utf8.RuneCount
import Derived.Shelf.Strconv.Itoa0
import Derived.Shelf.Strconv.Itoa1
import Derived.Shelf.LaysM
import Derived.Shelf.Strconv.Itoa2
import Derived.Shelf.Strconv.Itoa3
import Derived.Shelf.Strconv.Itoa4
import Derived.Shelf.Strings.Search1
import Derived.Shelf.Strings.Search2
import Derived.Shelf.Strings.Search3
import Derived.Shelf.Strings.Count
import Derived.Shelf.Strings.Shaped
import Derived.Shelf.Strings.Split
import Derived.Shelf.Strings.SplitShaped
import Derived.Shelf.Unicode.Decode
import Derived.Shelf.Strings.Runes
import Derived.Shelf.Strings.RuneCount
import Derived.Shelf.Strings.AsciiSet
import Derived.Shelf.Strings.Explode
import Derived.Shelf.Unicode.DecodeSlow
import Derived.Shelf.Unicode.DecodeAny
import Derived.Shelf.Unicode.DecodeLast
import Derived.Shelf.Strings.BuilderCap
import Derived.Test.YtpkbclagmkgpkaaGreatDoorQ3
import Derived.Test.YtpkbclagmkgpkaaGreatDoorQ4
import Derived.Test.YtpkbclagmkgpkaaGreatDoorQ6
import Derived.Test.YtpkbclagmkgpkaaGreatDoorQ8
import Derived.Lib.AppendIntMem
import Derived.Lib.ItoaLen
set_option linter.unusedSimpArgs false
set_option linter.unusedVariables false
set_option maxRecDepth 100000
namespace Go.Proofs
open Go.RowKit Go.Shelf

attribute [local go_sem] Oper.semAt_some

def Cf.l (x : Cf) : List Int := [x.quantum, x.rate, x.burst, x.mem, x.slots, x.outs, x.conns, x.state, x.decode]
def Cf.vs (x : Cf) : List Value := [.int .i64 x.quantum, .int .i64 x.rate, .int .i64 x.burst, .int .i64 x.mem, .int .i64 x.slots, .int .i64 x.outs, .int .i64 x.conns, .int .i64 x.state, .int .i64 x.decode]
def okAt (x : Cf) (i : Nat) : Bool := decide (loP i ≤ x.l.getD i 0) && decide (x.l.getD i 0 ≤ hiP i)
def ckF (x : Cf) : Int := if ∀ i : Fin 9, okAt x i.val = true then 0 else 1

open Go.Sy in
theorem RepIL_v {G : IM} : ∀ {l zs : List Value}, RepIL G (l.map .v) zs → zs = l
  | [], zs, h => by simpa [RepIL] using h
  | x :: l, zs, h => by
    simp only [List.map_cons, RepIL] at h
    obtain ⟨z, t, rfl, h1, _, h2⟩ := h
    simp only [RepI] at h1
    rw [h1, RepIL_v h2]

open Go.Sy in
theorem places_calls (b : Nat) (w : World) : Calls Tryz.prog 254 #[.pointer (some ⟨b, 0, none⟩)] w fun e w' => ∃ g, e = .returned (.func (.func 289) #[] #[.pointer (some ⟨g, 0, none⟩)]) ∧ w.heap.size ≤ g ∧ w'.heap[g]? = some (.cells (arrP b).toArray 436 (0, 0)) ∧ Below w.heap.size w w' := by
  refine ((places_A b).2 IM.empty w [.pointer (some ⟨b, 0, none⟩)] ⟨fun b o v h => (by simp [IM.empty] at h), fun b x h => (by simp [IM.empty] at h)⟩ (by simp only [RepIT, RepI]; exact ⟨_, _, rfl, rfl, rfl⟩) ⟨fun A hA => (by cases hA), (by simp [blocks]), fun b hb => (by simp [blocks] at hb)⟩).mono ?_
  rintro en w' ⟨r, cr, cs', G', ⟨g, rfl, rfl⟩, rfl, g1, g2, g3, g4, g5, g6, o1, o2, o3, o4, o5⟩
  obtain ⟨vs, rfl, hvs⟩ := isClo_p 289 [PT g 0] G' _ g1
  simp only [RepIT, RepI] at hvs
  obtain ⟨z, t, hvs, rfl, rfl⟩ := hvs
  have hvs2 : vs = #[.pointer (some ⟨g, 0, none⟩)] := by
    apply Array.toList_inj.1; simpa using hvs
  subst hvs2
  obtain ⟨arr, h1, h2⟩ := g5.1 _ (List.mem_singleton.2 rfl)
  have h3 := RepIL_v h2
  have h4 : w'.heap[g]? = some (.cells (arrP b).toArray 436 (0, 0)) := by rw [← h3]; simpa using h1
  refine ⟨g, rfl, ?_, h4, ⟨o1, o2, o3, o4, fun k hk => o5 k hk (by simp [blocks]) (IM.free_still ⟨fun o => rfl, rfl⟩)⟩⟩
  rcases g6 g (by simp [blocks, boxA]) with h | h
  · exact h
  · simp [blocks] at h

theorem ownFrom_cells {β : Type} {B b : Nat} {cs : Array Value} {t : TypeId} {fz : Nat × Nat} : OwnFrom B (fun (_ : β) W => W.heap[b]? = some (.cells cs t fz)) := fun s A C row hs hg hr =>
  (hg.block b (Array.getElem?_eq_some_iff.1 hs).1 (fun e => by
    obtain ⟨_, o, ho, hc⟩ := hr b e.symm
    rw [hs] at ho; cases ho; cases hc)).trans hs
theorem cell_heap {W : World} {b j : Nat} {l : List Value} {t : TypeId} {v : Value} (h : W.heap[b]? = some (.cells l.toArray t (0, 0))) (hj : l[j]? = some v) : W.cell? ⟨b, j, none⟩ = some v := by
  simp [World.cell?, h, hj]

structure Stl (P : Program) (ops : Array Oper) (w : World) (Q : Act → Prop) (l : List Oper) (a : Act) : Prop where
  h : wpStill P ops w Q l a
theorem Stl.step {P : Program} {ops : Array Oper} {w : World} {Q : Act → Prop} {o : Oper} {rest : List Oper} {a : Act}
    (h : ∀ K : Act → Prop, (∀ a, Stl P ops w Q rest a → K a) → if Region.wanted o (yielded ops a.tmps) then o.still P a w K else K (a.put o.dst undef)) : Stl P ops w Q (o :: rest) a :=
  ⟨wpStill_step (fun K hK => h K (fun a ha => hK a ha.h))⟩
theorem Stl.nil {P : Program} {ops : Array Oper} {w : World} {Q : Act → Prop} {a : Act} (h : Q a) : Stl P ops w Q [] a := ⟨wpStill_nil h⟩

theorem ntmps255_ : Tryz.f255.ntmps = 24 := by kernel_rfl

set_option maxHeartbeats 800000 in
theorem confCheck_calls (x : Cf) (w : World) : Calls Tryz.prog 255 #[.agg x.vs.toArray] w fun e w' => e = .returned (.int .i64 (ckF x)) ∧ Below w.heap.size w w' := by
  refine (callsIn_wide (n := 6)).1 ?_
  refine callsIn_of_wp_marks Tryz.func255 rfl trivial ?_ rfl
  simp only [ntmps255_, List.size_toArray, List.length_cons, List.length_nil, Nat.reduceAdd, Nat.reduceSub, Array.replicate_succ, Array.replicate_zero, List.push_toArray, List.append_toArray, List.nil_append, List.cons_append]
  have hF : Fence.wide.fn 254 := trivial
  gi_wp2_with (gi_at_call 254; refine (callsIn_wide.2 (places_calls _ _)).mono ?_; rintro e w1 ⟨g, rfl, hg, hga, hb1⟩)
  obtain ⟨b, hb⟩ : ∃ b, w.heap.size = b := ⟨_, rfl⟩
  rw [hb] at hga
  have hs1 : b + 2 ≤ w1.heap.size := by have := hb1.size; simp at this; omega
  have hx1 : w1.heap[b]? = some (.cells x.vs.toArray 91 (0, 0)) := by
    rw [hb1.block b (by simp; omega)]; subst hb
    exact (Below.heap_alloc _ _ _ (by simp)).trans (World.alloc_heap_new w _)
  have hx2 : w1.heap[b + 1]? = some (.cells #[.int .i64 0] 29 (0, 0)) := by
    rw [hb1.block (b + 1) (by simp; omega)]; subst hb
    have := World.alloc_heap_new (w.alloc (.cells x.vs.toArray 91)) (.cells #[.int .i64 0] 29)
    rw [World.size_alloc] at this
    exact this
  have hbw : Below b w w1 := by
    subst hb
    exact (((Below.refl _ w).alloc (Nat.le_refl _) _).alloc (by simp) _).trans (hb1.mono (by simp; omega))
  simp only [hb]
  refine wpIn_rangeFunc_ownH rfl (by decide : 1 ≤ 6) (gf := 289) (lb := #[.pointer (some ⟨g, 0, none⟩)]) rfl trivial (enters_of Tryz.func289 (by kernel_rfl) rfl) (places_stops Fence.wide 5 trivial rfl (by decide) g b w1 hga) walksK_t walksK_b (Below.refl _ _) (fun _ => rfl)
    (fun pre W => (∀ i ∈ pre, okAt x i.val = true) ∧ W.heap[b]? = some (.cells x.vs.toArray 91 (0, 0)) ∧ W.heap[b + 1]? = some (.cells #[.int .i64 0] 29 (0, 0)) ∧ Below b w W)
    (fun c pre W => c = .ret ∧ (∃ i, i ∈ pre ∧ okAt x i.val = false) ∧ W.heap[b + 1]? = some (.cells #[.int .i64 1] 29 (0, 0)) ∧ Below b w W)
    ?hI ?hIx ⟨fun i hi => (by cases hi), hx1, hx2, hbw⟩
    (fun (i : Fin 9) a' W => ∃ Bx, W.heap[Bx]? = some (.cells #[.pointer (some ⟨b, i.val, none⟩), .int .i64 (loP i.val), .int .i64 (hiP i.val)] 404 (0, 0)) ∧
      a' = { tmps := #[.agg x.vs.toArray, .pointer (some ⟨b, 0, none⟩), .pointer (some ⟨b + 1, 0, none⟩), undef, .pointer (some ⟨Bx, 0, none⟩), .func (.func 289) #[] #[.pointer (some ⟨g, 0, none⟩)], .int .i64 (i.val : Int), plV b i.val, undef, undef, undef, undef, undef, undef, undef, undef, undef, undef, undef, undef, undef, undef, undef, undef], defers := [] })
    ?hAx ?assign ?body ?done ?stop
  case hI => exact OwnFrom.and (ownFrom_pure _ _) (OwnFrom.and ownFrom_cells (OwnFrom.and ownFrom_cells (ownFrom_below (by omega) (by omega))))
  case hIx => exact fun c => OwnFrom.and (ownFrom_pure _ (fun _ => c = .ret)) (OwnFrom.and (ownFrom_pure _ _) (OwnFrom.and ownFrom_cells (ownFrom_below (by omega) (by omega))))
  case hAx =>
    rintro i a' s A C row ⟨Bx, h2, h3⟩ hg hr
    exact ⟨Bx, ownFrom_cells (β := Unit) () A C row h2 hg hr, h3⟩
  case assign =>
    rintro l pre i W K ⟨hi1, hi2, hi3, hi4⟩ hK
    have hbs : b ≤ W.heap.size := by have := hi4.size; omega
    gi_wp2
    exact hK _ _ ((KeepsOthers.alloc _ _).from _) (KeepsWalks.alloc _ _) ⟨hi1, (Below.heap_alloc _ _ _ (Array.getElem?_eq_some_iff.1 hi2).1).trans hi2, (Below.heap_alloc _ _ _ (Array.getElem?_eq_some_iff.1 hi3).1).trans hi3, hi4.alloc hbs _⟩
      ⟨W.heap.size, World.alloc_heap_new _ _, rfl⟩
  case body =>
    rintro l pre i a' W hl hr ⟨hi1, hi2, hi3, hi4⟩ ⟨Bx, hbx, rfl⟩ hlen
    have hp0 : W.cell? ⟨Bx, 0, none⟩ = some (.pointer (some ⟨b, i.val, none⟩)) := cell_heap hbx rfl
    have hp1 : W.cell? ⟨Bx, 1, none⟩ = some (.int .i64 (loP i.val)) := cell_heap hbx rfl
    have hp2 : W.cell? ⟨Bx, 2, none⟩ = some (.int .i64 (hiP i.val)) := cell_heap hbx rfl
    have hv : W.cell? ⟨b, i.val, none⟩ = some (.int .i64 (x.l.getD i.val 0)) := cell_heap hi2 (by
      obtain ⟨i, hi⟩ := i
      rcases (by omega : i = 0 ∨ i = 1 ∨ i = 2 ∨ i = 3 ∨ i = 4 ∨ i = 5 ∨ i = 6 ∨ i = 7 ∨ i = 8) with rfl | rfl | rfl | rfl | rfl | rfl | rfl | rfl | rfl <;> rfl)
    refine wpIn_block (wpIn_seq (round_region_still Tryz.wide_ (by kernel_rfl) (by kernel_rfl) (fun ⟨a, w, h⟩ => h) ?_))
    obtain ⟨W', hW'⟩ : ∃ W', ({ heap := W.heap, tape := W.tape, drawn := W.drawn + 1, os := W.os, output := W.output } : World) = W' := ⟨_, rfl⟩
    have hh : W'.heap = W.heap := by rw [← hW']
    have hk1 : KeepsFrom w1.heap.size W W' := by rw [← hW']; exact (KeepsOthers.drew W).from _
    have hk2 : KeepsWalks W W' := by rw [← hW']; exact (KeepsOthers.drew W).walks
    have hb4 : Below b w W' := by rw [← hW']; exact ⟨hi4.os, hi4.tape, hi4.output, hi4.size, hi4.block⟩
    have q2 : W'.heap[b]? = some (.cells x.vs.toArray 91 (0, 0)) := by rw [hh]; exact hi2
    have q3 : W'.heap[b + 1]? = some (.cells #[.int .i64 0] 29 (0, 0)) := by rw [hh]; exact hi3
    have qx : W'.heap[Bx]? = some (.cells #[.pointer (some ⟨b, i.val, none⟩), .int .i64 (loP i.val), .int .i64 (hiP i.val)] 404 (0, 0)) := by rw [hh]; exact hbx
    rw [hW']
    clear hp0 hp1 hp2 hv hbx hi2 hi3
    have hp0 : W'.cell? ⟨Bx, 0, none⟩ = some (.pointer (some ⟨b, i.val, none⟩)) := cell_heap qx rfl
    have hp1 : W'.cell? ⟨Bx, 1, none⟩ = some (.int .i64 (loP i.val)) := cell_heap qx rfl
    have hp2 : W'.cell? ⟨Bx, 2, none⟩ = some (.int .i64 (hiP i.val)) := cell_heap qx rfl
    have hv : W'.cell? ⟨b, i.val, none⟩ = some (.int .i64 (x.l.getD i.val 0)) := cell_heap q2 (by
      obtain ⟨i, hi⟩ := i
      rcases (by omega : i = 0 ∨ i = 1 ∨ i = 2 ∨ i = 3 ∨ i = 4 ∨ i = 5 ∨ i = 6 ∨ i = 7 ∨ i = 8) with rfl | rfl | rfl | rfl | rfl | rfl | rfl | rfl | rfl <;> rfl)
    have hc := Boxed.cell q3
    have hf := Boxed.frozen q3
    obtain ⟨v, hve⟩ : ∃ v, x.l.getD i.val 0 = v := ⟨_, rfl⟩
    obtain ⟨lo, hlo⟩ : ∃ lo, loP i.val = lo := ⟨_, rfl⟩
    obtain ⟨hi, hhi⟩ : ∃ hi, hiP i.val = hi := ⟨_, rfl⟩
    have hok : okAt x i.val = (decide (lo ≤ v) && decide (v ≤ hi)) := by unfold okAt; rw [hve, hlo, hhi]
    simp only [hve, hlo, hhi] at *
    refine Stl.h ?_
    by_cases h1 : v < lo
    · iterate 16 (refine Stl.step (fun K hK => ?_); go_simp; refine hK _ ?_; clear hK K)
      refine Stl.nil ?_
      change Code.wpIn (Fence.wide.inRound l) (6 - 1 - 1) Tryz.prog _ _ _ _; refine wpIn_cond_true rfl ?_
      gi_wp2
      exact ⟨hk1.trans ((KeepsOthers.setCell _ _ _).from _), rfl, ⟨i, by simp, by rw [hok]; simp; omega⟩, Boxed.set _ q3, hb4.setCell (p := ⟨b + 1, 0, none⟩) (by simp) _⟩
    · by_cases h2 : hi < v
      · iterate 16 (refine Stl.step (fun K hK => ?_); go_simp; refine hK _ ?_; clear hK K)
        refine Stl.nil ?_
        change Code.wpIn (Fence.wide.inRound l) (6 - 1 - 1) Tryz.prog _ _ _ _; refine wpIn_cond_true rfl ?_
        gi_wp2
        exact ⟨hk1.trans ((KeepsOthers.setCell _ _ _).from _), rfl, ⟨i, by simp, by rw [hok]; simp; omega⟩, Boxed.set _ q3, hb4.setCell (p := ⟨b + 1, 0, none⟩) (by simp) _⟩
      · iterate 16 (refine Stl.step (fun K hK => ?_); go_simp; refine hK _ ?_; clear hK K)
        refine Stl.nil ?_
        change Code.wpIn (Fence.wide.inRound l) (6 - 1 - 1) Tryz.prog _ _ _ _; refine wpIn_cond_false rfl ?_
        gi_wp2
        exact ⟨hk1, hk2, fun j hj => (by
          rcases List.mem_append.1 hj with h | h
          · exact hi1 j h
          · rw [List.mem_singleton.1 h, hok]; simp; omega), q2, q3, hb4⟩
  case done =>
    rintro D xs W hD rfl ⟨hi1, hi2, hi3, hi4⟩ hK
    have hc := Boxed.cell hi3
    have hf := Boxed.frozen hi3
    gi_wp2
    have hK' := (KeepsOthers.setCell W ⟨b + 1, 0, none⟩ (.int .i64 0)).same D _ hK rfl
    have hck : ckF x = 0 := by unfold ckF; rw [if_pos (fun i => hi1 i (List.mem_finRange i))]
    refine ⟨by simp, .inl ⟨_, _, rfl, run_takeDeferred hK', ?_⟩⟩
    have hc5 := cell_kept (World.cell?_setCell_same' W ⟨b + 1, 0, none⟩ (.int .i64 0) (by rw [hc]; rfl)) (grownBy_putObj' _ D (.deferred none)) (fun r e => by cases e; exact ⟨_, hK', rfl⟩)
    refine ⟨.int .i64 0, ?_, by rw [hck], ?_⟩
    · simp [results, Tryz.f255, go_sem, hc5]
    · rw [hb]
      exact (hi4.setCell (p := ⟨b + 1, 0, none⟩) (by simp) _).trans (belowK_b (w := w) (Nat.le_of_eq hb.symm) _ D _ _ (by omega) hK' rfl rfl)
  case stop =>
    rintro D c pre W hD hSp ⟨rfl, ⟨i, him, hio⟩, hi3, hi4⟩ hK
    have hc := Boxed.cell hi3
    have hck : ckF x = 1 := by unfold ckF; rw [if_neg (fun h => by rw [h i] at hio; cases hio)]
    gi_wp2
    refine ⟨by simp, .inl ⟨_, _, rfl, run_takeDeferred hK, ?_⟩⟩
    have hc5 := cell_kept hc (grownBy_putObj' _ D (.deferred none)) (fun r e => by cases e; exact ⟨_, hK, rfl⟩)
    refine ⟨.int .i64 1, ?_, by rw [hck], ?_⟩
    · simp [results, Tryz.f255, go_sem, hc5]
    · rw [hb]
      exact hi4.trans (belowK_b (w := w) (Nat.le_of_eq hb.symm) _ D _ _ (by omega) hK rfl rfl)
end Go.Proofs

namespace Go.Proofs
open Go.RowKit Go.Shelf Go.Sy

attribute [local go_sem] Oper.semAt_some

theorem FnP.ofHand {P : Program} {f : FuncId} {avs : List AV} {x : AV} (hc : Callable P f)
    (h : ∀ G w cargs, ImOK G w → RepIT G avs cargs → Calls P f cargs.toArray w fun e w' => (∃ v, e = .returned v ∧ ∀ H, RepI H x v) ∧ Below w.heap.size w w') : FnP P f avs (· = x) := by
  refine ⟨hc, fun G w cargs him hr => ?_⟩
  refine (h G w cargs him hr).mono ?_
  rintro e w' ⟨⟨v, rfl, hv⟩, hb⟩
  exact ⟨x, v, G, rfl, rfl, hv G, IM.le_refl _, NewIn.refl _ _, ⟨fun b o u hu => by
    have h1 := him.1 b o u hu
    have h2 := Go.block_lt_of_cell h1
    simp only [World.cell?] at h1 ⊢
    rw [hb.block b h2]
    exact h1, fun b x hx => (him.2 b x hx).keep0 (hb.block b (him.2 b x hx).lt)⟩, .of hb⟩

theorem confCheck_c (x : Cf) : FnP Tryz.prog 255 [.agg (Cf.c x)] (· = I64 (ckF x)) := by
  refine FnP.ofHand ⟨Tryz.f255, Tryz.func255, by kernel_rfl, by kernel_rfl⟩ (fun G w cargs him hr => ?_)
  simp only [RepIT] at hr
  obtain ⟨z, zs, rfl, h1, rfl⟩ := hr
  simp only [RepI] at h1
  obtain ⟨ys, rfl, h2⟩ := h1
  have h3 : ys.toList = x.vs := RepIL_v (l := x.vs) h2
  have h4 : ys = x.vs.toArray := by rw [← h3]
  subst h4
  refine (confCheck_calls x w).mono ?_
  rintro e w' ⟨rfl, hb⟩
  exact ⟨⟨_, rfl, fun H => by simp only [RepI]⟩, hb⟩

def Cf.ofV (l : Nat → Int) : Cf := ⟨l 0, l 1, l 2, l 3, l 4, l 5, l 6, l 7, l 8⟩
def prt (l : Nat → Int) (pre : List (Fin 9)) : List Value := (List.finRange 9).map fun j => .int .i64 (if j ∈ pre then l j.val else 0)
theorem prt_nil (l : Nat → Int) : prt l [] = [.int .i64 0, .int .i64 0, .int .i64 0, .int .i64 0, .int .i64 0, .int .i64 0, .int .i64 0, .int .i64 0, .int .i64 0] := by simp [prt]; rfl
theorem prt_all (l : Nat → Int) : prt l (List.finRange 9) = (Cf.ofV l).vs := by
  simp only [prt, List.mem_finRange, if_true]; rfl
theorem prt_len (l : Nat → Int) (pre : List (Fin 9)) : (prt l pre).length = 9 := by simp [prt]
theorem prt_get (l : Nat → Int) (pre : List (Fin 9)) (i : Fin 9) : (prt l pre)[i.val]? = some (.int .i64 (if i ∈ pre then l i.val else 0)) := by
  simp [prt]
theorem prt_set (l : Nat → Int) (pre : List (Fin 9)) (i : Fin 9) : (prt l pre).set i.val (.int .i64 (l i.val)) = prt l (pre ++ [i]) := by
  apply List.ext_getElem?
  intro j
  rw [List.getElem?_set]
  by_cases hj : j < 9
  · have h1 := prt_get l (pre ++ [i]) ⟨j, hj⟩
    have h2 := prt_get l pre ⟨j, hj⟩
    simp only at h1 h2
    rw [h1]
    by_cases e : i.val = j
    · subst e
      rw [if_pos rfl, if_pos (by rw [prt_len]; exact hj)]
      simp
    · rw [if_neg e, h2]
      have : (⟨j, hj⟩ : Fin 9) ≠ i := fun hh => e (by rw [← hh])
      simp [this]
  · rw [if_neg (by omega), List.getElem?_eq_none (by rw [prt_len]; omega), List.getElem?_eq_none (by rw [prt_len]; omega)]

def confOfV (l : Nat → Int) : Cf × Int := if ckF (Cf.ofV l) = 0 then (Cf.ofV l, 0) else (default, 1)
theorem ntmps218_ : Tryz.f218.ntmps = 26 := by kernel_rfl

theorem set9 {w : World} {b : Nat} {a0 a1 a2 a3 a4 a5 a6 a7 a8 v0 v1 v2 v3 v4 v5 v6 v7 v8 : Value} {t : TypeId} (h : w.heap[b]? = some (.cells #[a0, a1, a2, a3, a4, a5, a6, a7, a8] t (0, 0))) :
    (((((((((w.setCell ⟨b, 0, none⟩ v0).setCell ⟨b, 1, none⟩ v1).setCell ⟨b, 2, none⟩ v2).setCell ⟨b, 3, none⟩ v3).setCell ⟨b, 4, none⟩ v4).setCell ⟨b, 5, none⟩ v5).setCell ⟨b, 6, none⟩ v6).setCell ⟨b, 7, none⟩ v7).setCell ⟨b, 8, none⟩ v8).heap[b]? = some (.cells #[v0, v1, v2, v3, v4, v5, v6, v7, v8] t (0, 0)) := by
  have := setCell_heap (o := 8) (v := v8) (setCell_heap (o := 7) (v := v7) (setCell_heap (o := 6) (v := v6) (setCell_heap (o := 5) (v := v5) (setCell_heap (o := 4) (v := v4) (setCell_heap (o := 3) (v := v3) (setCell_heap (o := 2) (v := v2) (setCell_heap (o := 1) (v := v1) (setCell_heap (o := 0) (v := v0) h))))))))
  simpa using this
theorem set9_other {w : World} {b D : Nat} {v0 v1 v2 v3 v4 v5 v6 v7 v8 : Value} (h : D ≠ b) :
    (((((((((w.setCell ⟨b, 0, none⟩ v0).setCell ⟨b, 1, none⟩ v1).setCell ⟨b, 2, none⟩ v2).setCell ⟨b, 3, none⟩ v3).setCell ⟨b, 4, none⟩ v4).setCell ⟨b, 5, none⟩ v5).setCell ⟨b, 6, none⟩ v6).setCell ⟨b, 7, none⟩ v7).setCell ⟨b, 8, none⟩ v8).heap[D]? = w.heap[D]? := by
  rw [setCell_other h, setCell_other h, setCell_other h, setCell_other h, setCell_other h, setCell_other h, setCell_other h, setCell_other h, setCell_other h]
theorem set9_below {w w0 : World} {b n : Nat} {v0 v1 v2 v3 v4 v5 v6 v7 v8 : Value} (h : Below n w0 w) (hb : n ≤ b) :
    Below n w0 (((((((((w.setCell ⟨b, 0, none⟩ v0).setCell ⟨b, 1, none⟩ v1).setCell ⟨b, 2, none⟩ v2).setCell ⟨b, 3, none⟩ v3).setCell ⟨b, 4, none⟩ v4).setCell ⟨b, 5, none⟩ v5).setCell ⟨b, 6, none⟩ v6).setCell ⟨b, 7, none⟩ v7).setCell ⟨b, 8, none⟩ v8) :=
  ((((((((h.setCell (p := ⟨b, 0, none⟩) hb _).setCell (p := ⟨b, 1, none⟩) hb _).setCell (p := ⟨b, 2, none⟩) hb _).setCell (p := ⟨b, 3, none⟩) hb _).setCell (p := ⟨b, 4, none⟩) hb _).setCell (p := ⟨b, 5, none⟩) hb _).setCell (p := ⟨b, 6, none⟩) hb _).setCell (p := ⟨b, 7, none⟩) hb _).setCell (p := ⟨b, 8, none⟩) hb _
theorem res233 {W : World} {b : Nat} {x : Cf} {tmps : Array Value} {e : Int} (h9 : W.heap[b + 1]? = some (.cells x.vs.toArray 91 (0, 0))) (h2 : tmps[2]? = some (.pointer (some ⟨b + 1, 0, none⟩))) (h3 : tmps[3]? = some (.int .i64 e)) :
    (results Tryz.f218 tmps).run Tryz.prog W = .ok (.tuple #[.agg x.vs.toArray, .int .i64 e]) W := by
  have c0 := cell_heap (j := 0) h9 rfl
  have c1 := cell_heap (j := 1) h9 rfl
  have c2 := cell_heap (j := 2) h9 rfl
  have c3 := cell_heap (j := 3) h9 rfl
  have c4 := cell_heap (j := 4) h9 rfl
  have c5 := cell_heap (j := 5) h9 rfl
  have c6 := cell_heap (j := 6) h9 rfl
  have c7 := cell_heap (j := 7) h9 rfl
  have c8 := cell_heap (j := 8) h9 rfl
  have hl := load_whole (t := 91) (i := _) rfl h9 (by intro y hy; simp only [Cf.vs, List.mem_cons, List.not_mem_nil, or_false] at hy; rcases hy with rfl | rfl | rfl | rfl | rfl | rfl | rfl | rfl | rfl <;> rfl) rfl
  simp [results, Tryz.f218, go_sem, h2, h3, c0, c1, c2, c3, c4, c5, c6, c7, c8]
  rfl

set_option maxHeartbeats 4000000 in
theorem confOf_calls (l : Nat → Int) (sb so cap : Nat) (w : World) (hs : ∀ j : Fin 9, w.cell? ⟨sb, so + j.val, none⟩ = some (.int .i64 (l j.val))) :
    Calls Tryz.prog 218 #[.slice (some ⟨sb, so, none⟩) 9 cap] w fun e w' => e = .returned (.tuple #[.agg (confOfV l).1.vs.toArray, .int .i64 (confOfV l).2]) ∧ Below w.heap.size w w' := by
  refine (callsIn_wide (n := 6)).1 ?_
  refine callsIn_of_wp_marks Tryz.func218 rfl trivial ?_ rfl
  simp only [ntmps218_, List.size_toArray, List.length_cons, List.length_nil, Nat.reduceAdd, Nat.reduceSub, Array.replicate_succ, Array.replicate_zero, List.push_toArray, List.append_toArray, List.nil_append, List.cons_append]
  have hF : Fence.wide.fn 254 := trivial
  gi_wp2_with (gi_at_call 254; refine (callsIn_wide.2 (places_calls _ _)).mono ?_; rintro e w1 ⟨g, rfl, hg, hga, hb1⟩)
  obtain ⟨b, hb⟩ : ∃ b, w.heap.size = b := ⟨_, rfl⟩
  rw [hb] at hga
  have hs1 : b + 3 ≤ w1.heap.size := by have := hb1.size; simp at this; omega
  have e0 : w1.heap[b]? = some (.cells #[.slice (some ⟨sb, so, none⟩) 9 cap] 26 (0, 0)) := by
    rw [hb1.block b (by simp; omega)]; subst hb
    exact ((Below.heap_alloc _ _ _ (by simp; omega)).trans (Below.heap_alloc _ _ _ (by simp))).trans (World.alloc_heap_new w _)
  have e1 : w1.heap[b + 1]? = some (.cells (prt l []).toArray 91 (0, 0)) := by
    rw [hb1.block (b + 1) (by simp; omega)]; subst hb
    refine (Below.heap_alloc _ _ _ (by simp)).trans ?_
    have := World.alloc_heap_new (w.alloc (.cells #[.slice (some ⟨sb, so, none⟩) 9 cap] 26)) (.cells #[.int .i64 0, .int .i64 0, .int .i64 0, .int .i64 0, .int .i64 0, .int .i64 0, .int .i64 0, .int .i64 0, .int .i64 0] 91)
    rw [World.size_alloc] at this
    rw [prt_nil]
    exact this
  have e2 : w1.heap[b + 2]? = some (.cells (prt l []).toArray 91 (0, 0)) := by
    rw [hb1.block (b + 2) (by simp; omega)]; subst hb
    have := World.alloc_heap_new ((w.alloc (.cells #[.slice (some ⟨sb, so, none⟩) 9 cap] 26)).alloc (.cells #[.int .i64 0, .int .i64 0, .int .i64 0, .int .i64 0, .int .i64 0, .int .i64 0, .int .i64 0, .int .i64 0, .int .i64 0] 91)) (.cells #[.int .i64 0, .int .i64 0, .int .i64 0, .int .i64 0, .int .i64 0, .int .i64 0, .int .i64 0, .int .i64 0, .int .i64 0] 91)
    rw [World.size_alloc, World.size_alloc] at this
    rw [prt_nil]
    exact this
  have hbw : Below b w w1 := by
    subst hb
    exact ((((Below.refl _ w).alloc (Nat.le_refl _) _).alloc (by simp) _).alloc (by simp; omega) _).trans (hb1.mono (by simp; omega))
  have hsb : sb < b := by rw [← hb]; exact Go.block_lt_of_cell (hs ⟨0, by decide⟩)
  simp only [hb]
  refine wpIn_rangeFunc_ownH rfl (by decide : 1 ≤ 6) (gf := 289) (lb := #[.pointer (some ⟨g, 0, none⟩)]) rfl trivial (enters_of Tryz.func289 (by kernel_rfl) rfl) (places_stops Fence.wide 5 trivial rfl (by decide) g (b + 1 + 1) w1 hga) walksK_t walksK_b (Below.refl _ _) (fun _ => rfl)
    (fun pre W => W.heap[b]? = some (.cells #[.slice (some ⟨sb, so, none⟩) 9 cap] 26 (0, 0)) ∧ W.heap[b + 1]? = some (.cells (prt l []).toArray 91 (0, 0)) ∧ W.heap[b + 2]? = some (.cells (prt l pre).toArray 91 (0, 0)) ∧ Below b w W)
    (fun _ _ _ => False)
    ?hI ?hIx ⟨e0, e1, e2, hbw⟩
    (fun (i : Fin 9) a' W => ∃ Bx, W.heap[Bx]? = some (.cells #[.pointer (some ⟨b + 1 + 1, i.val, none⟩), .int .i64 (loP i.val), .int .i64 (hiP i.val)] 404 (0, 0)) ∧
      a' = { tmps := #[.slice (some ⟨sb, so, none⟩) 9 cap, .pointer (some ⟨b, 0, none⟩), .pointer (some ⟨b + 1, 0, none⟩), .int .i64 0, .pointer (some ⟨b + 1 + 1, 0, none⟩), .int .i64 (i.val : Int), .pointer (some ⟨Bx, 0, none⟩), .slice (some ⟨sb, so, none⟩) 9 cap, .int .i64 9, .bool false, undef, .func (.func 289) #[] #[.pointer (some ⟨g, 0, none⟩)], .int .i64 (i.val : Int), plV (b + 1 + 1) i.val, undef, undef, undef, undef, undef, undef, undef, undef, undef, undef, undef, undef], defers := [] })
    ?hAx ?assign ?body ?done ?stop
  case hI => exact OwnFrom.and ownFrom_cells (OwnFrom.and ownFrom_cells (OwnFrom.and (fun s A C row h hg hr => ownFrom_cells (β := Unit) () A C row h hg hr) (ownFrom_below (by omega) (by omega))))
  case hIx => exact fun c s A C row h hg hr => h
  case hAx =>
    rintro i a' s A C row ⟨Bx, h2, h3⟩ hg hr
    exact ⟨Bx, ownFrom_cells (β := Unit) () A C row h2 hg hr, h3⟩
  case assign =>
    rintro l' pre i W K ⟨i0, i1, i2, i4⟩ hK
    have hbs : b ≤ W.heap.size := by have := i4.size; omega
    gi_wp2
    exact hK _ _ ((KeepsOthers.alloc _ _).from _) (KeepsWalks.alloc _ _) ⟨(Below.heap_alloc _ _ _ (Array.getElem?_eq_some_iff.1 i0).1).trans i0, (Below.heap_alloc _ _ _ (Array.getElem?_eq_some_iff.1 i1).1).trans i1, (Below.heap_alloc _ _ _ (Array.getElem?_eq_some_iff.1 i2).1).trans i2, i4.alloc hbs _⟩
      ⟨W.heap.size, World.alloc_heap_new _ _, rfl⟩
  case body =>
    rintro l' pre i a' W hl' hr ⟨i0, i1, i2, i4⟩ ⟨Bx, hbx, rfl⟩ hlen
    refine wpIn_block (round_region_still_tail 6 Tryz.wide_ (by kernel_rfl) (by kernel_rfl) (fun ⟨a, w, h⟩ => h) ?_)
    obtain ⟨W', hW'⟩ : ∃ W', ({ heap := W.heap, tape := W.tape, drawn := W.drawn + 1, os := W.os, output := W.output } : World) = W' := ⟨_, rfl⟩
    have hh : W'.heap = W.heap := by rw [← hW']
    have hk1 : KeepsFrom w1.heap.size W W' := by rw [← hW']; exact (KeepsOthers.drew W).from _
    have hk2 : KeepsWalks W W' := by rw [← hW']; exact (KeepsOthers.drew W).walks
    have hb4 : Below b w W' := by rw [← hW']; exact ⟨i4.os, i4.tape, i4.output, i4.size, i4.block⟩
    have q0 : W'.heap[b]? = some (.cells #[.slice (some ⟨sb, so, none⟩) 9 cap] 26 (0, 0)) := by rw [hh]; exact i0
    have q1 : W'.heap[b + 1]? = some (.cells (prt l []).toArray 91 (0, 0)) := by rw [hh]; exact i1
    have q2 : W'.heap[b + 2]? = some (.cells (prt l pre).toArray 91 (0, 0)) := by rw [hh]; exact i2
    have qx : W'.heap[Bx]? = some (.cells #[.pointer (some ⟨b + 1 + 1, i.val, none⟩), .int .i64 (loP i.val), .int .i64 (hiP i.val)] 404 (0, 0)) := by rw [hh]; exact hbx
    have hv : W'.cell? ⟨sb, so + i.val, none⟩ = some (.int .i64 (l i.val)) := (hb4.cell (p := ⟨sb, so + i.val, none⟩) hsb).trans (hs i)
    rw [hW']
    simp only [List.take_succ_cons, List.take_zero, List.drop_succ_cons, List.drop_zero]
    refine Stl.h ?_
    clear hbx i0 i1 i2 hr hl' hg hb1 e0 e1 e2 hga hs
    have hp0 : W'.cell? ⟨Bx, 0, none⟩ = some (.pointer (some ⟨b + 1 + 1, i.val, none⟩)) := cell_heap qx rfl
    have hc0 := Boxed.cell q0
    have hc2 : W'.cell? ⟨b + 1 + 1, i.val, none⟩ = some (.int .i64 (if i ∈ pre then l i.val else 0)) := cell_heap q2 (prt_get l pre i)
    have hf2 : W'.frozen? ⟨b + 1 + 1, i.val, none⟩ = false := by simp [World.frozen?, show W'.heap[b + 1 + 1]? = _ from q2]
    have hi9 : (i.val : Int) < 9 := by omega
    have hi0 : (0 : Int) ≤ (i.val : Int) := by omega
    iterate 6 (refine Stl.step (fun K hK => ?_); go_simp; refine hK _ ?_; clear hK K)
    refine Stl.nil ?_
    go_wp2
    refine ⟨hk1.trans ((KeepsOthers.setCell _ _ _).from _), hk2.trans (KeepsWalks.setCell _ _ _), (setCell_other (by omega)).trans q0, (setCell_other (by omega)).trans q1, ?_, hb4.setCell (p := ⟨b + 1 + 1, i.val, none⟩) (by simp; omega) _⟩
    have h5 := setCell_heap (o := i.val) (v := .int .i64 (l i.val)) q2
    rw [show (prt l (pre ++ [i])).toArray = (prt l pre).toArray.setIfInBounds i.val (.int .i64 (l i.val)) by rw [← prt_set]; simp]
    exact h5
  case done =>
    rintro D xs W hD rfl ⟨i0, i1, i2, i4⟩ hK
    rw [prt_all] at i2
    have hF2 : Fence.wide.fn 255 := trivial
    have c0 : W.cell? ⟨b + 1 + 1, 0, none⟩ = some (.int .i64 (l 0)) := cell_heap i2 rfl
    have c1 : W.cell? ⟨b + 1 + 1, 1, none⟩ = some (.int .i64 (l 1)) := cell_heap i2 rfl
    have c2 : W.cell? ⟨b + 1 + 1, 2, none⟩ = some (.int .i64 (l 2)) := cell_heap i2 rfl
    have c3 : W.cell? ⟨b + 1 + 1, 3, none⟩ = some (.int .i64 (l 3)) := cell_heap i2 rfl
    have c4 : W.cell? ⟨b + 1 + 1, 4, none⟩ = some (.int .i64 (l 4)) := cell_heap i2 rfl
    have c5 : W.cell? ⟨b + 1 + 1, 5, none⟩ = some (.int .i64 (l 5)) := cell_heap i2 rfl
    have c6 : W.cell? ⟨b + 1 + 1, 6, none⟩ = some (.int .i64 (l 6)) := cell_heap i2 rfl
    have c7 : W.cell? ⟨b + 1 + 1, 7, none⟩ = some (.int .i64 (l 7)) := cell_heap i2 rfl
    have c8 : W.cell? ⟨b + 1 + 1, 8, none⟩ = some (.int .i64 (l 8)) := cell_heap i2 rfl
    gi_wp2
    refine (callsIn_wide.2 (confCheck_calls (Cf.ofV l) W)).mono ?_
    rintro e w2 ⟨rfl, hb2⟩
    obtain ⟨ce, hce⟩ : ∃ ce, ckF (Cf.ofV l) = ce := ⟨_, rfl⟩
    simp only [hce]
    have r1 : w2.heap[b + 1]? = some (.cells (prt l []).toArray 91 (0, 0)) := (hb2.block _ (Array.getElem?_eq_some_iff.1 i1).1).trans i1
    have r2 : w2.heap[b + 1 + 1]? = some (.cells (Cf.ofV l).vs.toArray 91 (0, 0)) := (hb2.block _ (Array.getElem?_eq_some_iff.1 i2).1).trans i2
    have rK : w2.heap[D]? = some (.deferred (some [])) := (hb2.block _ (Array.getElem?_eq_some_iff.1 hK).1).trans hK
    have rB : Below b w w2 := i4.trans (hb2.mono (by have := i4.size; omega))
    rw [prt_nil] at r1
    have d0 : w2.cell? ⟨b + 1 + 1, 0, none⟩ = some (.int .i64 (l 0)) := cell_heap r2 rfl
    have d1 : w2.cell? ⟨b + 1 + 1, 1, none⟩ = some (.int .i64 (l 1)) := cell_heap r2 rfl
    have d2 : w2.cell? ⟨b + 1 + 1, 2, none⟩ = some (.int .i64 (l 2)) := cell_heap r2 rfl
    have d3 : w2.cell? ⟨b + 1 + 1, 3, none⟩ = some (.int .i64 (l 3)) := cell_heap r2 rfl
    have d4 : w2.cell? ⟨b + 1 + 1, 4, none⟩ = some (.int .i64 (l 4)) := cell_heap r2 rfl
    have d5 : w2.cell? ⟨b + 1 + 1, 5, none⟩ = some (.int .i64 (l 5)) := cell_heap r2 rfl
    have d6 : w2.cell? ⟨b + 1 + 1, 6, none⟩ = some (.int .i64 (l 6)) := cell_heap r2 rfl
    have d7 : w2.cell? ⟨b + 1 + 1, 7, none⟩ = some (.int .i64 (l 7)) := cell_heap r2 rfl
    have d8 : w2.cell? ⟨b + 1 + 1, 8, none⟩ = some (.int .i64 (l 8)) := cell_heap r2 rfl
    have z0 : w2.cell? ⟨b + 1, 0, none⟩ = some (.int .i64 0) := cell_heap r1 rfl
    have z1 : w2.cell? ⟨b + 1, 1, none⟩ = some (.int .i64 0) := cell_heap r1 rfl
    have z2 : w2.cell? ⟨b + 1, 2, none⟩ = some (.int .i64 0) := cell_heap r1 rfl
    have z3 : w2.cell? ⟨b + 1, 3, none⟩ = some (.int .i64 0) := cell_heap r1 rfl
    have z4 : w2.cell? ⟨b + 1, 4, none⟩ = some (.int .i64 0) := cell_heap r1 rfl
    have z5 : w2.cell? ⟨b + 1, 5, none⟩ = some (.int .i64 0) := cell_heap r1 rfl
    have z6 : w2.cell? ⟨b + 1, 6, none⟩ = some (.int .i64 0) := cell_heap r1 rfl
    have z7 : w2.cell? ⟨b + 1, 7, none⟩ = some (.int .i64 0) := cell_heap r1 rfl
    have z8 : w2.cell? ⟨b + 1, 8, none⟩ = some (.int .i64 0) := cell_heap r1 rfl
    have f0 : w2.frozen? ⟨b + 1, 0, none⟩ = false := by simp [World.frozen?, r1]
    have f1 : w2.frozen? ⟨b + 1, 1, none⟩ = false := by simp [World.frozen?, r1]
    have f2 : w2.frozen? ⟨b + 1, 2, none⟩ = false := by simp [World.frozen?, r1]
    have f3 : w2.frozen? ⟨b + 1, 3, none⟩ = false := by simp [World.frozen?, r1]
    have f4 : w2.frozen? ⟨b + 1, 4, none⟩ = false := by simp [World.frozen?, r1]
    have f5 : w2.frozen? ⟨b + 1, 5, none⟩ = false := by simp [World.frozen?, r1]
    have f6 : w2.frozen? ⟨b + 1, 6, none⟩ = false := by simp [World.frozen?, r1]
    have f7 : w2.frozen? ⟨b + 1, 7, none⟩ = false := by simp [World.frozen?, r1]
    have f8 : w2.frozen? ⟨b + 1, 8, none⟩ = false := by simp [World.frozen?, r1]
    by_cases h0 : ce = 0
    · subst h0
      gi_wp2
      have hD9 := (set9_other (v0 := .int .i64 (l 0)) (v1 := .int .i64 (l 1)) (v2 := .int .i64 (l 2)) (v3 := .int .i64 (l 3)) (v4 := .int .i64 (l 4)) (v5 := .int .i64 (l 5)) (v6 := .int .i64 (l 6)) (v7 := .int .i64 (l 7)) (v8 := .int .i64 (l 8)) (show D ≠ b + 1 by omega)).trans rK
      have hN9 := set9 (v0 := .int .i64 (l 0)) (v1 := .int .i64 (l 1)) (v2 := .int .i64 (l 2)) (v3 := .int .i64 (l 3)) (v4 := .int .i64 (l 4)) (v5 := .int .i64 (l 5)) (v6 := .int .i64 (l 6)) (v7 := .int .i64 (l 7)) (v8 := .int .i64 (l 8)) r1
      have hB9 := set9_below (v0 := .int .i64 (l 0)) (v1 := .int .i64 (l 1)) (v2 := .int .i64 (l 2)) (v3 := .int .i64 (l 3)) (v4 := .int .i64 (l 4)) (v5 := .int .i64 (l 5)) (v6 := .int .i64 (l 6)) (v7 := .int .i64 (l 7)) (v8 := .int .i64 (l 8)) rB (show b ≤ b + 1 by omega)
      refine ⟨by simp, .inl ⟨_, _, rfl, run_takeDeferred hD9, ?_⟩⟩
      refine ⟨_, res233 (x := Cf.ofV l) (e := 0) ((World.putObj_heap_other (show b + 1 ≠ D by omega)).trans hN9) rfl rfl, by unfold confOfV; rw [hce, if_pos rfl], ?_⟩
      rw [hb]
      exact hB9.trans (belowK_b (w := w) (Nat.le_of_eq hb.symm) _ D _ _ (by omega) hD9 rfl rfl)
    · gi_wp2
      have hD9 := (set9_other (v0 := .int .i64 0) (v1 := .int .i64 0) (v2 := .int .i64 0) (v3 := .int .i64 0) (v4 := .int .i64 0) (v5 := .int .i64 0) (v6 := .int .i64 0) (v7 := .int .i64 0) (v8 := .int .i64 0) (show D ≠ b + 1 by omega)).trans rK
      have hN9 := set9 (v0 := .int .i64 0) (v1 := .int .i64 0) (v2 := .int .i64 0) (v3 := .int .i64 0) (v4 := .int .i64 0) (v5 := .int .i64 0) (v6 := .int .i64 0) (v7 := .int .i64 0) (v8 := .int .i64 0) r1
      have hB9 := set9_below (v0 := .int .i64 0) (v1 := .int .i64 0) (v2 := .int .i64 0) (v3 := .int .i64 0) (v4 := .int .i64 0) (v5 := .int .i64 0) (v6 := .int .i64 0) (v7 := .int .i64 0) (v8 := .int .i64 0) rB (show b ≤ b + 1 by omega)
      refine ⟨by simp, .inl ⟨_, _, rfl, run_takeDeferred hD9, ?_⟩⟩
      refine ⟨_, res233 (x := default) (e := 1) ((World.putObj_heap_other (show b + 1 ≠ D by omega)).trans hN9) rfl rfl, by unfold confOfV; rw [hce, if_neg h0], ?_⟩
      rw [hb]
      exact hB9.trans (belowK_b (w := w) (Nat.le_of_eq hb.symm) _ D _ _ (by omega) hD9 rfl rfl)
  case stop =>
    rintro D c pre W hD hSp h hK
    exact h.elim

def confOfF (l : List Int) : Cf × Int := if l.length = 9 then confOfV (fun j => l.getD j 0) else (default, 1)
theorem confOf_c (l : List Int) (hl : l.length ≤ 1000) : FnP Tryz.prog 218 [SL 1 INTc l] (· = .tup [.agg (Cf.c (confOfF l).1), I64 (confOfF l).2]) := by
  by_cases h9 : l.length = 9
  · refine FnP.ofHand ⟨Tryz.f218, Tryz.func218, by kernel_rfl, by kernel_rfl⟩ (fun G w cargs him hr => ?_)
    simp only [RepIT] at hr
    obtain ⟨z, zs, rfl, h1, rfl⟩ := hr
    simp only [RepI] at h1
    obtain ⟨a, c, rfl, hc, h2⟩ := h1
    rcases h2 with h2 | ⟨sb, so, rfl, h2⟩
    · omega
    rw [h9]
    refine (confOf_calls (fun j => l.getD j 0) sb so c w (fun j => ?_)).mono ?_
    · have h3 := h2 j.val (by omega)
      simp only [CellsAt, and_true] at h3
      obtain ⟨z, h4, h5, _⟩ := h3
      simp only [RepI] at h5
      subst h5
      have h6 := him.1 _ _ _ h4
      simp only [Nat.mul_one] at h6
      rw [h6]
      rw [List.getD_eq_getElem?_getD, List.getD_eq_getElem?_getD, List.getElem?_eq_getElem (show j.val < l.length by omega)]
      rfl
    · rintro e w' ⟨rfl, hb⟩
      refine ⟨⟨_, rfl, fun H => ?_⟩, hb⟩
      rw [show confOfF l = confOfV (fun j => l.getD j 0) by unfold confOfF; rw [if_pos h9]]
      simp only [RepI, RepIT]
      refine ⟨_, rfl, _, _, rfl, ⟨_, rfl, ?_⟩, _, _, rfl, rfl, rfl⟩
      simp only [Cf.c, Cf.vs, RepIL, RepI]
      exact ⟨_, _, rfl, rfl, rfl, _, _, rfl, rfl, rfl, _, _, rfl, rfl, rfl, _, _, rfl, rfl, rfl, _, _, rfl, rfl, rfl, _, _, rfl, rfl, rfl, _, _, rfl, rfl, rfl, _, _, rfl, rfl, rfl, _, _, rfl, rfl, rfl, rfl⟩
  · rw [show confOfF l = (default, 1) by unfold confOfF; rw [if_neg h9]]
    refine FnP.intro Tryz.tabOK Tryz.wide_ Tryz.func218 rfl (by decide) rfl (fun X => ?_)
    repeat (first | refine sc rfl ?_ | refine so rfl ?_)
    refine C_true rfl (by simp; omega) ?_
    repeat (first | refine sc rfl ?_ | refine so rfl ?_)
    exact ⟨_, rfl, rfl, rfl⟩
end Go.Proofs

namespace Go.Proofs
open Go.Shelf

def Tryz.lays156_ren : Go.Shelf.Ren := ⟨fun | 156 => 37 | 165 => 77 | 166 => 24 | 169 => 26 | 240 => 46 | 241 => 125 | 276 => 84 | 277 => 184 | n => n, fun | 31 => 40 | 9 => 9 | 3 => 3 | 4 => 4 | 0 => 0 | 20 => 20 | 72 => 60 | 76 => 65 | 70 => 58 | 37 => 42 | 75 => 64 | 127 => 129 | 164 => 180 | 5 => 5 | 80 => 57 | n => n, fun | n => n⟩
theorem Tryz.lays156 : Go.Proofs.Lays.n156 Tryz.prog Tryz.lays156_ren := {
  mixed := by kernel_rfl
  f156 := Tryz.func37.trans (congrArg some (by kernel_rfl))
  f165 := Tryz.func77.trans (congrArg some (by kernel_rfl))
  f166 := Tryz.func24.trans (congrArg some (by kernel_rfl))
  f169 := Tryz.func26.trans (congrArg some (by kernel_rfl))
  f240 := Tryz.func46.trans (congrArg some (by kernel_rfl))
  f241 := Tryz.func125.trans (congrArg some (by kernel_rfl))
  f276 := Tryz.func84.trans (congrArg some (by kernel_rfl))
  f277 := Tryz.func184.trans (congrArg some (by kernel_rfl))
  t0 := Tryz.underlying0
  a0 := Tryz.isAgg0
  z0 := Tryz.sizeOf0
  v0 := Tryz.zeroValue0
  t3 := Tryz.underlying3
  a3 := Tryz.isAgg3
  z3 := Tryz.sizeOf3
  v3 := Tryz.zeroValue3
  t4 := Tryz.underlying4
  a4 := Tryz.isAgg4
  z4 := Tryz.sizeOf4
  v4 := Tryz.zeroValue4
  t9 := Tryz.underlying9
  a9 := Tryz.isAgg9
  z9 := Tryz.sizeOf9
  v9 := Tryz.zeroValue9
  t20 := Tryz.underlying20
  a20 := Tryz.isAgg20
  z20 := Tryz.sizeOf20
  v20 := Tryz.zeroValue20
  t31 := Tryz.underlying40
  a31 := Tryz.isAgg40
  z31 := Tryz.sizeOf40
  v31 := Tryz.zeroValue40
  t37 := Tryz.underlying42
  a37 := Tryz.isAgg42
  z37 := Tryz.sizeOf42
  v37 := Tryz.zeroValue42
  t70 := Tryz.underlying58
  a70 := Tryz.isAgg58
  z70 := Tryz.sizeOf58
  v70 := Tryz.zeroValue58
  t72 := Tryz.underlying60
  a72 := Tryz.isAgg60
  z72 := Tryz.sizeOf60
  v72 := Tryz.zeroValue60
  t75 := Tryz.underlying64
  a75 := Tryz.isAgg64
  z75 := Tryz.sizeOf64
  v75 := Tryz.zeroValue64
  t76 := Tryz.underlying65
  a76 := Tryz.isAgg65
  z76 := Tryz.sizeOf65
  v76 := Tryz.zeroValue65
  t127 := Tryz.underlying129
  a127 := Tryz.isAgg129
  z127 := Tryz.sizeOf129
  v127 := Tryz.zeroValue129
  t164 := Tryz.underlying180
  a164 := Tryz.isAgg180
  z164 := Tryz.sizeOf180
  v164 := Tryz.zeroValue180 }
theorem Tryz.Builder_Extra_156 : Builder.Extra Tryz.prog Tryz.lays156_ren := {
  sizeBuilder := by kernel_rfl
  liesBuilder := by kernel_rfl
  t5 := Tryz.underlying5
  a5 := Tryz.isAgg5
  z5 := Tryz.sizeOf5
  v5 := Tryz.zeroValue5
  infoByte := by kernel_rfl
  cellsByte := by kernel_rfl
  sizeByte := by kernel_rfl
  neB5 := by decide }
open Go.RowKit in
theorem Tryz.strings_Join_none (a : Option Addr) (c : Nat) (sep : ByteArray) (w : World) :
    Calls Tryz.prog 37 #[.slice a 0 c, .string sep] w fun e w' => e = .returned (.string ⟨#[]⟩) ∧ w' = w := Any.strings_Join_none Tryz.lays156 Tryz.Builder_Extra_156 a c sep w
open Go.RowKit in
theorem Tryz.strings_Join (bk o c : Nat) (xs : List ByteArray) (sep : ByteArray) (w : World) (hcells : ∀ (j : Nat) x, xs[j]? = some x → w.cell? ⟨bk, o + j, none⟩ = some (.string x)) (hbk : bk < w.heap.size) (hN : xs.length ≤ 140737488355328) (hcap : xs.length ≤ c) (hlen : (Lib.join (xs.map (·.data.toList)) sep.data.toList).length ≤ 140737488355328) :
    Calls Tryz.prog 37 #[.slice (some ⟨bk, o, none⟩) xs.length c, .string sep] w fun e w' => e = .returned (.string ⟨(Lib.join (xs.map (·.data.toList)) sep.data.toList).toArray⟩) ∧ Below w.heap.size w w' := Any.strings_Join Tryz.lays156 Tryz.Builder_Extra_156 bk o c xs sep w hcells hbk hN hcap hlen

def Tryz.lays160_ren : Go.Shelf.Ren := ⟨fun | 160 => 198 | 232 => 235 | 231 => 234 | 227 => 236 | 234 => 238 | 233 => 237 | 236 => 240 | 235 => 239 | 228 => 272 | 271 => 274 | 151 => 273 | 197 => 111 | 120 => 298 | 152 => 297 | 260 => 161 | 137 => 114 | 119 => 316 | 224 => 164 | 225 => 163 | 217 => 162 | 266 => 216 | n => n, fun | 9 => 9 | 4 => 4 | 3 => 3 | 5 => 5 | 117 => 382 | 116 => 381 | 0 => 0 | 124 => 385 | 21 => 21 | 105 => 221 | 46 => 179 | 119 => 354 | 139 => 357 | 138 => 356 | n => n, fun | 3 => 2 | 4 => 3 | n => n⟩
theorem Tryz.lays160 : Go.Proofs.Lays.n160 Tryz.prog Tryz.lays160_ren := {
  mixed := by kernel_rfl
  f119 := Tryz.func316.trans (congrArg some (by kernel_rfl))
  f120 := Tryz.func298.trans (congrArg some (by kernel_rfl))
  f137 := Tryz.func114.trans (congrArg some (by kernel_rfl))
  f151 := Tryz.func273.trans (congrArg some (by kernel_rfl))
  f152 := Tryz.func297.trans (congrArg some (by kernel_rfl))
  f160 := Tryz.func198.trans (congrArg some (by kernel_rfl))
  f197 := Tryz.func111.trans (congrArg some (by kernel_rfl))
  f217 := Tryz.func162.trans (congrArg some (by kernel_rfl))
  f224 := Tryz.func164.trans (congrArg some (by kernel_rfl))
  f225 := Tryz.func163.trans (congrArg some (by kernel_rfl))
  f227 := Tryz.func236.trans (congrArg some (by kernel_rfl))
  f228 := Tryz.func272.trans (congrArg some (by kernel_rfl))
  f231 := Tryz.func234.trans (congrArg some (by kernel_rfl))
  f232 := Tryz.func235.trans (congrArg some (by kernel_rfl))
  f233 := Tryz.func237.trans (congrArg some (by kernel_rfl))
  f234 := Tryz.func238.trans (congrArg some (by kernel_rfl))
  f235 := Tryz.func239.trans (congrArg some (by kernel_rfl))
  f236 := Tryz.func240.trans (congrArg some (by kernel_rfl))
  f260 := Tryz.func161.trans (congrArg some (by kernel_rfl))
  f266 := Tryz.func216.trans (congrArg some (by kernel_rfl))
  f271 := Tryz.func274.trans (congrArg some (by kernel_rfl))
  t0 := Tryz.underlying0
  a0 := Tryz.isAgg0
  z0 := Tryz.sizeOf0
  v0 := Tryz.zeroValue0
  t3 := Tryz.underlying3
  a3 := Tryz.isAgg3
  z3 := Tryz.sizeOf3
  v3 := Tryz.zeroValue3
  t4 := Tryz.underlying4
  a4 := Tryz.isAgg4
  z4 := Tryz.sizeOf4
  v4 := Tryz.zeroValue4
  t5 := Tryz.underlying5
  a5 := Tryz.isAgg5
  z5 := Tryz.sizeOf5
  v5 := Tryz.zeroValue5
  t9 := Tryz.underlying9
  a9 := Tryz.isAgg9
  z9 := Tryz.sizeOf9
  v9 := Tryz.zeroValue9
  t21 := Tryz.underlying21
  a21 := Tryz.isAgg21
  z21 := Tryz.sizeOf21
  v21 := Tryz.zeroValue21
  t46 := Tryz.underlying179
  a46 := Tryz.isAgg179
  z46 := Tryz.sizeOf179
  v46 := Tryz.zeroValue179
  t105 := Tryz.underlying221
  a105 := Tryz.isAgg221
  z105 := Tryz.sizeOf221
  v105 := Tryz.zeroValue221
  t116 := Tryz.underlying381
  a116 := Tryz.isAgg381
  z116 := Tryz.sizeOf381
  t117 := Tryz.underlying382
  a117 := Tryz.isAgg382
  z117 := Tryz.sizeOf382
  v117 := Tryz.zeroValue382
  t119 := Tryz.underlying354
  a119 := Tryz.isAgg354
  z119 := Tryz.sizeOf354
  t124 := Tryz.underlying385
  a124 := Tryz.isAgg385
  z124 := Tryz.sizeOf385
  v124 := Tryz.zeroValue385
  t138 := Tryz.underlying356
  a138 := Tryz.isAgg356
  z138 := Tryz.sizeOf356
  v138 := Tryz.zeroValue356
  t139 := Tryz.underlying357
  a139 := Tryz.isAgg357
  z139 := Tryz.sizeOf357
  v139 := Tryz.zeroValue357
  g3 := by kernel_rfl
  g4 := by kernel_rfl }
open Go.RowKit in
theorem Tryz.strings_Trim_one (s : ByteArray) (c : UInt8) (hc : c.toNat < 128) (w : World) (hs : s.size ≤ 9223372036854775807) :
    Calls Tryz.prog 198 #[.string s, .string ⟨#[c]⟩] w fun e w' => e = .returned (.string ⟨(Lib.trimB s.data.toList c).toArray⟩) ∧ (w' = w ∨ w' = w.drew) := Any.strings_Trim_one Tryz.lays160 s c hc w hs

def Tryz.lays137_ren : Go.Shelf.Ren := ⟨fun | 137 => 114 | 217 => 162 | 266 => 216 | n => n, fun | 9 => 9 | 5 => 5 | 3 => 3 | n => n, fun | n => n⟩
theorem Tryz.lays137 : Go.Proofs.Lays.n137 Tryz.prog Tryz.lays137_ren := {
  mixed := by kernel_rfl
  f137 := Tryz.func114.trans (congrArg some (by kernel_rfl))
  f217 := Tryz.func162.trans (congrArg some (by kernel_rfl))
  f266 := Tryz.func216.trans (congrArg some (by kernel_rfl))
  t3 := Tryz.underlying3
  a3 := Tryz.isAgg3
  z3 := Tryz.sizeOf3
  v3 := Tryz.zeroValue3
  t5 := Tryz.underlying5
  a5 := Tryz.isAgg5
  z5 := Tryz.sizeOf5
  v5 := Tryz.zeroValue5
  t9 := Tryz.underlying9
  a9 := Tryz.isAgg9
  z9 := Tryz.sizeOf9
  v9 := Tryz.zeroValue9 }
open Go.RowKit in
theorem Tryz.strings_IndexByte (s : ByteArray) (c : Int) (w : World) :
    Calls Tryz.prog 114 #[.string s, .int .u8 c] w fun e w' => e = .returned (.int .i64 (Lib.indexByte s.data.toList c.toNat.toUInt8)) ∧ w' = w := Any.strings_IndexByte Tryz.lays137 s c w

def Tryz.laysM246_ren : Go.Shelf.Ren := ⟨fun | 246 => 78 | 283 => 126 | 284 => 127 | 285 => 128 | 286 => 129 | 129 => 186 | 317 => 185 | 318 => 187 | 319 => 188 | 320 => 189 | 337 => 226 | 338 => 227 | n => n, fun | 2 => 2 | 3 => 3 | 9 => 9 | 4 => 4 | 171 => 237 | 0 => 0 | 53 => 24 | 37 => 42 | 5 => 5 | 173 => 240 | 212 => 285 | 51 => 286 | 20 => 20 | 213 => 287 | 46 => 179 | 232 => 408 | 233 => 409 | n => n, fun | 17 => 1 | 18 => 4 | 19 => 5 | n => n⟩
theorem Tryz.laysM246 : Go.Proofs.LaysM.n246 Tryz.prog Tryz.laysM246_ren := {
  mixed := by kernel_rfl
  f129 := Tryz.func186.trans (congrArg some (by kernel_rfl))
  f246 := Tryz.func78.trans (congrArg some (by kernel_rfl))
  f283 := Tryz.func126.trans (congrArg some (by kernel_rfl))
  f284 := Tryz.func127.trans (congrArg some (by kernel_rfl))
  f285 := Tryz.func128.trans (congrArg some (by kernel_rfl))
  f286 := Tryz.func129.trans (congrArg some (by kernel_rfl))
  f317 := Tryz.func185.trans (congrArg some (by kernel_rfl))
  f318 := Tryz.func187.trans (congrArg some (by kernel_rfl))
  f319 := Tryz.func188.trans (congrArg some (by kernel_rfl))
  f320 := Tryz.func189.trans (congrArg some (by kernel_rfl))
  f337 := Tryz.func226.trans (congrArg some (by kernel_rfl))
  f338 := Tryz.func227.trans (congrArg some (by kernel_rfl))
  t0 := Tryz.underlying0
  a0 := Tryz.isAgg0
  z0 := Tryz.sizeOf0
  v0 := Tryz.zeroValue0
  t2 := Tryz.underlying2
  a2 := Tryz.isAgg2
  z2 := Tryz.sizeOf2
  v2 := Tryz.zeroValue2
  t3 := Tryz.underlying3
  a3 := Tryz.isAgg3
  z3 := Tryz.sizeOf3
  v3 := Tryz.zeroValue3
  t4 := Tryz.underlying4
  a4 := Tryz.isAgg4
  z4 := Tryz.sizeOf4
  v4 := Tryz.zeroValue4
  t5 := Tryz.underlying5
  a5 := Tryz.isAgg5
  z5 := Tryz.sizeOf5
  v5 := Tryz.zeroValue5
  t9 := Tryz.underlying9
  a9 := Tryz.isAgg9
  z9 := Tryz.sizeOf9
  v9 := Tryz.zeroValue9
  t20 := Tryz.underlying20
  a20 := Tryz.isAgg20
  z20 := Tryz.sizeOf20
  v20 := Tryz.zeroValue20
  t37 := Tryz.underlying42
  a37 := Tryz.isAgg42
  z37 := Tryz.sizeOf42
  v37 := Tryz.zeroValue42
  t46 := Tryz.underlying179
  a46 := Tryz.isAgg179
  z46 := Tryz.sizeOf179
  v46 := Tryz.zeroValue179
  t51 := Tryz.underlying286
  a51 := Tryz.isAgg286
  z51 := Tryz.sizeOf286
  v51 := Tryz.zeroValue286
  t53 := Tryz.underlying24
  a53 := Tryz.isAgg24
  z53 := Tryz.sizeOf24
  v53 := Tryz.zeroValue24
  t171 := Tryz.underlying237
  a171 := Tryz.isAgg237
  z171 := Tryz.sizeOf237
  v171 := Tryz.zeroValue237
  t173 := Tryz.underlying240
  a173 := Tryz.isAgg240
  z173 := Tryz.sizeOf240
  v173 := Tryz.zeroValue240
  t212 := Tryz.underlying285
  a212 := Tryz.isAgg285
  z212 := Tryz.sizeOf285
  v212 := Tryz.zeroValue285
  t213 := Tryz.underlying287
  a213 := Tryz.isAgg287
  z213 := Tryz.sizeOf287
  t232 := Tryz.underlying408
  a232 := Tryz.isAgg408
  z232 := Tryz.sizeOf408
  v232 := Tryz.zeroValue408
  t233 := Tryz.underlying409
  a233 := Tryz.isAgg409
  z233 := Tryz.sizeOf409
  v233 := Tryz.zeroValue409
  g17 := by kernel_rfl
  g18 := by kernel_rfl
  g19 := by kernel_rfl
  i0 := by kernel_rfl
  i2 := by kernel_rfl
  i3 := by kernel_rfl
  i4 := by kernel_rfl
  i5 := by kernel_rfl
  i9 := by kernel_rfl
  i20 := by kernel_rfl
  i37 := by kernel_rfl
  i46 := by kernel_rfl
  i51 := by kernel_rfl
  i53 := by kernel_rfl
  i171 := by kernel_rfl
  i173 := by kernel_rfl
  i212 := by kernel_rfl
  i232 := by kernel_rfl
  i233 := by kernel_rfl
  m17 := by kernel_rfl
  m18 := by kernel_rfl
  m19 := by kernel_rfl }
open Go.RowKit Go.Sort Go.Lib in
theorem Tryz.internal_strconv_FormatInt_10 (n : Int) (h0 : -9223372036854775808 ≤ n) (h1 : n ≤ 9223372036854775807) (w : World) (htab : Lib.TabIs Tryz.prog w "internal/strconv.uint64pow10" .u64 Lib.pow10Tab) :
    Calls Tryz.prog 78 #[.int .i64 n, .int .i64 10] w fun e w' => e = .returned (.string ⟨(Lib.itoa n).toArray⟩) ∧ ∃ k os, w' = grow (w.drewN k) os := Any.internal_strconv_FormatInt_10 Tryz.laysM246 n h0 h1 w htab

def Tryz.laysM171_ren : Go.Shelf.Ren := ⟨fun | 171 => 21 | 243 => 38 | 246 => 78 | 283 => 126 | 284 => 127 | 285 => 128 | 286 => 129 | 129 => 186 | 317 => 185 | 318 => 187 | 319 => 188 | 320 => 189 | 337 => 226 | 338 => 227 | n => n, fun | 3 => 3 | 9 => 9 | 2 => 2 | 4 => 4 | 171 => 237 | 0 => 0 | 53 => 24 | 37 => 42 | 5 => 5 | 173 => 240 | 212 => 285 | 51 => 286 | 20 => 20 | 213 => 287 | 46 => 179 | 232 => 408 | 233 => 409 | n => n, fun | 17 => 1 | 18 => 4 | 19 => 5 | n => n⟩
theorem Tryz.laysM171 : Go.Proofs.LaysM.n171 Tryz.prog Tryz.laysM171_ren := {
  mixed := by kernel_rfl
  f129 := Tryz.func186.trans (congrArg some (by kernel_rfl))
  f171 := Tryz.func21.trans (congrArg some (by kernel_rfl))
  f243 := Tryz.func38.trans (congrArg some (by kernel_rfl))
  f246 := Tryz.func78.trans (congrArg some (by kernel_rfl))
  f283 := Tryz.func126.trans (congrArg some (by kernel_rfl))
  f284 := Tryz.func127.trans (congrArg some (by kernel_rfl))
  f285 := Tryz.func128.trans (congrArg some (by kernel_rfl))
  f286 := Tryz.func129.trans (congrArg some (by kernel_rfl))
  f317 := Tryz.func185.trans (congrArg some (by kernel_rfl))
  f318 := Tryz.func187.trans (congrArg some (by kernel_rfl))
  f319 := Tryz.func188.trans (congrArg some (by kernel_rfl))
  f320 := Tryz.func189.trans (congrArg some (by kernel_rfl))
  f337 := Tryz.func226.trans (congrArg some (by kernel_rfl))
  f338 := Tryz.func227.trans (congrArg some (by kernel_rfl))
  t0 := Tryz.underlying0
  a0 := Tryz.isAgg0
  z0 := Tryz.sizeOf0
  v0 := Tryz.zeroValue0
  t2 := Tryz.underlying2
  a2 := Tryz.isAgg2
  z2 := Tryz.sizeOf2
  v2 := Tryz.zeroValue2
  t3 := Tryz.underlying3
  a3 := Tryz.isAgg3
  z3 := Tryz.sizeOf3
  v3 := Tryz.zeroValue3
  t4 := Tryz.underlying4
  a4 := Tryz.isAgg4
  z4 := Tryz.sizeOf4
  v4 := Tryz.zeroValue4
  t5 := Tryz.underlying5
  a5 := Tryz.isAgg5
  z5 := Tryz.sizeOf5
  v5 := Tryz.zeroValue5
  t9 := Tryz.underlying9
  a9 := Tryz.isAgg9
  z9 := Tryz.sizeOf9
  v9 := Tryz.zeroValue9
  t20 := Tryz.underlying20
  a20 := Tryz.isAgg20
  z20 := Tryz.sizeOf20
  v20 := Tryz.zeroValue20
  t37 := Tryz.underlying42
  a37 := Tryz.isAgg42
  z37 := Tryz.sizeOf42
  v37 := Tryz.zeroValue42
  t46 := Tryz.underlying179
  a46 := Tryz.isAgg179
  z46 := Tryz.sizeOf179
  v46 := Tryz.zeroValue179
  t51 := Tryz.underlying286
  a51 := Tryz.isAgg286
  z51 := Tryz.sizeOf286
  v51 := Tryz.zeroValue286
  t53 := Tryz.underlying24
  a53 := Tryz.isAgg24
  z53 := Tryz.sizeOf24
  v53 := Tryz.zeroValue24
  t171 := Tryz.underlying237
  a171 := Tryz.isAgg237
  z171 := Tryz.sizeOf237
  v171 := Tryz.zeroValue237
  t173 := Tryz.underlying240
  a173 := Tryz.isAgg240
  z173 := Tryz.sizeOf240
  v173 := Tryz.zeroValue240
  t212 := Tryz.underlying285
  a212 := Tryz.isAgg285
  z212 := Tryz.sizeOf285
  v212 := Tryz.zeroValue285
  t213 := Tryz.underlying287
  a213 := Tryz.isAgg287
  z213 := Tryz.sizeOf287
  t232 := Tryz.underlying408
  a232 := Tryz.isAgg408
  z232 := Tryz.sizeOf408
  v232 := Tryz.zeroValue408
  t233 := Tryz.underlying409
  a233 := Tryz.isAgg409
  z233 := Tryz.sizeOf409
  v233 := Tryz.zeroValue409
  g17 := by kernel_rfl
  g18 := by kernel_rfl
  g19 := by kernel_rfl
  i0 := by kernel_rfl
  i2 := by kernel_rfl
  i3 := by kernel_rfl
  i4 := by kernel_rfl
  i5 := by kernel_rfl
  i9 := by kernel_rfl
  i20 := by kernel_rfl
  i37 := by kernel_rfl
  i46 := by kernel_rfl
  i51 := by kernel_rfl
  i53 := by kernel_rfl
  i171 := by kernel_rfl
  i173 := by kernel_rfl
  i212 := by kernel_rfl
  i232 := by kernel_rfl
  i233 := by kernel_rfl
  m17 := by kernel_rfl
  m18 := by kernel_rfl
  m19 := by kernel_rfl }
open Go.RowKit Go.Sort Go.Lib in
theorem Tryz.strconv_Itoa (n : Int) (h0 : -9223372036854775808 ≤ n) (h1 : n ≤ 9223372036854775807) (w : World) (htab : Lib.TabIs Tryz.prog w "internal/strconv.uint64pow10" .u64 Lib.pow10Tab) :
    Calls Tryz.prog 21 #[.int .i64 n] w fun e w' => e = .returned (.string ⟨(Lib.itoa n).toArray⟩) ∧ ∃ k os, w' = grow (w.drewN k) os := Any.strconv_Itoa Tryz.laysM171 n h0 h1 w htab

def Tryz.lays217_ren : Go.Shelf.Ren := ⟨fun | 217 => 162 | 266 => 216 | n => n, fun | 9 => 9 | 5 => 5 | 3 => 3 | n => n, fun | n => n⟩
theorem Tryz.lays217 : Go.Proofs.Lays.n217 Tryz.prog Tryz.lays217_ren := {
  mixed := by kernel_rfl
  f217 := Tryz.func162.trans (congrArg some (by kernel_rfl))
  f266 := Tryz.func216.trans (congrArg some (by kernel_rfl))
  t3 := Tryz.underlying3
  a3 := Tryz.isAgg3
  z3 := Tryz.sizeOf3
  v3 := Tryz.zeroValue3
  t5 := Tryz.underlying5
  a5 := Tryz.isAgg5
  z5 := Tryz.sizeOf5
  v5 := Tryz.zeroValue5
  t9 := Tryz.underlying9
  a9 := Tryz.isAgg9
  z9 := Tryz.sizeOf9
  v9 := Tryz.zeroValue9 }
open Go.RowKit Go.Lib in
theorem Tryz.stringslite_IndexByte (s : ByteArray) (c : Int) (w : World) :
    Calls Tryz.prog 162 #[.string s, .int .u8 c] w fun e w' => e = .returned (.int .i64 (Lib.indexByte s.data.toList c.toNat.toUInt8)) ∧ w' = w := Any.stringslite_IndexByte Tryz.lays217 s c w

def Tryz.lays138_ren : Go.Shelf.Ren := ⟨fun | 138 => 67 | 195 => 110 | 218 => 112 | 143 => 68 | 219 => 113 | 217 => 162 | 225 => 163 | 224 => 164 | 267 => 165 | 266 => 216 | 314 => 217 | n => n, fun | 9 => 9 | 3 => 3 | 4 => 4 | 5 => 5 | 0 => 0 | 46 => 179 | 146 => 358 | 51 => 286 | n => n, fun | 1 => 0 | n => n⟩
theorem Tryz.lays138 : Go.Proofs.Lays.n138 Tryz.prog Tryz.lays138_ren := {
  mixed := by kernel_rfl
  f138 := Tryz.func67.trans (congrArg some (by kernel_rfl))
  f143 := Tryz.func68.trans (congrArg some (by kernel_rfl))
  f195 := Tryz.func110.trans (congrArg some (by kernel_rfl))
  f217 := Tryz.func162.trans (congrArg some (by kernel_rfl))
  f218 := Tryz.func112.trans (congrArg some (by kernel_rfl))
  f219 := Tryz.func113.trans (congrArg some (by kernel_rfl))
  f224 := Tryz.func164.trans (congrArg some (by kernel_rfl))
  f225 := Tryz.func163.trans (congrArg some (by kernel_rfl))
  f266 := Tryz.func216.trans (congrArg some (by kernel_rfl))
  f267 := Tryz.func165.trans (congrArg some (by kernel_rfl))
  f314 := Tryz.func217.trans (congrArg some (by kernel_rfl))
  t0 := Tryz.underlying0
  a0 := Tryz.isAgg0
  z0 := Tryz.sizeOf0
  v0 := Tryz.zeroValue0
  t3 := Tryz.underlying3
  a3 := Tryz.isAgg3
  z3 := Tryz.sizeOf3
  v3 := Tryz.zeroValue3
  t4 := Tryz.underlying4
  a4 := Tryz.isAgg4
  z4 := Tryz.sizeOf4
  v4 := Tryz.zeroValue4
  t5 := Tryz.underlying5
  a5 := Tryz.isAgg5
  z5 := Tryz.sizeOf5
  v5 := Tryz.zeroValue5
  t9 := Tryz.underlying9
  a9 := Tryz.isAgg9
  z9 := Tryz.sizeOf9
  v9 := Tryz.zeroValue9
  t46 := Tryz.underlying179
  a46 := Tryz.isAgg179
  z46 := Tryz.sizeOf179
  v46 := Tryz.zeroValue179
  t51 := Tryz.underlying286
  a51 := Tryz.isAgg286
  z51 := Tryz.sizeOf286
  v51 := Tryz.zeroValue286
  t146 := Tryz.underlying358
  a146 := Tryz.isAgg358
  z146 := Tryz.sizeOf358
  v146 := Tryz.zeroValue358
  g1 := by kernel_rfl }
open Go.RowKit Go.Lib in
theorem Tryz.strings_Count_one (s : ByteArray) (c : UInt8) (w : World) :
    Calls Tryz.prog 67 #[.string s, .string ⟨#[c]⟩] w fun e w' => e = .returned (.int .i64 (Lib.countByte s.data.toList c)) ∧ w' = w := Any.strings_Count_one Tryz.lays138 s c w

def Tryz.lays105_ren : Go.Shelf.Ren := ⟨fun | 105 => 288 | 212 => 312 | 99 => 313 | 165 => 77 | 166 => 24 | 170 => 314 | 169 => 26 | 263 => 341 | 264 => 342 | 206 => 343 | 240 => 46 | 241 => 125 | 276 => 84 | 277 => 184 | n => n, fun | 9 => 9 | 3 => 3 | 4 => 4 | 20 => 20 | 0 => 0 | 46 => 179 | 109 => 471 | 5 => 5 | 72 => 60 | 76 => 65 | 51 => 286 | 146 => 358 | 53 => 24 | 148 => 531 | 70 => 58 | 37 => 42 | 75 => 64 | 127 => 129 | 164 => 180 | 80 => 57 | n => n, fun | n => n⟩
theorem Tryz.lays105 : Go.Proofs.Lays.n105 Tryz.prog Tryz.lays105_ren := {
  mixed := by kernel_rfl
  f99 := Tryz.func313.trans (congrArg some (by kernel_rfl))
  f105 := Tryz.func288.trans (congrArg some (by kernel_rfl))
  f165 := Tryz.func77.trans (congrArg some (by kernel_rfl))
  f166 := Tryz.func24.trans (congrArg some (by kernel_rfl))
  f169 := Tryz.func26.trans (congrArg some (by kernel_rfl))
  f170 := Tryz.func314.trans (congrArg some (by kernel_rfl))
  f206 := Tryz.func343.trans (congrArg some (by kernel_rfl))
  f212 := Tryz.func312.trans (congrArg some (by kernel_rfl))
  f240 := Tryz.func46.trans (congrArg some (by kernel_rfl))
  f241 := Tryz.func125.trans (congrArg some (by kernel_rfl))
  f263 := Tryz.func341.trans (congrArg some (by kernel_rfl))
  f264 := Tryz.func342.trans (congrArg some (by kernel_rfl))
  f276 := Tryz.func84.trans (congrArg some (by kernel_rfl))
  f277 := Tryz.func184.trans (congrArg some (by kernel_rfl))
  t0 := Tryz.underlying0
  a0 := Tryz.isAgg0
  z0 := Tryz.sizeOf0
  v0 := Tryz.zeroValue0
  t3 := Tryz.underlying3
  a3 := Tryz.isAgg3
  z3 := Tryz.sizeOf3
  v3 := Tryz.zeroValue3
  t4 := Tryz.underlying4
  a4 := Tryz.isAgg4
  z4 := Tryz.sizeOf4
  v4 := Tryz.zeroValue4
  t5 := Tryz.underlying5
  a5 := Tryz.isAgg5
  z5 := Tryz.sizeOf5
  v5 := Tryz.zeroValue5
  t9 := Tryz.underlying9
  a9 := Tryz.isAgg9
  z9 := Tryz.sizeOf9
  v9 := Tryz.zeroValue9
  t20 := Tryz.underlying20
  a20 := Tryz.isAgg20
  z20 := Tryz.sizeOf20
  v20 := Tryz.zeroValue20
  t37 := Tryz.underlying42
  a37 := Tryz.isAgg42
  z37 := Tryz.sizeOf42
  v37 := Tryz.zeroValue42
  t46 := Tryz.underlying179
  a46 := Tryz.isAgg179
  z46 := Tryz.sizeOf179
  v46 := Tryz.zeroValue179
  t51 := Tryz.underlying286
  a51 := Tryz.isAgg286
  z51 := Tryz.sizeOf286
  v51 := Tryz.zeroValue286
  t53 := Tryz.underlying24
  a53 := Tryz.isAgg24
  z53 := Tryz.sizeOf24
  v53 := Tryz.zeroValue24
  t70 := Tryz.underlying58
  a70 := Tryz.isAgg58
  z70 := Tryz.sizeOf58
  v70 := Tryz.zeroValue58
  t72 := Tryz.underlying60
  a72 := Tryz.isAgg60
  z72 := Tryz.sizeOf60
  v72 := Tryz.zeroValue60
  t75 := Tryz.underlying64
  a75 := Tryz.isAgg64
  z75 := Tryz.sizeOf64
  v75 := Tryz.zeroValue64
  t76 := Tryz.underlying65
  a76 := Tryz.isAgg65
  z76 := Tryz.sizeOf65
  v76 := Tryz.zeroValue65
  t109 := Tryz.underlying471
  a109 := Tryz.isAgg471
  z109 := Tryz.sizeOf471
  v109 := Tryz.zeroValue471
  t127 := Tryz.underlying129
  a127 := Tryz.isAgg129
  z127 := Tryz.sizeOf129
  v127 := Tryz.zeroValue129
  t146 := Tryz.underlying358
  a146 := Tryz.isAgg358
  z146 := Tryz.sizeOf358
  v146 := Tryz.zeroValue358
  t148 := Tryz.underlying531
  a148 := Tryz.isAgg531
  z148 := Tryz.sizeOf531
  v148 := Tryz.zeroValue531
  t164 := Tryz.underlying180
  a164 := Tryz.isAgg180
  z164 := Tryz.sizeOf180
  v164 := Tryz.zeroValue180 }
theorem Tryz.Builder_Extra_105 : Builder.Extra Tryz.prog Tryz.lays105_ren := {
  sizeBuilder := by kernel_rfl
  liesBuilder := by kernel_rfl
  t5 := Tryz.underlying5
  a5 := Tryz.isAgg5
  z5 := Tryz.sizeOf5
  v5 := Tryz.zeroValue5
  infoByte := by kernel_rfl
  cellsByte := by kernel_rfl
  sizeByte := by kernel_rfl
  neB5 := by decide }
open Go.RowKit Go.Lib in
theorem Tryz.strings_Repeat (s : ByteArray) (c : Nat) (w : World) (hc : c ≤ 9223372036854775807) (hlen : s.size * c ≤ 140737488355328) :
    Calls Tryz.prog 288 #[.string s, .int .i64 c] w fun e w' => e = .returned (.string ⟨(Lib.repeatL s.data.toList c).toArray⟩) ∧ Below w.heap.size w w' := Any.strings_Repeat Tryz.lays105 Tryz.Builder_Extra_105 s c w hc hlen
end Go.Proofs

namespace Go.Proofs
open Go.Sy Go.Lib

def cls (n : Int) : Int := if n < 0 then 0 else if n ≤ 30 then 32 else if n ≤ 62 then 64 else if n ≤ 126 then 128 else if n ≤ 254 then 256 else if n ≤ 510 then 512 else if n ≤ 1022 then 1024 else 0
def clsE (n : Int) : Int := if n < 0 then 1 else if 1022 < n then 3 else 0
theorem Most_p : FnP Tryz.prog 233 [] (· = I64 1022) := by
  refine FnP.intro Tryz.tabOK Tryz.wide_ Tryz.func233 rfl (by decide) rfl (fun X => ?_)
  repeat (first | refine sc rfl ?_ | refine so rfl ?_)
  exact ⟨_, rfl, rfl, rfl⟩
def clsInv (n c : Int) : Prop := c = 32 ∨ (c = 64 ∧ 30 < n) ∨ (c = 128 ∧ 62 < n) ∨ (c = 256 ∧ 126 < n) ∨ (c = 512 ∧ 254 < n) ∨ (c = 1024 ∧ 510 < n)
theorem clsInv_cls {n c : Int} (h0 : 0 ≤ n) (h1 : n ≤ 1022) (hi : clsInv n c) (h : n ≤ c - 2) : cls n = c := by
  unfold clsInv at hi
  unfold cls
  repeat' split
  all_goals omega
theorem Class_p (n : Int) : FnP Tryz.prog 197 [I64 n] (· = .tup [I64 (cls n), I64 (clsE n)]) := by
  refine FnP.intro Tryz.tabOK Tryz.wide_ Tryz.func197 rfl (by decide) rfl (fun X => ?_)
  repeat (first | refine sc rfl ?_ | refine so rfl ?_ | refine sb rfl ?_ | refine C_scope ?_)
  refine C_if rfl (fun h => ?_) (fun h => ?_) <;> simp only [decide_eq_true_eq, decide_eq_false_iff_not] at h
  · repeat (first | refine sc rfl ?_ | refine so rfl ?_ | refine sb rfl ?_ | refine C_scope ?_)
    exact ⟨_, rfl, rfl, by simp only [cls, clsE, if_pos h]⟩
  repeat (first | refine sc rfl ?_ | refine so rfl ?_ | refine sb rfl ?_ | refine C_scope ?_)
  refine O_call Most_p (by rfl) (by rfl) (by rfl) (by rfl) (fun r hr => ?_)
  subst hr
  repeat (first | refine sc rfl ?_ | refine so rfl ?_ | refine sb rfl ?_ | refine C_scope ?_)
  refine C_if rfl (fun h2 => ?_) (fun h2 => ?_) <;> simp only [decide_eq_true_eq, decide_eq_false_iff_not] at h2
  · repeat (first | refine sc rfl ?_ | refine so rfl ?_ | refine sb rfl ?_ | refine C_scope ?_)
    refine ⟨_, rfl, rfl, ?_⟩
    have e1 : cls n = 0 := by unfold cls; repeat' split <;> omega
    have e2 : clsE n = 3 := by unfold clsE; rw [if_neg h, if_pos (by omega)]
    rw [e1, e2]
  repeat (first | refine sc rfl ?_ | refine so rfl ?_ | refine sb rfl ?_ | refine C_scope ?_)
  refine C_loop (fun c : Int => ⟨[(0, I64 n), (4, I64 c)], []⟩) (clsInv n) (fun c => (1024 - c).toNat) 32 (.inl rfl)
      (Le.sub [] ⟨rfl, rfl, trivial⟩ rfl) ?_
  intro c hc
  have hb : 32 ≤ c ∧ c ≤ 1024 := by unfold clsInv at hc; omega
  repeat (first | refine sc rfl ?_ | refine so rfl ?_ | refine sb rfl ?_ | refine C_scope ?_)
  rw [w64 (x := c - 2) (by omega) (by omega)]
  repeat (first | refine sc rfl ?_ | refine so rfl ?_ | refine sb rfl ?_ | refine C_scope ?_)
  refine C_if rfl (fun h3 => ?_) (fun h3 => ?_) <;> simp only [decide_eq_true_eq, decide_eq_false_iff_not] at h3
  · repeat (first | refine sc rfl ?_ | refine so rfl ?_ | refine sb rfl ?_ | refine C_scope ?_)
    refine ⟨_, rfl, rfl, ?_⟩
    have e2 : clsE n = 0 := by unfold clsE; rw [if_neg h, if_neg (by omega)]
    rw [clsInv_cls (by omega) (by omega) hc (by omega), e2]
  · repeat (first | refine sc rfl ?_ | refine so rfl ?_ | refine sb rfl ?_ | refine C_scope ?_)
    rw [w64 (x := c * 2) (by omega) (by omega)]
    exact ⟨c * 2, by unfold clsInv at hc ⊢; omega, by unfold clsInv at hc; omega, Le.sub [] ⟨rfl, rfl, trivial⟩ rfl⟩
theorem rep0 : ∀ k : Nat, Lib.repeatL [(0 : UInt8)] k = List.replicate k 0
  | 0 => rfl
  | k + 1 => by
    have := rep0 k
    simp only [Lib.repeatL] at this ⊢
    simp_all [List.replicate_succ]
theorem Repeat_p (k : Nat) (hk : k ≤ 1024) : FnP Tryz.prog 288 [.s [0], I64 (k : Int)] (· = .s (List.replicate k 0)) := by
  refine FnP.ofCalls (vs := [S [0], .int .i64 (k : Int)]) (v := S (List.replicate k 0)) ⟨_, Tryz.func288, rfl, by decide⟩ rfl rfl (fun G => by simp only [RepI]) (fun w => ?_)
  have := Tryz.strings_Repeat ⟨#[0]⟩ k w (by omega) (by simp only [ByteArray.size]; simp; omega)
  rw [show (⟨#[0]⟩ : ByteArray).data.toList = [0] from rfl, rep0] at this
  exact this
def hd2 (n : Int) : List UInt8 := [UInt8.ofNat (IntKind.u8.wrap (n / 256)).toNat, UInt8.ofNat (IntKind.u8.wrap n).toNat]
def padL (s : List UInt8) : List UInt8 := if s.length ≤ 1022 then hd2 s.length ++ s ++ List.replicate (cls s.length - 2 - s.length).toNat 0 else []
theorem cls_bd {n : Int} (h0 : 0 ≤ n) (h1 : n ≤ 1022) : n ≤ cls n - 2 ∧ cls n ≤ 1024 := by
  unfold cls; repeat' split
  all_goals omega
theorem Pad_p (s : List UInt8) (hs : s.length ≤ 9223372036854775807) : FnP Tryz.prog 252 [.s s] (· = .tup [.s (padL s), I64 (clsE s.length)]) := by
  refine FnP.intro Tryz.tabOK Tryz.wide_ Tryz.func252 rfl (by decide) rfl (fun X => ?_)
  repeat (first | refine sc rfl ?_ | refine so rfl ?_)
  refine O_call (Class_p _) (by rfl) (by rfl) (by rfl) (by rfl) (fun r hr => ?_)
  subst hr
  repeat (first | refine sc rfl ?_ | refine so rfl ?_)
  refine C_if rfl (fun h => ?_) (fun h => ?_)
  · repeat (first | refine sc rfl ?_ | refine so rfl ?_)
    refine ⟨_, rfl, rfl, ?_⟩
    have h' : ¬ s.length ≤ 1022 := by
      intro h2
      have : clsE s.length = 0 := by unfold clsE; rw [if_neg (by omega), if_neg (by omega)]
      rw [this] at h
      exact absurd h (by decide)
    rw [padL, if_neg h']
  · have h' : s.length ≤ 1022 := by
      rcases Nat.lt_or_ge 1022 s.length with h2 | h2
      · have : clsE s.length = 3 := by unfold clsE; rw [if_neg (by omega), if_pos (by omega)]
        rw [this] at h
        exact absurd h (by decide)
      · exact h2
    have e0 : clsE s.length = 0 := by unfold clsE; rw [if_neg (by omega), if_neg (by omega)]
    obtain ⟨b1, b2⟩ := cls_bd (n := (s.length : Int)) (by omega) (by omega)
    have e1 : padL s = hd2 s.length ++ s ++ List.replicate (cls s.length - 2 - s.length).toNat 0 := by rw [padL, if_pos h']
    have e2 : ((cls s.length - 2 - s.length).toNat : Int) = cls s.length - 2 - s.length := by omega
    rw [e0, e1]
    have e3 : (cls s.length - 2 - s.length).toNat ≤ 1024 := by omega
    generalize (cls s.length - 2 - s.length).toNat = k at *
    repeat refine sc rfl ?_
    refine C_drawD rfl (by kernel_rfl) ?_
    repeat (first | refine sd rfl ?_ | refine sds rfl ?_ | refine sdv rfl ?_ | refine ⟨by decide, ?_⟩)
    have hh : List.map (fun n : Int => UInt8.ofNat n.toNat) [IntKind.u8.wrap ((s.length : Int).fdiv (2 ^ min (Int.toNat 8) IntKind.i64.bits)), IntKind.u8.wrap (s.length : Int)] = hd2 s.length := by
      simp only [List.map, hd2]
      rw [show (2 : Int) ^ min (Int.toNat 8) IntKind.i64.bits = 256 by decide, Int.fdiv_eq_ediv_of_nonneg _ (by decide)]
    rw [hh]
    have hl2 : (hd2 s.length).length = 2 := rfl
    refine ⟨by omega, ?_⟩
    repeat (first | refine sd rfl ?_)
    rw [w64 (x := cls s.length - 2) (by omega) (by omega), w64 (x := cls s.length - 2 - s.length) (by omega) (by omega), ← e2]
    refine D_call (Repeat_p k e3) rfl rfl rfl rfl ?_
    refine sd rfl ?_
    refine ⟨by rw [List.length_append, List.length_replicate]; omega, ?_⟩
    repeat (first | refine sd rfl ?_ | refine sc rfl ?_)
    exact ⟨_, rfl, rfl, rfl⟩
theorem known_p (k : Int) : FnP Tryz.prog 176 [I64 k] (· = B (decide (1 ≤ k ∧ k ≤ 9))) := by
  refine FnP.intro Tryz.tabOK Tryz.wide_ Tryz.func176 rfl (by decide) rfl (fun X => ?_)
  repeat (first | refine sc rfl ?_ | refine so rfl ?_)
  refine O_case 5 rfl (fun h => ?_) (fun h => ?_)
  · repeat (first | refine sc rfl ?_ | refine so rfl ?_)
    refine ⟨_, rfl, rfl, congrArg B ?_⟩
    simp at h
    simp [h]
  · repeat (first | refine sc rfl ?_ | refine so rfl ?_)
    refine ⟨_, rfl, rfl, congrArg B ?_⟩
    simp at h
    simp; omega

def b8 (n : Int) : UInt8 := UInt8.ofNat (IntKind.u8.wrap n).toNat
def fputL (k fl : Int) (b : List UInt8) : List UInt8 := if 1 ≤ k ∧ k ≤ 9 ∧ 0 ≤ fl ∧ fl ≤ 255 ∧ b.length ≤ 1024 then [b8 k, b8 fl, b8 (b.length / 256), b8 b.length] ++ b else []
def fputE (k fl : Int) (b : List UInt8) : Int := if ¬ (1 ≤ k ∧ k ≤ 9) then 4 else if ¬ (0 ≤ fl ∧ fl ≤ 255) then 1 else if 1024 < b.length then 3 else 0
theorem Put84_p (k fl : Int) (b : List UInt8) (hb : b.length ≤ 9223372036854775807) : FnP Tryz.prog 117 [.agg [I64 k, I64 fl, .s b]] (· = .tup [.s (fputL k fl b), I64 (fputE k fl b)]) := by
  refine FnP.intro Tryz.tabOK Tryz.wide_ Tryz.func117 rfl (by decide) rfl (fun X => ?_)
  repeat (first | refine sc rfl ?_ | refine so rfl ?_ | refine sb rfl ?_ | refine C_scope ?_)
  refine O_call (known_p k) (by rfl) (by rfl) (by rfl) (by rfl) (fun r hr => ?_)
  subst hr
  repeat refine so rfl ?_
  refine C_if rfl (fun h1 => ?_) (fun h1 => ?_) <;> simp only [Bool.not_eq_true', Bool.not_eq_false', decide_eq_true_eq, decide_eq_false_iff_not] at h1
  · repeat (first | refine sc rfl ?_ | refine so rfl ?_)
    refine ⟨_, rfl, rfl, ?_⟩
    rw [fputL, fputE, if_neg (by omega), if_pos (by omega)]
  repeat (first | refine sc rfl ?_ | refine so rfl ?_)
  refine O_join ⟨[(1, .bp 1 0), (2, .s []), (3, I64 0), (4, I64 (b.length : Int)), (14, B (decide (fl < 0 ∨ 255 < fl)))], [.box 1 157 [I64 k, I64 fl, .s b]]⟩ ?_ (fun s h => C_le _ h ?_)
  · refine O_case 18 rfl (fun h => ?_) (fun h => ?_) <;> simp at h
    · repeat refine so rfl ?_
      exact Le.sub [1] ⟨rfl, rfl, rfl, rfl, congrArg (fun x => some (B x)) (by rw [Bool.eq_iff_iff]; simp; omega), trivial⟩ rfl
    · repeat refine so rfl ?_
      exact Le.sub [1] ⟨rfl, rfl, rfl, rfl, congrArg (fun x => some (B x)) (by rw [Bool.eq_iff_iff]; simp; omega), trivial⟩ rfl
  refine C_if rfl (fun h2 => ?_) (fun h2 => ?_) <;> simp only [decide_eq_true_eq, decide_eq_false_iff_not] at h2
  · repeat (first | refine sc rfl ?_ | refine so rfl ?_)
    refine ⟨_, rfl, rfl, ?_⟩
    rw [fputL, fputE, if_neg (by omega), if_neg (by omega), if_pos (by omega)]
  repeat (first | refine sc rfl ?_ | refine so rfl ?_)
  refine C_if rfl (fun h3 => ?_) (fun h3 => ?_) <;> simp only [decide_eq_true_eq, decide_eq_false_iff_not] at h3
  · repeat (first | refine sc rfl ?_ | refine so rfl ?_)
    refine ⟨_, rfl, rfl, ?_⟩
    rw [fputL, fputE, if_neg (by omega), if_neg (by omega), if_neg (by omega), if_pos (by omega)]
  have e0 : fputE k fl b = 0 := by rw [fputE, if_neg (by omega), if_neg (by omega), if_neg (by omega)]
  have e1 : fputL k fl b = [b8 k, b8 fl, b8 (b.length / 256), b8 b.length] ++ b := by rw [fputL, if_pos (by omega)]
  rw [e0, e1]
  repeat (first | refine sc rfl ?_ | refine so rfl ?_ | refine sb rfl ?_ | refine ⟨by decide, ?_⟩)
  refine C_le _ (Le.freezebox 5 rfl rfl rfl) ?_
  refine C_drawD rfl (by kernel_rfl) ?_
  repeat (first | refine sd rfl ?_ | refine sda rfl ?_ | refine sdv rfl ?_ | refine ⟨by simp only [List.length_map, List.length_cons, List.length_nil]; omega, ?_⟩)
  repeat (first | refine sc rfl ?_)
  refine ⟨_, rfl, rfl, ?_⟩
  rw [show (2 : Int) ^ min (Int.toNat 8) IntKind.i64.bits = 256 by decide, Int.fdiv_eq_ediv_of_nonneg _ (by decide)]
  rfl
abbrev row3 (x y z : List UInt8) : AV := .sl 3 1 (chunkRow 1 [.s x, .s y, .s z])
theorem Join_p (x y z : List UInt8) (h : x.length + y.length + z.length ≤ 140737488355328) : FnP Tryz.prog 37 [row3 x y z, .s []] (· = .s (x ++ y ++ z)) := by
  refine FnP.ofHand ⟨_, Tryz.func37, rfl, by decide⟩ (fun G w cargs him hr => ?_)
  simp only [RepIT, RepI] at hr
  obtain ⟨v0, zs, rfl, ⟨aa, c, rfl, hc, ha⟩, v1, zs1, rfl, rfl, rfl⟩ := hr
  rcases ha with ha | ⟨b, o, rfl, ha⟩
  · omega
  have hcell : ∀ (j : Nat) (u : List UInt8), j < 3 → (chunkRow 1 [AV.s x, AV.s y, AV.s z]) j = [.s u] → w.cell? ⟨b, o + j, none⟩ = some (S u) := by
    intro j u hj he
    have h1 := ha j hj
    rw [he] at h1
    simp only [CellsAt, RepI] at h1
    obtain ⟨⟨q, q1, q2, _⟩, _⟩ := h1
    have := him.1 b _ q q1
    rw [q2] at this
    rw [Nat.mul_one] at this
    exact this
  have c0 := hcell 0 x (by omega) rfl
  have hj := Tryz.strings_Join b o c [⟨x.toArray⟩, ⟨y.toArray⟩, ⟨z.toArray⟩] ⟨#[]⟩ w (fun j u hu => by
    match j, hu with
    | 0, hu => simp at hu; subst hu; exact c0
    | 1, hu => simp at hu; subst hu; exact hcell 1 y (by omega) rfl
    | 2, hu => simp at hu; subst hu; exact hcell 2 z (by omega) rfl
    | j + 3, hu => simp at hu) (block_lt_of_cell c0) (by simp only [List.length_cons, List.length_nil]; omega) hc (by simp [Lib.join]; omega)
  refine (show Calls Tryz.prog 37 _ w _ from hj).mono ?_
  rintro e w' ⟨rfl, hb⟩
  exact ⟨⟨_, rfl, fun H => by simp [RepI, S, Lib.join]⟩, hb⟩
theorem row_p (x y z : List UInt8) (h : x.length + y.length + z.length ≤ 140737488355328) : FnP Tryz.prog 253 [row3 x y z] (· = .s (x ++ y ++ z)) := by
  refine FnP.intro Tryz.tabOK Tryz.wide_ Tryz.func253 rfl (by decide) rfl (fun X => ?_)
  repeat (first | refine sc rfl ?_ | refine so rfl ?_)
  refine O_call (Join_p x y z h) (by rfl) (by rfl) (by rfl) (by rfl) (fun r hr => ?_)
  subst hr
  repeat (first | refine sc rfl ?_ | refine so rfl ?_)
  exact ⟨_, rfl, rfl, rfl⟩
theorem bounded_p (e : Int) : FnP Tryz.prog 243 [I64 e] (· = B (decide (0 ≤ e ∧ e ≤ 1048576))) := by
  refine FnP.intro Tryz.tabOK Tryz.wide_ Tryz.func243 rfl (by decide) rfl (fun X => ?_)
  repeat (first | refine sc rfl ?_ | refine so rfl ?_)
  refine O_case 5 rfl (fun h => ?_) (fun h => ?_)
  · repeat (first | refine sc rfl ?_ | refine so rfl ?_)
    refine ⟨_, rfl, rfl, congrArg B ?_⟩
    simp at h
    simp [h]
  · repeat (first | refine sc rfl ?_ | refine so rfl ?_)
    refine ⟨_, rfl, rfl, congrArg B ?_⟩
    simp at h
    simp; omega
def rp (n : Nat) (st : Int) (d : List UInt8) : List UInt8 := vput st.toNat ++ vput n ++ d
def rputL (n : Nat) (st : Int) (d : List UInt8) : List UInt8 := if 0 ≤ st ∧ st ≤ 1048576 then (if clsE (rp n st d).length = 0 then fputL 9 0 (padL (rp n st d)) else []) else []
def rputE (n : Nat) (st : Int) (d : List UInt8) : Int := if 0 ≤ st ∧ st ≤ 1048576 then (if clsE (rp n st d).length = 0 then fputE 9 0 (padL (rp n st d)) else 3) else 1
theorem padL_len (s : List UInt8) : (padL s).length ≤ 4096 := by
  unfold padL
  split
  · have := cls_bd (n := (s.length : Int)) (by omega) (by omega)
    rw [List.length_append, List.length_append, List.length_replicate, show (hd2 (s.length : Int)).length = 2 from rfl]
    omega
  · simp
theorem rPut_p (n : Nat) (st : Int) (d : List UInt8) (hn : n < 18446744073709551616) (hd : d.length ≤ 140737488355308) : FnP Tryz.prog 213 [.agg [U64 (n : Int), I64 st, .s d]] (· = .tup [.s (rputL n st d), I64 (rputE n st d)]) := by
  refine FnP.intro Tryz.tabOK Tryz.wide_ Tryz.func213 rfl (by decide) rfl (fun X => ?_)
  repeat (first | refine sc rfl ?_ | refine so rfl ?_)
  refine O_call (bounded_p st) (by rfl) (by rfl) (by rfl) (by rfl) (fun r hr => ?_)
  subst hr
  repeat refine so rfl ?_
  refine C_if rfl (fun h1 => ?_) (fun h1 => ?_) <;> simp only [Bool.not_eq_true', Bool.not_eq_false', decide_eq_true_eq, decide_eq_false_iff_not] at h1
  · repeat (first | refine sc rfl ?_ | refine so rfl ?_)
    exact ⟨_, rfl, rfl, by rw [rputL, rputE, if_neg h1, if_neg h1]⟩
  have l1 := vput_len10 (n := st.toNat) (by omega)
  have l2 := vput_len10 hn
  have hrp : (rp n st d).length = (vput st.toNat).length + (vput n).length + d.length := by unfold rp; rw [List.length_append, List.length_append]
  rw [rputL, rputE, if_pos h1, if_pos h1]
  repeat refine sc rfl ?_
  refine C_drawD rfl (by kernel_rfl) ?_
  repeat (first | refine sd rfl ?_)
  rw [show IntKind.u64.wrap st = ((st.toNat : Nat) : Int) by rw [u64wrap (by omega) (by omega)]; omega]
  refine D_call (Put83_p st.toNat (by omega)) rfl rfl rfl rfl ?_
  repeat (first | refine sd rfl ?_)
  refine D_call (Put83_p n hn) rfl rfl rfl rfl ?_
  repeat (first | refine sd rfl ?_)
  refine sds rfl ?_
  refine D_call (row_p (vput st.toNat) (vput n) d (by omega)) rfl rfl rfl rfl ?_
  rw [show vput st.toNat ++ vput n ++ d = rp n st d from rfl]
  refine D_call (Pad_p (rp n st d) (by omega)) rfl rfl rfl rfl ?_
  repeat (first | refine sd rfl ?_ | refine sc rfl ?_ | refine so rfl ?_)
  have lp := padL_len (rp n st d)
  generalize rp n st d = q at *
  refine C_if rfl (fun h2 => ?_) (fun h2 => ?_)
  · have h3 : ¬ clsE q.length = 0 := by simpa using h2
    repeat (first | refine sc rfl ?_ | refine so rfl ?_)
    exact ⟨_, rfl, rfl, by rw [if_neg h3, if_neg h3]⟩
  · have h3 : clsE q.length = 0 := by simpa using h2
    rw [if_pos h3, if_pos h3]
    repeat (first | refine sc rfl ?_ | refine so rfl ?_)
    refine O_call (Put84_p 9 0 (padL q) (by omega)) (by rfl) (by rfl) (by rfl) (by rfl) (fun r hr => ?_)
    subst hr
    repeat (first | refine sc rfl ?_ | refine so rfl ?_)
    exact ⟨_, rfl, rfl, rfl⟩
def rfail (n : Nat) (st : Int) : List UInt8 := rputL n (if 0 ≤ st ∧ st ≤ 1048576 then st else 1) []
theorem rFail_p (n : Nat) (st : Int) (hn : n < 18446744073709551616) : FnP Tryz.prog 208 [U64 (n : Int), I64 st] (· = .s (rfail n st)) := by
  refine FnP.intro Tryz.tabOK Tryz.wide_ Tryz.func208 rfl (by decide) rfl (fun X => ?_)
  repeat (first | refine sc rfl ?_ | refine so rfl ?_)
  refine O_call (bounded_p st) (by rfl) (by rfl) (by rfl) (by rfl) (fun r hr => ?_)
  subst hr
  repeat refine so rfl ?_
  refine C_ifJ ⟨[(0, U64 (n : Int)), (1, I64 (if 0 ≤ st ∧ st ≤ 1048576 then st else 1))], []⟩ rfl (fun h1 => ?_) (fun h1 => ?_) (fun s' h => C_le _ h ?_)
  · have h2 : ¬ (0 ≤ st ∧ st ≤ 1048576) := by simp at h1; omega
    repeat (first | refine sc rfl ?_ | refine so rfl ?_)
    exact Le.sub [] ⟨rfl, by rw [if_neg h2]; rfl, trivial⟩ rfl
  · have h2 : 0 ≤ st ∧ st ≤ 1048576 := by simp at h1; omega
    repeat refine sc rfl ?_
    exact Le.sub [] ⟨rfl, by rw [if_pos h2]; rfl, trivial⟩ rfl
  repeat (first | refine sc rfl ?_ | refine so rfl ?_)
  refine O_call (rPut_p n (if 0 ≤ st ∧ st ≤ 1048576 then st else 1) [] hn (by decide)) (by rfl) (by rfl) (by rfl) (by rfl) (fun r hr => ?_)
  subst hr
  repeat (first | refine sc rfl ?_ | refine so rfl ?_)
  exact ⟨_, rfl, rfl, rfl⟩
end Go.Proofs

namespace Go.Sy
open Go.RowKit Go.WideShapes Go.ChangeShapes

def FnW (g : Nat) (tab : Array Value) (tt : TypeId) (P : Program) (f : FuncId) (args : List AV) (cs : List Abs) (post : AV → List Abs → Prop) : Prop :=
  Callable P f ∧ ∀ (G : IM) (w : World) (cargs : List Value), w.heap[g]? = some (.cells tab tt (0, 0)) → g ∉ blocks cs → G.still g → ImOK G w → RepIT G args cargs → AbsOK G w cs →
    Calls P f cargs.toArray w fun en w' => ∃ r cr cs' G', post r cs' ∧ en = .returned cr ∧ RepI G' r cr ∧ IM.le G G' ∧
      NewAt G G' w.heap.size (blocks cs) ∧ ImOK G' w' ∧ AbsOK G' w' cs' ∧
      (∀ b ∈ blocks cs', w.heap.size ≤ b ∨ b ∈ blocks cs) ∧
      w'.os = w.os ∧ w'.tape = w.tape ∧ w'.output = w.output ∧ w.heap.size ≤ w'.heap.size ∧ ∀ k, k < w.heap.size → k ∉ blocks cs → G.still k → w'.heap[k]? = w.heap[k]?

section
variable {g : Nat} {tab : Array Value} {tt : TypeId} {P : Program} {T : Tab}

theorem FnW.mono {f : FuncId} {args : List AV} {cs : List Abs} {p q : AV → List Abs → Prop} (h : FnW g tab tt P f args cs p) (hpq : ∀ r c, p r c → q r c) : FnW g tab tt P f args cs q :=
  ⟨h.1, fun G w c a1 a2 a3 h1 h2 h3 => (h.2 G w c a1 a2 a3 h1 h2 h3).mono fun e w' ⟨r, cr, cs', G', k, rest⟩ => ⟨r, cr, cs', G', hpq r cs' k, rest⟩⟩

structure KnowsB (X : Ctx P T) (g : Nat) (tab : Array Value) (tt : TypeId) : Prop where
  blk : X.w0.heap[g]? = some (.cells tab tt (0, 0))
  out : g ∉ X.bs
  still : X.G0.still g

theorem FnW.intro (ok : TabOK P T) (wide : P.follows .mixedOrders = true) {f : FuncId} {fn : Func} {c : Code} {args : List AV} {cs : List Abs} {post : AV → List Abs → Prop} (hf : P.funcs[f]? = some fn) (hb : fn.body = some c)
    (hn : (fn.name == "runtime.NumGoroutine") = false) (hargs : Nat.ble args.length fn.ntmps = true)
    (h : ∀ X : Ctx P T, KnowsB X g tab tt → SymC X fn.ntmps c ⟨enumA 0 args, cs.map Ch.abs⟩ (EndsX T fn.results post)) : FnW g tab tt P f args cs post := by
  refine ⟨⟨fn, hf, by simp [hb], hn⟩, ?_⟩
  intro G w cargs hblk hout hstill him hrep hcs
  have hargs := Nat.le_of_ble_eq_true hargs
  refine calls_of_wp hf hb ?_
  let X : Ctx P T := ⟨ok, wide, w, G, blocks cs, fun _ => 0, fun _ _ _ => False, []⟩
  let e : Env := ⟨G, fun _ => 0, fun _ => undef⟩
  have hheap : HeapOK X e w (cs.map Ch.abs) := by
    refine ⟨cs.map (fun A => (Ch.abs A, A.bs)), by simp [Function.comp_def], ?_, by rw [flat_abs]; exact hcs.2.1, ?_⟩
    · intro p hp
      obtain ⟨A, hA, rfl⟩ := List.mem_map.1 hp
      exact ⟨rfl, hcs.1 A hA⟩
    · rw [flat_abs]
      intro b hb
      exact ⟨(hcs.2.2 b hb).1, .inr hb, (hcs.2.2 b hb).2⟩
  have r : Rel X fn.ntmps e ⟨enumA 0 args, cs.map Ch.abs⟩ { tmps := cargs.toArray ++ Array.replicate (fn.ntmps - cargs.toArray.size) undef, defers := [] } w :=
    Rel.enter rfl rfl him (RepIT.toRep (e := e) args hrep) hargs hheap rfl
  refine Code.wp_mono (fun ex a' w' hc => ?_) (h X ⟨hblk, hout, hstill⟩ e _ w r)
  have fin : ∀ (e' : Env) (st' : St), Rel X fn.ntmps e' st' a' w' → (∃ r cs rest, resA T st' fn.results.toList = some r ∧ st'.c.Perm (cs.map Ch.abs ++ rest) ∧ r.imm = true ∧ post r cs) →
      a'.defers = [] ∧ ∃ v, (results fn a'.tmps).run P w' = .ok v w' ∧ (∃ r cr cs' G', post r cs' ∧ Ending.returned v = .returned cr ∧ RepI G' r cr ∧ IM.le G G' ∧
      NewAt G G' w.heap.size (blocks cs) ∧ ImOK G' w' ∧ AbsOK G' w' cs' ∧
      (∀ b ∈ blocks cs', w.heap.size ≤ b ∨ b ∈ blocks cs) ∧
      w'.os = w.os ∧ w'.tape = w.tape ∧ w'.output = w.output ∧ w.heap.size ≤ w'.heap.size ∧ ∀ k, k < w.heap.size → k ∉ blocks cs → G.still k → w'.heap[k]? = w.heap[k]?) := by
    intro e' st' hr ⟨x, cs', rest, h1, hk, h2, h3⟩
    obtain ⟨v, h5, h6⟩ := resA_sound hr h1
    obtain ⟨q1, q2⟩ := (hr.heap.perm hk).absOK
    refine ⟨hr.defers, v, h5, x, v, cs', e'.G, h3, rfl, Rep.toI x h2 h6, hr.le, ⟨hr.new, hr.newm⟩, ⟨hr.im, hr.mz⟩, q1, q2, hr.os, hr.tape, hr.output, hr.sz, fun k hk hnin hs => hr.keep k hk hnin hs⟩
  cases ex with
  | normal => obtain ⟨e', st', h1, h2⟩ := hc; exact fin e' st' h1 h2
  | ret => obtain ⟨e', st', h1, h2⟩ := hc; exact fin e' st' h1 h2
  | exit id => obtain ⟨e', st', h1, h2⟩ := hc; exact h2.elim
  | goto l => obtain ⟨e', st', h1, h2⟩ := hc; exact h2.elim
  | panic ch => exact hc.2.elim
  | outgrown => exact hc.elim

variable {X : Ctx P T} {n : Nat} {ops : Array Oper} {K : St → Prop}

theorem KnowsB.now (hK : KnowsB X g tab tt) {e : Env} {st : St} {a : Act} {w : World} (r : Rel X n e st a w) : w.heap[g]? = some (.cells tab tt (0, 0)) ∧ e.G.still g := by
  have hlt : g < X.w0.heap.size := (Array.getElem?_eq_some_iff.1 hK.blk).1
  refine ⟨by rw [r.keep g hlt hK.out hK.still]; exact hK.blk, fun L hL => ?_⟩
  rcases r.newm g _ hL with h | h | h
  · exact hK.still L h
  · omega
  · exact hK.out h

theorem O_callW (hK : KnowsB X g tab tt) (is : List Nat) {f : FuncId} {dst : Nat} {args : Array Operand} {tys : Array TypeId} {ty : TypeId} {pos : String} {aft : Array Edge} {gd : Option (Nat × Bool)} {rest : List Oper} {avs : List AV} {cs : List Abs} {cr : List Ch} {post : AV → List Abs → Prop}
    {s : List (Nat × AV)} {c : List Ch} (hf : FnW g tab tt P f avs cs post) (hg : guardA ops ⟨s, c⟩ ⟨some dst, .call ⟨.value (.func f), args, tys⟩, ty, pos, aft, gd⟩ = some true) (ha : opds s args.toList = some avs) (himm : AV.imm.immL avs = true)
    (hp : pickA is c = some (cs, cr)) (hd : Nat.blt dst n = true)
    (k : ∀ r cs', post r cs' → SymO X n ops rest ⟨(dst, r) :: s, cs'.map Ch.abs ++ cr⟩ K) :
    SymO X n ops (⟨some dst, .call ⟨.value (.func f), args, tys⟩, ty, pos, aft, gd⟩ :: rest) ⟨s, c⟩ K := by
  intro e a w Q r hq
  unfold wpList
  rw [if_pos (guardA_sound r hg)]
  refine .inl ?_
  unfold Oper.wp
  rw [run_call hf.1 a.eval rfl w, Oper.upon_enter]
  have h1 := RepT.toI avs himm (opds_sound r ha)
  rw [map_eval]
  obtain ⟨n1, n2⟩ := hK.now r
  have hd2 := (r.heap.perm (pickA_perm hp)).absOK
  have hout : g ∉ blocks cs := fun hin => by
    have hlt : g < X.w0.heap.size := (Array.getElem?_eq_some_iff.1 hK.blk).1
    rcases hd2.2 g hin with h | h
    · omega
    · exact hK.out h
  refine (hf.2 e.G w _ n1 hout n2 ⟨r.im, r.mz⟩ h1 hd2.1).mono ?_
  rintro en w' ⟨rv, cv, cs', G', hpost, rfl, g1, g2, g3, g4, g5, g6, o1, o2, o3, o4, o5⟩
  have r' := r.swapAbs (st := ⟨s, c⟩) (pickA_perm hp) g2 g4 g3 g5 g6 ⟨o1, o2, o3⟩ o4 o5
  exact k rv cs' hpost _ _ w' Q (r'.put (x := rv) (v := cv) hd (RepI.toRep (e := ⟨G', e.μ, e.hd⟩) rv g1)) hq
end

theorem FnW.ofCalls {g : Nat} {tab : Array Value} {tt : TypeId} {P : Program} {f : FuncId} {avs : List AV} {vs : List Value} {x : AV} {v : Value} (hc : Callable P f) (ha : ∀ G cargs, RepIT G avs cargs → cargs = vs) (hxi : ∀ G, RepI G x v)
    (h : ∀ w : World, w.heap[g]? = some (.cells tab tt (0, 0)) → Calls P f vs.toArray w fun e w' => e = .returned v ∧ Below w.heap.size w w') : FnW g tab tt P f avs [] (fun r cs' => r = x ∧ cs' = []) := by
  refine ⟨hc, fun G w cargs hb _ _ him hr _ => ?_⟩
  rw [ha G cargs hr]
  refine (h w hb).mono ?_
  rintro e w' ⟨rfl, hbl⟩
  have hblk : ∀ b, b < w.heap.size → w'.heap[b]? = w.heap[b]? := fun b h => hbl.block b h
  refine ⟨x, v, [], G, ⟨rfl, rfl⟩, rfl, hxi G, IM.le_refl _, NewAt.of _ (NewIn.refl _ _), ⟨fun b o u hu => ?_, fun b y hy => (him.2 b y hy).keep0 (hblk b (him.2 b y hy).lt)⟩, ⟨by simp, by simp [blocks], by simp [blocks]⟩, by simp [blocks], hbl.os, hbl.tape, hbl.output, hbl.size, fun k hk _ _ => hblk k hk⟩
  have h1 := him.1 b o u hu
  have h2 := Go.block_lt_of_cell h1
  simp only [World.cell?] at h1 ⊢
  rw [hblk b h2]
  exact h1

theorem FnW.law0 {g : Nat} {tab : Array Value} {tt : TypeId} {P : Program} {f : FuncId} {avs : List AV} {post : AV → List Abs → Prop} (h : FnW g tab tt P f avs [] post) (hp : ∀ r c, post r c → r = B true) {W : World} {args : Array Value}
    (hb : W.heap[g]? = some (.cells tab tt (0, 0))) (hr : RepIT (memG W) avs args.toList) :
    Calls P f args W fun e w' => e = .returned (.bool true) ∧ Below W.heap.size W w' := by
  have h1 := h.2 (memG W) W args.toList hb (by simp [blocks]) (fun L hL => by simp [memG] at hL) (memG_ok W) hr ⟨by simp, by simp [blocks], by simp [blocks]⟩
  rw [Array.toArray_toList] at h1
  refine h1.mono ?_
  rintro e w' ⟨r, cr, cs', G', hpo, rfl, g1, g2, g3, g4, g5, g6, o1, o2, o3, o4, o5⟩
  rw [hp r cs' hpo] at g1
  simp only [RepI] at g1
  refine ⟨by rw [g1], o1, o2, o3, o4, fun k hk => o5 k hk (by simp [blocks]) (fun L hL => by simp [memG] at hL)⟩

theorem law_callW {g : Nat} {tab : Array Value} {tt : TypeId} {P : Program} {fn : Func} {f : FuncId} {s : ChangeSpec} {tb : Nat} {ts : List Nat} {α : Type} {avs : α → List AV} {ok : α → Prop} (W : World) (hblk : W.heap[g]? = some (.cells tab tt (0, 0)))
    (hts : fn.params.toList = ts) (hrt : fn.resultTypes = #[tb]) (htb : P.underlying tb = some .bool) (hvars : s.vars = [])
    (hfn : ∀ (H : Type) (ds : List (DataW H)), ds.length = ts.length → s.fn H ds = { results := [.lit (.bool true)], args := ds })
    (ho : OpensA P ts avs ok) (hl : laidOutB P = true) (hk : ∀ t ∈ ts, P.readableRec t = true ∧ t < P.types.size)
    (hc : ∀ x, ok x → FnW g tab tt P f (avs x) [] (fun r _ => r = B true)) {H : Type} (enc : TypeId × Value → H) :
    ∀ (base : Nat) (args : Array Value) (ds gs : List (DataW H)) (before : List MemPlace),
      (∀ (j : Nat) t v, fn.params[j]? = some t → args[j]? = some v → Value.okWide P W .any base t v) →
      DataW.Whole enc P fn.params.toList s.vars false W args.toList ds gs before →
      Calls P f args W fun e W' => ∃ v, e = .returned v ∧ s.post enc P fn false true false false W args v W' := by
  intro base args ds gs before hval hW
  have hW' := hW
  obtain ⟨p, q, hA, hV, rfl, hfz, hnd⟩ := hW
  rw [hvars] at hV
  obtain ⟨rfl, rfl⟩ := trodVars_none hV
  rw [hts] at hA
  obtain ⟨x, hx, hxr⟩ := ho H enc W base args.toList ds p (fun j t v h1 h2 => hval j t v (by rw [← hts] at h1; simpa using h1) (by simpa using h2)) hA
  refine ((hc x hx).law0 (fun r c h => h) hblk hxr).mono fun e W' ⟨he, bel⟩ => ?_
  subst he
  have hlen := trodAll_count hA
  refine ⟨_, rfl, ds, [], p ++ [], [], p, [], hW', ?_, ?_, ?_, bel.frame _, fun h => by cases h⟩
  · rw [List.append_nil, hfn H ds hlen, hrt]
    exact trodAll_mk1 (shut_bool htb _)
  · rw [List.append_nil, hfn H ds hlen, hts]
    exact trodAll_below hl bel hk hA
  · rw [List.append_nil, hfn H ds hlen, hvars]
    rfl
end Go.Sy

namespace Go.Proofs
open Go.Sy Go.Lib

noncomputable def powV : Array Value := (Lib.pow10Tab.map fun z => Value.int .u64 z).toArray
abbrev FnK (f : FuncId) (args : List AV) (cs : List Abs) (post : AV → List Abs → Prop) : Prop := FnW 1 powV 285 Tryz.prog f args cs post
theorem powTab {w : World} (h : w.heap[1]? = some (.cells powV 285 (0, 0))) : Lib.TabIs Tryz.prog w "internal/strconv.uint64pow10" .u64 Lib.pow10Tab := by
  unfold Lib.TabIs World.var?
  rw [show Tryz.prog.globalNamed "internal/strconv.uint64pow10" = some 1 by kernel_rfl]
  show (match w.heap[1]? with | some (.cells cs _ _) => some cs | _ => none) = _
  rw [h]
  rfl
theorem fmt10_W (n : Int) (h0 : -9223372036854775808 ≤ n) (h1 : n ≤ 9223372036854775807) : FnK 78 [I64 n, I64 10] [] (fun r cs' => r = .s (Lib.itoa n) ∧ cs' = []) :=
  FnW.ofCalls (vs := [.int .i64 n, .int .i64 10]) (v := S (Lib.itoa n)) ⟨_, Tryz.func78, rfl, by decide⟩ (fun G c h => by
    simp only [RepIT, RepI] at h
    obtain ⟨z, zs, rfl, rfl, z1, zs1, rfl, rfl, rfl⟩ := h
    rfl) (fun G => by simp only [RepI]) (fun w hw => (Tryz.internal_strconv_FormatInt_10 n h0 h1 w (powTab hw)).mono (fun e w' ⟨he, k, os, hg⟩ => ⟨he, by rw [hg]; exact Lib.below_grow _ w (Nat.le_refl _) k os⟩))
theorem itoa_W (n : Int) (h0 : -9223372036854775808 ≤ n) (h1 : n ≤ 9223372036854775807) : FnK 21 [I64 n] [] (fun r cs' => r = .s (Lib.itoa n) ∧ cs' = []) :=
  FnW.ofCalls (vs := [.int .i64 n]) (v := S (Lib.itoa n)) ⟨_, Tryz.func21, rfl, by decide⟩ (fun G c h => by
    simp only [RepIT, RepI] at h
    obtain ⟨z, zs, rfl, rfl, rfl⟩ := h
    rfl) (fun G => by simp only [RepI]) (fun w hw => (Tryz.strconv_Itoa n h0 h1 w (powTab hw)).mono (fun e w' ⟨he, k, os, hg⟩ => ⟨he, by rw [hg]; exact Lib.below_grow _ w (Nat.le_refl _) k os⟩))
theorem format_W (n : Int) (h0 : -9223372036854775808 ≤ n) (h1 : n ≤ 9223372036854775807) : FnK 107 [I64 n, I64 10] [] (fun r cs' => r = .s (Lib.itoa n) ∧ cs' = []) := by
  refine FnW.intro Tryz.tabOK Tryz.wide_ Tryz.func107 rfl (by decide) rfl (fun X hK => ?_)
  repeat (first | refine sc rfl ?_ | refine so rfl ?_)
  refine O_callW hK [] (fmt10_W n h0 h1) (by rfl) (by rfl) (by rfl) (by rfl) (by rfl) ?_
  rintro r' cs' ⟨rfl, rfl⟩
  repeat (first | refine sc rfl ?_ | refine so rfl ?_)
  exact ⟨_, [], _, rfl, pickA_perm (is := []) (As := []) rfl, rfl, rfl, rfl⟩
abbrev WDc (w : List UInt8) : List AV := [.s w]
theorem joinW_p (ws : List (List UInt8)) (sep : List UInt8) (h0 : 0 < ws.length) (hn : ws.length ≤ 2) (h : (Lib.join ws sep).length ≤ 140737488355328) : FnP Tryz.prog 37 [SL 1 WDc ws, .s sep] (· = .s (Lib.join ws sep)) := by
  refine FnP.ofHand ⟨_, Tryz.func37, rfl, by decide⟩ (fun G w cargs him hr => ?_)
  simp only [RepIT, RepI] at hr
  obtain ⟨v0, zs, rfl, ⟨aa, c, rfl, hc, ha⟩, v1, zs1, rfl, rfl, rfl⟩ := hr
  rcases ha with ha | ⟨b, o, rfl, ha⟩
  · omega
  have hcell : ∀ (j : Nat), j < ws.length → w.cell? ⟨b, o + j, none⟩ = some (S (ws.getD j default)) := by
    intro j hj
    have h1 := ha j hj
    simp only [WDc, CellsAt, RepI] at h1
    obtain ⟨⟨q, q1, q2, _⟩, _⟩ := h1
    have := him.1 b _ q q1
    rw [q2] at this
    rw [Nat.mul_one] at this
    exact this
  have c0 := hcell 0 h0
  have hj := Tryz.strings_Join b o c (ws.map fun x => ⟨x.toArray⟩) ⟨sep.toArray⟩ w (fun j u hu => by
    rw [List.getElem?_map] at hu
    cases hg : ws[j]? with
    | none => rw [hg] at hu; cases hu
    | some x =>
      rw [hg] at hu
      have hjl : j < ws.length := (List.getElem?_eq_some_iff.1 hg).1
      have h2 := hcell j hjl
      rw [List.getD_eq_getElem?_getD, hg] at h2
      simp only [Option.map_some, Option.some.injEq] at hu
      rw [← hu]
      exact h2) (block_lt_of_cell c0) (by rw [List.length_map]; omega) (by rw [List.length_map]; exact hc) (by rw [List.map_map]; simpa [Function.comp_def] using h)
  rw [List.length_map, List.map_map] at hj
  refine (show Calls Tryz.prog 37 _ w _ from hj).mono ?_
  rintro e w' ⟨rfl, hb⟩
  exact ⟨⟨_, rfl, fun H => by simp [RepI, S, Function.comp_def]⟩, hb⟩
def lineF (n : Int) (w : List UInt8) : List UInt8 := if n = 0 then [] else w ++ [32] ++ Lib.itoa n ++ [10]
theorem lineF_len {n : Int} {w : List UInt8} (h0 : -9223372036854775808 ≤ n) (h1 : n ≤ 9223372036854775807) : (lineF n w).length ≤ w.length + 24 := by
  have := Lib.itoa_length_le n h0 h1
  unfold lineF
  split
  · simp
  · simp only [List.length_append, List.length_cons, List.length_nil]; omega
theorem line_W (n : Int) (h0 : -9223372036854775808 ≤ n) (h1 : n ≤ 9223372036854775807) (ws : List (List UInt8)) (hw0 : 0 < ws.length) (hwn : ws.length ≤ 2) (hl : (Lib.join ws [32]).length ≤ 1000) :
    FnK 60 [I64 n, SL 1 WDc ws] [] (fun r cs' => r = .s (lineF n (Lib.join ws [32])) ∧ cs' = []) := by
  refine FnW.intro Tryz.tabOK Tryz.wide_ Tryz.func60 rfl (by decide) rfl (fun X hK => ?_)
  have hi := Lib.itoa_length_le n h0 h1
  unfold lineF
  repeat (first | refine sc rfl ?_ | refine so rfl ?_)
  refine C_if rfl (fun m0 => ?_) (fun m0 => ?_) <;> simp only [pL] at m0
  · rw [if_pos m0]
    repeat (first | refine sc rfl ?_ | refine so rfl ?_)
    exact ⟨_, [], _, rfl, pickA_perm (is := []) (As := []) rfl, rfl, rfl, rfl⟩
  · rw [if_neg m0]
    repeat (first | refine sc rfl ?_ | refine so rfl ?_)
    refine O_call (joinW_p ws [32] hw0 hwn (by omega)) (by rfl) (by rfl) (by rfl) (by rfl) (fun r hr => ?_)
    subst hr
    repeat refine so rfl ?_
    refine ⟨by simp only [List.length_append, List.length_cons, List.length_nil, maxLen]; omega, ?_⟩
    repeat refine so rfl ?_
    refine O_callW hK [] (format_W n h0 h1) (by rfl) (by rfl) (by rfl) (by rfl) (by rfl) ?_
    rintro r' cs' ⟨rfl, rfl⟩
    repeat refine so rfl ?_
    refine ⟨by simp only [List.length_append, List.length_cons, List.length_nil, maxLen]; omega, ?_⟩
    repeat refine so rfl ?_
    refine ⟨by simp only [List.length_append, List.length_cons, List.length_nil, maxLen]; omega, ?_⟩
    repeat (first | refine sc rfl ?_ | refine so rfl ?_)
    exact ⟨_, [], _, rfl, pickA_perm (is := []) (As := []) rfl, rfl, rfl, rfl⟩
def wordL (k : Int) : List UInt8 :=
  if k = 1 then [104, 101, 108, 108, 111] else if k = 2 then [99, 97, 108, 108] else if k = 3 then [111, 110, 101, 119, 97, 121] else if k = 4 then [99, 97, 110, 99, 101, 108] else if k = 5 then [112, 105, 110, 103] else if k = 6 then [115, 99, 104, 101, 109, 97] else if k = 7 then [98, 105, 110, 100] else if k = 8 then [97, 100, 109, 105, 110] else [114, 101, 112, 108, 121]
theorem word_c (k : Int) : FnP Tryz.prog 62 [I64 k] (· = .s (wordL k)) := by
  refine FnP.intro Tryz.tabOK Tryz.wide_ Tryz.func62 rfl (by decide) rfl (fun X => ?_)
  unfold wordL
  iterate 8
    repeat (first | refine sc rfl ?_ | refine so rfl ?_)
    refine C_if rfl (fun h => ?_) (fun h => ?_) <;> simp only [pL] at h
    · rw [if_pos h]
      repeat (first | refine sc rfl ?_ | refine so rfl ?_)
      exact ⟨_, rfl, rfl, rfl⟩
    rw [if_neg h]
  repeat (first | refine sc rfl ?_ | refine so rfl ?_)
  exact ⟨_, rfl, rfl, rfl⟩
end Go.Proofs
