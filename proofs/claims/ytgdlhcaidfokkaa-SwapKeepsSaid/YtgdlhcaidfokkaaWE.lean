/- What swaps keep, in plain words; what was there put back. -/
import Derived.Test.YtgdlhcaidfokkaaWD
set_option linter.unusedSimpArgs false
set_option linter.unusedVariables false
set_option maxRecDepth 100000
namespace Go.Proofs
open Go.Sy Go.Lib

def str (l : List Ev) (c : Int) : List UInt8 := strm l (places l c l.length)
theorem frC_str (l : List Ev) (c : Int) : frC l c = framesL (str l c) := rfl

theorem layL_not : ∀ (ps : List Nat) (l : List Ev) (b : List UInt8) (j : Nat), (∀ i ∈ ps, i < l.length) → j ∉ ps → (layL ps l b).getD j default = l.getD j default
  | [], l, b, j, _, _ => rfl
  | i :: ps, l, b, j, hi, hj => by
    simp only [List.mem_cons, not_or] at hj
    rw [layL, layL_not ps _ _ j (fun k hk => by rw [setB_len]; exact hi k (List.mem_cons_of_mem _ hk)) hj.2, setB_getD _ _ _ _ (hi i (List.mem_cons_self ..)), if_neg hj.1]

theorem layL_str : ∀ (ps : List Nat) (l : List Ev) (b : List UInt8), ps.Nodup → (∀ i ∈ ps, i < l.length) → (strm l ps).length = b.length → strm (layL ps l b) ps = b
  | [], l, b, _, _, h => by
    have : b = [] := List.eq_nil_of_length_eq_zero (by rw [← h]; rfl)
    rw [this]; rfl
  | i :: ps, l, b, hn, hi, h => by
    have h0 := hi i (List.mem_cons_self ..)
    obtain ⟨hn1, hn2⟩ := List.nodup_cons.1 hn
    have h1 : (strm l (i :: ps)).length = (l.getD i default).b.length + (strm l ps).length := by simp [strm]
    rw [h1] at h
    have hs := setB_shp (l := l) (i := i) (b := b.take (l.getD i default).b.length) h0 (by rw [List.length_take]; omega)
    have hi2 : ∀ k ∈ ps, k < (setB l i (b.take (l.getD i default).b.length)).length := fun k hk => by rw [setB_len]; exact hi k (List.mem_cons_of_mem _ hk)
    have ih := layL_str ps (setB l i (b.take (l.getD i default).b.length)) (b.drop (l.getD i default).b.length) hn2 hi2 (by rw [strm_shp hs, List.length_drop]; omega)
    rw [layL]
    show ((layL ps _ _).getD i default).b ++ strm (layL ps _ _) ps = b
    rw [ih, layL_not ps _ _ i hi2 hn1, setB_getD _ _ _ _ h0, if_pos rfl]
    exact List.take_append_drop _ _

theorem places_nodup (l : List Ev) (c : Int) (i : Nat) : (places l c i).Nodup := (List.nodup_range).filter _

theorem hears_c {l : List Ev} {j : Nat} {c : Int} (h : hears l j c = true) : (l.getD j default).c = c ∧ 0 ≤ c ∧ c ≤ 15 := by
  unfold hears at h
  rw [decide_eq_true_eq] at h
  exact ⟨h.2.1, h.2.2.1, h.2.2.2.1⟩

theorem doL_places (l : List Ev) (x : Sw) (c : Int) : places (doL l x) c (doL l x).length = places l c l.length := by
  rw [doL_len, shp_places (doL_shp l x)]

theorem str_doL (l : List Ev) (x : Sw) (c : Int) : str (doL l x) c = if x.c = c ∧ hitL (frC l x.c) x = true then swapB (str l c) (offs (frC l c) x.n.toNat + 4) x.b else str l c := by
  unfold str
  rw [doL_places]
  unfold doL
  by_cases hh : hitL (frC l x.c) x = true
  · rw [if_pos hh]
    by_cases hc : x.c = c
    · subst hc
      rw [if_pos ⟨rfl, hh⟩]
      refine layL_str _ _ _ (places_nodup _ _ _) (fun i hi => (places_mem hi).1) ?_
      have hfit := (hitL_fit (b := strm l (places l x.c l.length)) hh).2
      exact (swapB_len _ _ _ hfit).symm
    · rw [if_neg (fun h => hc h.1)]
      unfold strm
      rw [List.flatMap_def, List.flatMap_def]
      congr 1
      refine List.map_congr_left (fun j hj => ?_)
      rw [layL_not _ _ _ j (fun i hi => (places_mem hi).1) (fun hj2 => ?_)]
      have h1 := (hears_c (places_mem hj).2).1
      have h2 := (hears_c (places_mem hj2).2).1
      exact hc (h2.symm.trans h1)
  · rw [if_neg hh, if_neg (fun h => hh h.2)]

/-- Heads alike, frames alike. -/
theorem frE_congr {s t : List UInt8} (hl : s.length = t.length) (hb : ∀ i, i < 4 → by_ s i = by_ t i) : frE s = frE t ∧ lenB s = lenB t := by
  have h2 : lenB s = lenB t := by unfold lenB; rw [hb 2 (by decide), hb 3 (by decide)]
  have h3 : headE s = headE t := by unfold headE; rw [hl, h2, hb 0 (by decide)]
  exact ⟨by unfold frE; rw [h3, hl, h2], h2⟩

theorem by_append {p q : List UInt8} {i : Nat} (h : i < p.length) : by_ (p ++ q) i = by_ p i := by
  unfold by_
  simp [List.getD, List.getElem?_append_left h]

theorem framesL_swap : ∀ (n : Nat) (s y : List UInt8), n < (framesL s).length → y.length = ((framesL s).getD n default).b.length →
    framesL (swapB s (offs (framesL s) n + 4) y) = (framesL s).set n { (framesL s).getD n default with b := y }
  | 0, s, y, hn, hy => by
    have h0 := framesL_eq s
    by_cases hz : frE s = 0
    · rw [if_pos hz] at h0
      have h1 := frE_zero hz
      have h2 := frOf_len hz
      rw [h0] at hn hy ⊢
      simp only [List.getD_cons_zero, List.set_cons_zero, offs_zero, Nat.zero_add] at hy ⊢
      rw [h2] at hy
      have hfit : 4 + y.length ≤ s.length := by omega
      have hl := swapB_len s 4 y hfit
      have ht : (s.take 4).length = 4 := by rw [List.length_take]; omega
      have hb : ∀ i, i < 4 → by_ (swapB s 4 y) i = by_ s i := fun i hi => by
        unfold swapB
        rw [List.append_assoc, by_append (by omega)]
        conv => rhs; rw [← List.take_append_drop 4 s]
        rw [by_append (by omega)]
      obtain ⟨e1, e2⟩ := frE_congr hl hb
      rw [framesL_eq, if_pos (by rw [e1]; exact hz), e2]
      have hd : (swapB s 4 y).drop (4 + lenB s) = s.drop (4 + lenB s) := by
        unfold swapB
        rw [List.drop_append_of_le_length (by simp; omega), List.drop_eq_nil_of_le (by simp; omega), List.nil_append, hy]
      have hf : frOf (swapB s 4 y) = { frOf s with b := y } := by
        unfold frOf
        rw [hb 0 (by decide), hb 1 (by decide), e2]
        simp only [Fr.mk.injEq, true_and]
        unfold swapB
        rw [List.append_assoc, List.drop_append_of_le_length (by omega), List.drop_eq_nil_of_le (by omega), List.nil_append, ← hy, List.take_left]
      rw [hd, hf]
    · rw [if_neg hz] at h0
      rw [h0] at hn
      simp at hn
  | n + 1, s, y, hn, hy => by
    have h0 := framesL_eq s
    by_cases hz : frE s = 0
    · rw [if_pos hz] at h0
      have h1 := frE_zero hz
      have h2 := frOf_len hz
      generalize hrest : s.drop (4 + lenB s) = t at h0
      have ih := framesL_swap n t y (by rw [h0] at hn; simpa using hn) (by rw [h0] at hy; simpa using hy)
      have hfit := fr_fit (b := t) (i := n) (by rw [h0] at hn; simpa using hn)
      have hy2 : y.length = ((framesL t).getD n default).b.length := by rw [h0] at hy; simpa using hy
      have hcut : swapB s (offs (framesL s) (n + 1) + 4) y = s.take (4 + lenB s) ++ swapB t (offs (framesL t) n + 4) y := by
        rw [h0, offs_cons, h2]
        have hlt : (s.take (4 + lenB s)).length = 4 + lenB s := by rw [List.length_take]; omega
        have hs : ∀ q, q = s.take (4 + lenB s) → s = q ++ t := by rintro q rfl; rw [← hrest, List.take_append_drop]
        generalize hq : s.take (4 + lenB s) = q at *
        have hs2 := hs q rfl
        generalize lenB s = ln at *
        subst hs2
        unfold swapB
        rw [show 4 + ln + offs (framesL t) n + 4 = q.length + (offs (framesL t) n + 4) by omega, List.take_length_add_append, show q.length + (offs (framesL t) n + 4) + y.length = q.length + (offs (framesL t) n + 4 + y.length) by omega, List.drop_length_add_append, List.append_assoc, List.append_assoc, List.append_assoc]
      have htl : t.length + (4 + lenB s) = s.length := by rw [← hrest, List.length_drop]; omega
      have hsl := swapB_len t (offs (framesL t) n + 4) y (by omega)
      have hlt : (s.take (4 + lenB s)).length = 4 + lenB s := by rw [List.length_take]; omega
      rw [hcut]
      have hl : (s.take (4 + lenB s) ++ swapB t (offs (framesL t) n + 4) y).length = s.length := by rw [List.length_append]; omega
      have hb : ∀ i, i < 4 → by_ (s.take (4 + lenB s) ++ swapB t (offs (framesL t) n + 4) y) i = by_ s i := fun i hi => by
        rw [by_append (by omega)]
        conv => rhs; rw [← List.take_append_drop (4 + lenB s) s]
        rw [by_append (by omega)]
      obtain ⟨e1, e2⟩ := frE_congr hl hb
      rw [framesL_eq, if_pos (by rw [e1]; exact hz), e2]
      have hd : (s.take (4 + lenB s) ++ swapB t (offs (framesL t) n + 4) y).drop (4 + lenB s) = swapB t (offs (framesL t) n + 4) y := by
        exact List.drop_left' hlt
      have hf : frOf (s.take (4 + lenB s) ++ swapB t (offs (framesL t) n + 4) y) = frOf s := by
        unfold frOf
        rw [hb 0 (by decide), hb 1 (by decide), e2]
        simp only [Fr.mk.injEq, true_and]
        rw [List.drop_append_of_le_length (by omega), List.take_append_of_le_length (by rw [List.length_drop]; omega), List.drop_take]
        rw [show 4 + lenB s - 4 = lenB s by omega, List.take_take, Nat.min_self]
      rw [hd, hf, ih, h0]
      simp
    · rw [if_neg hz] at h0
      rw [h0] at hn
      simp at hn
end Go.Proofs

/- What swaps keep, in plain words: streams alike but for bodies of frames that wait; what was there put back. -/
set_option linter.unusedSimpArgs false
set_option linter.unusedVariables false
set_option maxRecDepth 100000
namespace Go.Proofs
open Go.Sy Go.Lib

theorem ext_getD {α : Type} [Inhabited α] {l m : List α} (hl : l.length = m.length) (h : ∀ i, i < l.length → l.getD i default = m.getD i default) : l = m := by
  refine List.ext_getElem hl (fun i h1 h2 => ?_)
  have := h i h1
  simpa [List.getD, List.getElem?_eq_getElem h1, List.getElem?_eq_getElem h2] using this

abbrev fr (s : List UInt8) (n : Nat) : Fr := (framesL s).getD n default

/-- Streams alike but for the bodies of frames that wait. -/
structure Sim (s t : List UInt8) : Prop where
  len : s.length = t.length
  nfr : (framesL s).length = (framesL t).length
  hd : ∀ n, n < (framesL s).length → (fr s n).k = (fr t n).k ∧ (fr s n).f = (fr t n).f ∧ (fr s n).b.length = (fr t n).b.length
  out : ∀ q, q < s.length → (∀ n, n < (framesL s).length → askK (fr s n).k = true → ¬ (offs (framesL s) n + 4 ≤ q ∧ q < offs (framesL s) n + 4 + (fr s n).b.length)) → s.getD q 0 = t.getD q 0

theorem Sim.refl (s : List UInt8) : Sim s s := ⟨rfl, rfl, fun _ _ => ⟨rfl, rfl, rfl⟩, fun _ _ _ => rfl⟩

theorem offs_congr {fs gs : List Fr} (hl : fs.length = gs.length) (h : ∀ n, n < fs.length → (fs.getD n default).b.length = (gs.getD n default).b.length) : ∀ k, k ≤ fs.length → offs fs k = offs gs k
  | 0, _ => rfl
  | k + 1, hk => by
    rw [offs_succ fs k (by omega), offs_succ gs k (by omega), offs_congr hl h k (by omega), h k (by omega)]

theorem Sim.offs_eq {s t : List UInt8} (h : Sim s t) {n : Nat} (hn : n ≤ (framesL s).length) : offs (framesL s) n = offs (framesL t) n :=
  offs_congr h.nfr (fun i hi => (h.hd i hi).2.2) n hn

theorem offs_lt {fs : List Fr} {i : Nat} : ∀ {j : Nat}, i < j → j ≤ fs.length → offs fs i + 4 + (fs.getD i default).b.length ≤ offs fs j
  | 0, h, _ => by omega
  | j + 1, h, hj => by
    rw [offs_succ fs j (by omega)]
    by_cases hij : i = j
    · subst hij; omega
    · have := offs_lt (fs := fs) (i := i) (j := j) (by omega) (by omega)
      omega

theorem fr_body {s : List UInt8} {n : Nat} (hn : n < (framesL s).length) {q : Nat} (hq : q < (fr s n).b.length) : (fr s n).b.getD q 0 = s.getD (offs (framesL s) n + 4 + q) 0 := by
  have h := (fr_here hn).2
  have hq2 := hq
  unfold fr at hq hq2 ⊢
  rw [← h] at hq2 ⊢
  have h2 : q < lenB (s.drop (offs (framesL s) n)) := by
    simp only [frOf, List.length_take] at hq2
    omega
  simp only [frOf, List.getD, List.getElem?_take, List.getElem?_drop, if_pos h2]
  rw [← Nat.add_assoc]

theorem getD_set {α : Type} [Inhabited α] (l : List α) (i j : Nat) (x : α) (hi : i < l.length) : (l.set i x).getD j default = if j = i then x else l.getD j default := by
  by_cases h : j = i
  · subst h
    simp [List.getD, hi]
  · simp [List.getD, h, List.getElem?_set, Ne.symm h]

theorem Sim.swap {s t : List UInt8} (h : Sim s t) {n : Nat} {y : List UInt8} (hn : n < (framesL t).length) (ha : askK (fr t n).k = true) (hy : y.length = (fr t n).b.length) :
    Sim s (swapB t (offs (framesL t) n + 4) y) := by
  have hf := framesL_swap n t y hn hy
  have hfit := fr_fit hn
  have hl := swapB_len t (offs (framesL t) n + 4) y (by unfold fr at hy; omega)
  refine ⟨by rw [hl]; exact h.len, by rw [hf, List.length_set]; exact h.nfr, fun i hi => ?_, fun q hq hout => ?_⟩
  · have h1 := h.hd i hi
    unfold fr at h1 hy ⊢
    rw [hf, getD_set _ _ _ _ hn]
    by_cases e : i = n
    · subst e
      rw [if_pos rfl]
      exact ⟨h1.1, h1.2.1, by rw [h1.2.2]; exact hy.symm⟩
    · rw [if_neg e]; exact h1
  · have hn2 : n < (framesL s).length := by rw [h.nfr]; exact hn
    have h1 := h.hd n hn2
    have h2 := h.offs_eq (Nat.le_of_lt hn2)
    rw [swapB_get _ _ _ _ (by unfold fr at hy; omega) (by rw [← h.len]; exact hq), if_neg ?_]
    · exact h.out q hq hout
    · intro hc
      refine hout n hn2 (by rw [h1.1]; exact ha) ?_
      rw [h2, h1.2.2, ← hy]
      exact hc

theorem Sim.rest {s t : List UInt8} (h : Sim s t) {n : Nat} (hn : n < (framesL s).length) (ha : askK (fr s n).k = false) : (fr s n).b = (fr t n).b := by
  have h1 := h.hd n hn
  have hn2 : n < (framesL t).length := by rw [← h.nfr]; exact hn
  have hfit := fr_fit hn
  refine ext_getD (α := UInt8) h1.2.2 (fun q hq => ?_)
  have e1 := fr_body hn hq
  have e2 := fr_body hn2 (q := q) (by rw [← h1.2.2]; exact hq)
  show (fr s n).b.getD q 0 = (fr t n).b.getD q 0
  rw [e1, e2, ← h.offs_eq (Nat.le_of_lt hn)]
  unfold fr at hq
  refine h.out _ (by omega) (fun i hi hai hr => ?_)
  have hne : i ≠ n := fun e => by subst e; rw [ha] at hai; cases hai
  unfold fr at hr
  rcases Nat.lt_or_gt_of_ne hne with hlt | hgt
  · have := offs_lt (fs := framesL s) hlt (Nat.le_of_lt hn)
    omega
  · have := offs_lt (fs := framesL s) hgt (Nat.le_of_lt hi)
    omega

theorem Sim.eq {s t : List UInt8} (h : Sim s t) (hb : ∀ n, n < (framesL s).length → (fr s n).b = (fr t n).b) : s = t := by
  refine ext_getD (α := UInt8) h.len (fun q hq => ?_)
  show s.getD q 0 = t.getD q 0
  by_cases hc : ∃ n, n < (framesL s).length ∧ (offs (framesL s) n + 4 ≤ q ∧ q < offs (framesL s) n + 4 + (fr s n).b.length)
  · obtain ⟨n, hn, h1, h2⟩ := hc
    have hn2 : n < (framesL t).length := by rw [← h.nfr]; exact hn
    have e1 := fr_body hn (q := q - (offs (framesL s) n + 4)) (by omega)
    have e2 := fr_body hn2 (q := q - (offs (framesL s) n + 4)) (by rw [← hb n hn]; omega)
    rw [← h.offs_eq (Nat.le_of_lt hn), ← hb n hn, e1] at e2
    rw [show offs (framesL s) n + 4 + (q - (offs (framesL s) n + 4)) = q by omega] at e2
    exact e2
  · exact h.out q hq (fun n hn _ hr => hc ⟨n, hn, hr⟩)

/-! ### Scripts -/
theorem hitL_iff {fs : List Fr} {x : Sw} (h : hitL fs x = true) : 0 ≤ x.n ∧ x.n.toNat < fs.length ∧ askK (fs.getD x.n.toNat default).k = true ∧ x.b.length = (fs.getD x.n.toNat default).b.length := by
  unfold hitL at h
  simp only [Bool.and_eq_true, decide_eq_true_eq] at h
  refine ⟨h.1.1.1, by omega, h.1.2, h.2.symm⟩

theorem frC_doL (l : List Ev) (x : Sw) (c : Int) : frC (doL l x) c = if x.c = c ∧ hitL (frC l x.c) x = true then (frC l c).set x.n.toNat { (frC l c).getD x.n.toNat default with b := x.b } else frC l c := by
  rw [frC_str, str_doL]
  split
  · rename_i h
    obtain ⟨rfl, h2⟩ := h
    obtain ⟨h3, h4, h5, h6⟩ := hitL_iff h2
    exact framesL_swap _ _ _ h4 h6
  · rfl

structure SimL (l m : List Ev) : Prop where
  sh : shp m = shp l
  sim : ∀ c, Sim (str l c) (str m c)
  quiet : ∀ j, (∀ c, hears l j c = false) → m.getD j default = l.getD j default

theorem SimL.refl (l : List Ev) : SimL l l := ⟨rfl, fun _ => Sim.refl _, fun _ _ => rfl⟩

theorem SimL.step {l m : List Ev} (h : SimL l m) (x : Sw) : SimL l (doL m x) := by
  refine ⟨(doL_shp m x).trans h.sh, fun c => ?_, fun j hj => ?_⟩
  · rw [str_doL]
    split
    · rename_i hc
      obtain ⟨rfl, h2⟩ := hc
      obtain ⟨h3, h4, h5, h6⟩ := hitL_iff h2
      exact (h.sim _).swap h4 h5 h6
    · exact h.sim c
  · rw [← h.quiet j hj]
    unfold doL
    split
    · refine layL_not _ _ _ _ (fun i hi => (places_mem hi).1) (fun hi => ?_)
      have := (places_mem hi).2
      rw [shp_hears h.sh, hj] at this
      cases this
    · rfl

theorem SimL.eq {l m : List Ev} (h : SimL l m) (hs : ∀ c, str m c = str l c) : m = l := by
  have hl := shp_len h.sh
  refine ext_getD hl (fun j hj => ?_)
  by_cases hc : ∃ c, hears l j c = true
  · obtain ⟨c, hc⟩ := hc
    have hcm : hears m j c = true := by rw [shp_hears h.sh]; exact hc
    have p1 := (piece l c j (by omega) hc).2
    have p2 := (piece m c j hj hcm).2
    have g := shp_get h.sh j
    have hsc := hs c
    unfold str at hsc
    rw [hsc, shp_places h.sh, strm_shp h.sh] at p2
    simp only [shp1, Prod.mk.injEq] at g
    rw [g.2.2.2, ← p1] at p2
    cases hm : m.getD j default with
    | mk a b c d =>
      cases hll : l.getD j default with
      | mk a' b' c' d' =>
        rw [hm, hll] at g
        rw [hm, hll] at p2
        simp only at g p2
        rw [g.1, g.2.1, g.2.2.1, p2]
  · exact h.quiet j (fun c => by
      cases hh : hears l j c with
      | false => rfl
      | true => exact absurd ⟨c, hh⟩ hc)

abbrev Right (l t : List Ev) (c : Int) (i : Nat) : Prop := ((frC t c).getD i default).b = ((frC l c).getD i default).b
def Good (l : List Ev) (x : Sw) : Prop := ∃ i : Nat, x.n = (i : Int) ∧ i < (frC l x.c).length ∧ x.b = ((frC l x.c).getD i default).b

theorem keeps {l t : List Ev} (h : SimL l t) {x : Sw} (hx : Good l x) : (∀ c j, j < (frC l c).length → Right l t c j → Right l (doL t x) c j) ∧ Right l (doL t x) x.c x.n.toNat := by
  obtain ⟨i, hi, hil, hb⟩ := hx
  have hin : x.n.toNat = i := by omega
  have hs := h.sim x.c
  have hil2 : i < (frC t x.c).length := by rw [frC_str, ← hs.nfr]; exact hil
  refine ⟨fun c j hj hr => ?_, ?_⟩
  · unfold Right
    rw [frC_doL]
    split
    · rename_i hc
      obtain ⟨rfl, h2⟩ := hc
      rw [hin, getD_set _ _ _ _ hil2]
      by_cases e : j = i
      · subst e; rw [if_pos rfl]; exact hb
      · rw [if_neg e]; exact hr
    · exact hr
  · unfold Right
    rw [frC_doL]
    split
    · rw [hin, getD_set _ _ _ _ hil2, if_pos rfl]; exact hb
    · rename_i hc
      rw [hin]
      have hd := hs.hd i hil
      have hna : askK ((frC l x.c).getD i default).k = false := by
        cases ha : askK ((frC l x.c).getD i default).k with
        | false => rfl
        | true =>
          refine absurd ⟨rfl, ?_⟩ hc
          unfold hitL
          simp only [Bool.and_eq_true, decide_eq_true_eq]
          rw [hin]
          refine ⟨⟨⟨by omega, by omega⟩, ?_⟩, ?_⟩
          · rw [frC_str, ← hd.1]; exact ha
          · rw [hb, frC_str, ← hd.2.2]; rfl
      exact (hs.rest hil hna).symm

theorem backs (l : List Ev) : ∀ (r : List Sw) (t : List Ev), SimL l t → (∀ x ∈ r, Good l x) → SimL l (bodies t r) ∧ (∀ c j, j < (frC l c).length → Right l t c j → Right l (bodies t r) c j) ∧ ∀ x ∈ r, Right l (bodies t r) x.c x.n.toNat
  | [], t, h, _ => ⟨h, fun _ _ _ hr => hr, fun x hx => by cases hx⟩
  | x :: r, t, h, hg => by
    have hx := hg x (List.mem_cons_self ..)
    obtain ⟨k1, k2⟩ := keeps h hx
    obtain ⟨b1, b2, b3⟩ := backs l r (doL t x) (h.step x) (fun y hy => hg y (List.mem_cons_of_mem _ hy))
    refine ⟨b1, fun c j hj hr => b2 c j hj (k1 c j hj hr), fun y hy => ?_⟩
    rcases List.mem_cons.1 hy with rfl | hy
    · obtain ⟨i, hi, hil, _⟩ := hx
      exact b2 _ _ (by rw [hi]; exact hil) k2
    · exact b3 y hy

theorem bodies_sim (l : List Ev) : ∀ (r : List Sw) (t : List Ev), SimL l t → SimL l (bodies t r)
  | [], t, h => h
  | x :: r, t, h => bodies_sim l r (doL t x) (h.step x)

def backC (l : List Ev) (c : Nat) (i : Nat) : List Sw := (List.range i).map (fun (k : Nat) => ⟨(c : Int), (k : Int), ((frC l c).getD k default).b⟩)
def backL (l : List Ev) (c : Nat) : List Sw := (List.range c).flatMap (fun c => backC l c (frC l c).length)

theorem backL_succ (l : List Ev) (c : Nat) : backL l (c + 1) = backL l c ++ backC l c (frC l c).length := by
  simp [backL, List.range_succ]
theorem backC_succ (l : List Ev) (c i : Nat) : backC l c (i + 1) = backC l c i ++ [⟨(c : Int), (i : Int), ((frC l c).getD i default).b⟩] := by
  simp [backC, List.range_succ]

theorem str_none (l : List Ev) (c : Int) (h : ¬ (0 ≤ c ∧ c ≤ 15)) : str l c = [] := by
  unfold str
  have : places l c l.length = [] := by
    refine List.eq_nil_iff_forall_not_mem.2 (fun j hj => h ?_)
    exact (hears_c (places_mem hj).2).2
  rw [this]; rfl

theorem back_all (l : List Ev) (r : List Sw) : bodies (bodies l r) (backL l 16) = l := by
  have h0 := bodies_sim l r l (SimL.refl l)
  obtain ⟨b1, _, b3⟩ := backs l (backL l 16) _ h0 (fun x hx => by
    simp only [backL, List.mem_flatMap, List.mem_range, backC, List.mem_map] at hx
    obtain ⟨c, _, k, hk, rfl⟩ := hx
    exact ⟨k, rfl, hk, rfl⟩)
  refine b1.eq (fun c => ?_)
  by_cases hc : 0 ≤ c ∧ c ≤ 15
  · refine ((b1.sim c).eq (fun n hn => ?_)).symm
    obtain ⟨k, rfl⟩ : ∃ k : Nat, c = (k : Int) := ⟨c.toNat, by omega⟩
    have := b3 ⟨(k : Int), (n : Int), ((frC l k).getD n default).b⟩ (by
      simp only [backL, List.mem_flatMap, List.mem_range, backC, List.mem_map]
      exact ⟨k, by omega, n, hn, rfl⟩)
    exact this.symm
  · rw [str_none _ _ hc, str_none _ _ hc]
end Go.Proofs

/- The law SwapKeeps, walked. -/
set_option linter.unusedSimpArgs false
set_option linter.unusedVariables false
set_option maxRecDepth 100000
namespace Go.Proofs
open Go.Sy Go.Lib

theorem bne_f {α : Type} [BEq α] [LawfulBEq α] {a b : α} (h : a = b) : (a != b) = false := by rw [h]; simp

theorem keep47_p (l : List Ev) (r : List Sw) (hl : l.length ≤ 9223372036854775807) (hb : ∀ e ∈ l, e.b.length ≤ 140737488351232) (hr : r.length ≤ 9223372036854775807) (hrb : ∀ e ∈ r, e.b.length ≤ 140737488351232) :
    FnP Try.prog 6 [SL 4 Ev.cells l, SL 3 Sw.cells r] (· = B true) := by
  refine FnP.intro Try.tabOK Try.wide_ Try.func6 rfl (by decide) rfl (fun X => ?_)
  repeat (first | refine sc rfl ?_ | refine so rfl ?_ | refine sb rfl ?_ | refine C_scope ?_)
  refine O_call (much47_p l r hl hb hr hrb) (by rfl) (by rfl) (by rfl) (by rfl) (fun rr hr2 => ?_)
  subst hr2
  repeat (first | refine sc rfl ?_ | refine so rfl ?_ | refine sb rfl ?_ | refine C_scope ?_)
  refine C_if rfl (fun h => ?_) (fun h => ?_)
  · repeat (first | refine sc rfl ?_ | refine so rfl ?_ | refine sb rfl ?_ | refine C_scope ?_)
    refine O_call awake47_p (by rfl) (by rfl) (by rfl) (by rfl) (fun rr hr2 => ?_)
    subst hr2
    repeat (first | refine sc rfl ?_ | refine so rfl ?_ | refine sb rfl ?_ | refine C_scope ?_)
    exact ⟨_, rfl, rfl, rfl⟩
  unfold much at h
  rw [decide_eq_false_iff_not] at h
  have hl2 : l.length ≤ 150 := by omega
  have ht2 : tot l ≤ 20000 := by omega
  have hr2 : r.length ≤ 30 := by omega
  repeat (first | refine sc rfl ?_ | refine so rfl ?_ | refine sb rfl ?_ | refine C_scope ?_)
  refine O_call (ours47_p r (by omega)) (by rfl) (by rfl) (by rfl) (by rfl) (fun rr hrr => ?_)
  subst hrr
  repeat (first | refine sc rfl ?_ | refine so rfl ?_ | refine sb rfl ?_ | refine C_scope ?_)
  refine O_call (Bodies_I l r (by omega) (by omega) (by omega)) (by rfl) (by rfl) (by rfl) (by rfl) (fun rr hrr => ?_)
  subst hrr
  have hsim := bodies_sim l r l (SimL.refl l)
  have hback := back_all l r
  have hml := shp_len hsim.sh
  have hmt := shp_tot hsim.sh
  generalize hm : bodies l r = m at *
  repeat (first | refine sc rfl ?_ | refine so rfl ?_ | refine sb rfl ?_ | refine C_scope ?_)
  refine C_false rfl (bne_f (by omega)) ?_
  repeat (first | refine sc rfl ?_ | refine so rfl ?_ | refine sb rfl ?_ | refine C_scope ?_)
  refine C_loop (fun k : Nat => ⟨[(0, SL 4 Ev.cells l), (5, SL 4 Ev.cells m), (6, I64 (k : Nat))], []⟩) (fun k => k ≤ l.length) (fun k => l.length - k) 0 (Nat.zero_le _)
    (Le.sub [] ⟨rfl, rfl, rfl, trivial⟩ rfl) ?_
  intro k hk
  repeat (first | refine sc rfl ?_ | refine so rfl ?_ | refine sb rfl ?_ | refine C_scope ?_)
  refine C_if rfl (fun h4 => ?_) (fun h4 => ?_) <;> simp only [decide_eq_true_eq, decide_eq_false_iff_not] at h4
  · have g := shp_get hsim.sh k
    simp only [shp1, Prod.mk.injEq] at g
    repeat (first | refine sc rfl ?_ | refine so rfl ?_ | refine sb rfl ?_ | refine C_scope ?_)
    refine C_drawD rfl (by kernel_rfl) ?_
    repeat (first | refine sd rfl ?_ | refine And.intro ⟨by omega, by omega⟩ ?_)
    rw [show ((m.getD (Int.toNat (k : Int)) default).k != (l.getD (Int.toNat (k : Int)) default).k) = false from bne_f g.1]
    repeat (first | refine sd rfl ?_ | refine And.intro ⟨by omega, by omega⟩ ?_)
    rw [show ((m.getD (Int.toNat (k : Int)) default).c != (l.getD (Int.toNat (k : Int)) default).c) = false from bne_f g.2.1]
    repeat (first | refine sd rfl ?_ | refine And.intro ⟨by omega, by omega⟩ ?_)
    rw [show ((m.getD (Int.toNat (k : Int)) default).u != (l.getD (Int.toNat (k : Int)) default).u) = false from bne_f g.2.2.1]
    repeat (first | refine sd rfl ?_ | refine And.intro ⟨by omega, by omega⟩ ?_)
    rw [show (((m.getD (Int.toNat (k : Int)) default).b.length : Int) != ((l.getD (Int.toNat (k : Int)) default).b.length : Int)) = false from bne_f (congrArg Int.ofNat g.2.2.2)]
    repeat (first | refine sd rfl ?_ | refine sc rfl ?_ | refine C_false rfl rfl ?_ | refine C_scope ?_)
    repeat (first | refine sc rfl ?_ | refine so rfl ?_ | refine sb rfl ?_ | refine C_scope ?_)
    rw [w64 (x := (k : Int) + 1) (by omega) (by omega)]
    exact ⟨k + 1, by omega, by omega, Le.sub [] ⟨rfl, rfl, rfl, trivial⟩ rfl⟩
  clear hk h4
  repeat (first | refine sc rfl ?_ | refine so rfl ?_ | refine sb rfl ?_ | refine C_scope ?_)
  refine C_le _ (Le.nilvec Sw.cells 7 199 66 3 rfl rfl rfl) ?_
  have hfl : ∀ c : Int, (frC l c).length ≤ 20000 := fun c => by
    have := framesL_len (strm l (places l c l.length))
    have := strm_tot l c
    unfold frC; omega
  have hbl : ∀ c : Nat, c ≤ 16 → (backL l c).length ≤ 20000 * c := fun c hc => by
    induction c with
    | zero => exact Nat.zero_le _
    | succ c ih =>
      rw [backL_succ, List.length_append]
      have := ih (by omega)
      have := hfl c
      simp only [backC, List.length_map, List.length_range]
      omega
  refine C_loop (fun c : Nat => ⟨[(0, SL 4 Ev.cells l), (5, SL 4 Ev.cells m), (7, .own 199), (8, I64 (c : Nat))], [VEC 199 66 3 Sw.cells (backL l c)]⟩) (fun c => c ≤ 16) (fun c => 16 - c) 0 (Nat.zero_le _)
    (Le.sub [199] ⟨rfl, rfl, rfl, rfl, trivial⟩ rfl) ?_
  intro c hc
  repeat (first | refine sc rfl ?_ | refine so rfl ?_ | refine sb rfl ?_ | refine C_scope ?_)
  refine C_if rfl (fun h4 => ?_) (fun h4 => ?_) <;> simp only [decide_eq_true_eq, decide_eq_false_iff_not] at h4
  · have hs := hsim.sim (c : Int)
    repeat (first | refine sc rfl ?_ | refine so rfl ?_ | refine sb rfl ?_ | refine C_scope ?_)
    refine O_call (Frames_I l (c : Nat) (by omega) (by have := strm_tot l (c : Nat); omega)) (by rfl) (by rfl) (by rfl) (by rfl) (fun rr hrr => ?_)
    subst hrr
    repeat (first | refine sc rfl ?_ | refine so rfl ?_ | refine sb rfl ?_ | refine C_scope ?_)
    refine O_call (Frames_I m (c : Nat) (by omega) (by have := strm_tot m (c : Nat); omega)) (by rfl) (by rfl) (by rfl) (by rfl) (fun rr hrr => ?_)
    subst hrr
    have hfc := hfl c
    have hbc := hbl c (by omega)
    have hn : (frC l c).length = (frC m c).length := hs.nfr
    have hhd : ∀ i, i < (frC l c).length → ((frC l c).getD i default).k = ((frC m c).getD i default).k ∧ ((frC l c).getD i default).f = ((frC m c).getD i default).f ∧ ((frC l c).getD i default).b.length = ((frC m c).getD i default).b.length := fun i hi => hs.hd i hi
    have hrest : ∀ i, i < (frC l c).length → askK ((frC l c).getD i default).k = false → ((frC l c).getD i default).b = ((frC m c).getD i default).b := fun i hi ha => hs.rest hi ha
    have hbs := backL_succ l c
    have hcs := backC_succ l c
    have hclen : ∀ i, (backC l c i).length = i := fun i => by simp [backC]
    have hc0 : backC l c 0 = [] := rfl
    generalize frC l c = a at *
    generalize frC m c = b at *
    generalize backC l c = bc at *
    repeat (first | refine sc rfl ?_ | refine so rfl ?_ | refine sb rfl ?_ | refine C_scope ?_)
    refine C_false rfl (bne_f (by omega)) ?_
    repeat (first | refine sc rfl ?_ | refine so rfl ?_ | refine sb rfl ?_ | refine C_scope ?_)
    refine C_loop (fun i : Nat => ⟨[(0, SL 4 Ev.cells l), (5, SL 4 Ev.cells m), (7, .own 199), (8, I64 (c : Nat)), (9, SL 3 Fr.cells a), (10, SL 3 Fr.cells b), (11, I64 (i : Nat))], [VEC 199 66 3 Sw.cells (backL l c ++ bc i)]⟩) (fun i => i ≤ a.length) (fun i => a.length - i) 0 (Nat.zero_le _)
      (Le.sub [199] ⟨rfl, rfl, rfl, rfl, rfl, rfl, rfl, trivial⟩ (by rw [hc0, List.append_nil]; rfl)) ?_
    intro i hi
    repeat (first | refine sc rfl ?_ | refine so rfl ?_ | refine sb rfl ?_ | refine C_scope ?_)
    refine C_if rfl (fun h5 => ?_) (fun h5 => ?_) <;> simp only [decide_eq_true_eq, decide_eq_false_iff_not] at h5
    · have hh := hhd i (by omega)
      have hr0 := hrest i (by omega)
      have hci := hcs i
      have hbl0 := hclen i
      repeat (first | refine sc rfl ?_ | refine so rfl ?_ | refine sb rfl ?_ | refine C_scope ?_)
      refine C_drawD rfl (by kernel_rfl) ?_
      repeat (first | refine sd rfl ?_ | refine And.intro ⟨by omega, by omega⟩ ?_)
      rw [show ((a.getD (Int.toNat (i : Int)) default).k != (b.getD (Int.toNat (i : Int)) default).k) = false from bne_f hh.1]
      repeat (first | refine sd rfl ?_ | refine And.intro ⟨by omega, by omega⟩ ?_)
      rw [show ((a.getD (Int.toNat (i : Int)) default).f != (b.getD (Int.toNat (i : Int)) default).f) = false from bne_f hh.2.1]
      repeat (first | refine sd rfl ?_ | refine And.intro ⟨by omega, by omega⟩ ?_)
      rw [show (((a.getD (Int.toNat (i : Int)) default).b.length : Int) != ((b.getD (Int.toNat (i : Int)) default).b.length : Int)) = false from bne_f (congrArg Int.ofNat hh.2.2)]
      repeat (first | refine sd rfl ?_ | refine sc rfl ?_ | refine C_false rfl rfl ?_ | refine C_scope ?_)
      repeat (first | refine sc rfl ?_ | refine so rfl ?_ | refine sb rfl ?_ | refine And.intro ⟨by omega, by omega⟩ ?_ | refine C_scope ?_)
      refine O_join ⟨[(0, SL 4 Ev.cells l), (5, SL 4 Ev.cells m), (7, .own 199), (8, I64 (c : Nat)), (9, SL 3 Fr.cells a), (10, SL 3 Fr.cells b), (11, I64 (i : Nat)), (12, B (askK (a.getD i default).k))], [VEC 199 66 3 Sw.cells (backL l c ++ bc i)]⟩ ?_ (fun s h => C_le _ h ?_)
      · have fin : ∀ y : Bool, y = askK (a.getD i default).k → some (B y) = some (B (askK (a.getD i default).k)) := fun y h => by rw [h]
        refine O_case 150 rfl (fun g1 => ?_) (fun g1 => ?_) <;> repeat (first | refine so rfl ?_ | refine And.intro ⟨by omega, by omega⟩ ?_)
        · refine O_case 158 rfl (fun g2 => ?_) (fun g2 => ?_) <;> repeat (first | refine so rfl ?_ | refine And.intro ⟨by omega, by omega⟩ ?_)
          · refine Le.sub [199] ⟨rfl, rfl, rfl, rfl, rfl, rfl, rfl, fin _ ?_, trivial⟩ rfl
            rw [Bool.eq_iff_iff]; unfold askK; simp only [decide_eq_true_eq, beq_iff_eq, decide_eq_false_iff_not, beq_eq_false_iff_ne, ge_iff_le, true_iff, false_iff, Bool.false_eq_true] at g1 g2 ⊢
            have e1 : (a.getD (Int.toNat (i : Int)) default).k = (a.getD i default).k := rfl
            omega
          · refine O_case 166 rfl (fun g3 => ?_) (fun g3 => ?_) <;> repeat (first | refine so rfl ?_ | refine And.intro ⟨by omega, by omega⟩ ?_)
            · refine Le.sub [199] ⟨rfl, rfl, rfl, rfl, rfl, rfl, rfl, fin _ ?_, trivial⟩ rfl
              rw [Bool.eq_iff_iff]; unfold askK; simp only [decide_eq_true_eq, beq_iff_eq, decide_eq_false_iff_not, beq_eq_false_iff_ne, ge_iff_le, true_iff, false_iff, Bool.false_eq_true] at g1 g2 g3 ⊢
              have e1 : (a.getD (Int.toNat (i : Int)) default).k = (a.getD i default).k := rfl
              omega
            · refine Le.sub [199] ⟨rfl, rfl, rfl, rfl, rfl, rfl, rfl, fin _ ?_, trivial⟩ rfl
              rw [Bool.eq_iff_iff]; unfold askK; simp only [decide_eq_true_eq, beq_iff_eq, decide_eq_false_iff_not, beq_eq_false_iff_ne, ge_iff_le, true_iff, false_iff, Bool.false_eq_true] at g1 g2 g3 ⊢
              have e1 : (a.getD (Int.toNat (i : Int)) default).k = (a.getD i default).k := rfl
              omega
        · refine O_case 166 rfl (fun g3 => ?_) (fun g3 => ?_) <;> repeat (first | refine so rfl ?_ | refine And.intro ⟨by omega, by omega⟩ ?_)
          · refine Le.sub [199] ⟨rfl, rfl, rfl, rfl, rfl, rfl, rfl, fin _ ?_, trivial⟩ rfl
            rw [Bool.eq_iff_iff]; unfold askK; simp only [decide_eq_true_eq, beq_iff_eq, decide_eq_false_iff_not, beq_eq_false_iff_ne, ge_iff_le, true_iff, false_iff, Bool.false_eq_true] at g1 g3 ⊢
            have e1 : (a.getD (Int.toNat (i : Int)) default).k = (a.getD i default).k := rfl
            omega
          · refine Le.sub [199] ⟨rfl, rfl, rfl, rfl, rfl, rfl, rfl, fin _ ?_, trivial⟩ rfl
            rw [Bool.eq_iff_iff]; unfold askK; simp only [decide_eq_true_eq, beq_iff_eq, decide_eq_false_iff_not, beq_eq_false_iff_ne, ge_iff_le, true_iff, false_iff, Bool.false_eq_true] at g1 g3 ⊢
            have e1 : (a.getD (Int.toNat (i : Int)) default).k = (a.getD i default).k := rfl
            omega
      refine C_seqJ ⟨[(0, SL 4 Ev.cells l), (5, SL 4 Ev.cells m), (7, .own 199), (8, I64 (c : Nat)), (9, SL 3 Fr.cells a), (10, SL 3 Fr.cells b), (11, I64 (i : Nat))], [VEC 199 66 3 Sw.cells (backL l c ++ bc i)]⟩ ?_ ?_
      · cases ha : askK (a.getD i default).k
        · repeat (first | refine sc rfl ?_ | refine so rfl ?_ | refine sb rfl ?_ | refine C_scope ?_)
          refine C_drawD rfl (by kernel_rfl) ?_
          repeat (first | refine sd rfl ?_ | refine And.intro ⟨by omega, by omega⟩ ?_)
          repeat (first | refine sc rfl ?_ | refine so rfl ?_ | refine sb rfl ?_ | refine C_scope ?_)
          refine C_false rfl (by show (!((a.getD (Int.toNat (i : Int)) default).b == (b.getD (Int.toNat (i : Int)) default).b)) = false; rw [show (a.getD (Int.toNat (i : Int)) default).b = (b.getD (Int.toNat (i : Int)) default).b from hr0 ha]; simp) ?_
          repeat (first | refine sc rfl ?_ | refine so rfl ?_ | refine sb rfl ?_ | refine C_scope ?_)
          exact Le.sub [199] ⟨rfl, rfl, rfl, rfl, rfl, rfl, rfl, trivial⟩ rfl
        · repeat (first | refine sc rfl ?_ | refine so rfl ?_ | refine sb rfl ?_ | refine C_scope ?_)
          refine C_drawD rfl (by kernel_rfl) ?_
          repeat (first | refine sd rfl ?_ | refine sc rfl ?_ | refine C_false rfl rfl ?_ | refine C_scope ?_)
          exact Le.sub [199] ⟨rfl, rfl, rfl, rfl, rfl, rfl, rfl, trivial⟩ rfl
      repeat (first | refine sc rfl ?_ | refine so rfl ?_ | refine sb rfl ?_ | refine And.intro ⟨by omega, by omega⟩ ?_ | refine C_scope ?_)
      refine O_push (by_ := 32) Sw.cells (backL l c ++ bc i) ⟨(c : Int), (i : Int), (a.getD i default).b⟩ [(0, SL 4 Ev.cells l), (5, SL 4 Ev.cells m), (8, I64 (c : Nat)), (9, SL 3 Fr.cells a), (10, SL 3 Fr.cells b), (11, I64 (i : Nat))] rfl rfl rfl rfl rfl rfl rfl rfl rfl rfl ⟨rfl, rfl, rfl, rfl, rfl, rfl, trivial⟩ rfl rfl (by rw [List.length_append, hbl0]; omega) (by rw [List.length_append, hbl0]; simp only [maxLen]; omega) ?_
      repeat (first | refine sc rfl ?_ | refine so rfl ?_ | refine sb rfl ?_ | refine C_scope ?_)
      rw [w64 (x := (i : Int) + 1) (by omega) (by omega)]
      exact ⟨i + 1, by omega, by omega, Le.sub [199] ⟨rfl, rfl, rfl, rfl, rfl, rfl, rfl, trivial⟩ (by rw [hci, ← List.append_assoc]; rfl)⟩
    · obtain rfl : i = a.length := by omega
      repeat (first | refine sc rfl ?_ | refine so rfl ?_ | refine sb rfl ?_ | refine C_scope ?_)
      rw [w64 (x := (c : Int) + 1) (by omega) (by omega)]
      exact ⟨c + 1, by omega, by omega, Le.sub [199] ⟨rfl, rfl, rfl, rfl, trivial⟩ (by rw [hbs]; rfl)⟩
  · obtain rfl : c = 16 := by omega
    refine C_le _ (Le.freezeL 7 rfl rfl) ?_
    have hb16 := hbl 16 (by omega)
    generalize backL l 16 = bk at *
    repeat (first | refine sc rfl ?_ | refine so rfl ?_ | refine sb rfl ?_ | refine C_scope ?_)
    refine O_case 203 rfl (fun g1 => ?_) (fun g1 => ?_) <;> simp only [decide_eq_true_eq, decide_eq_false_iff_not] at g1 <;> repeat (first | refine sc rfl ?_ | refine so rfl ?_ | refine sb rfl ?_ | refine C_scope ?_)
    · refine O_call awake47_p (by rfl) (by rfl) (by rfl) (by rfl) (fun rr hrr => ?_)
      subst hrr
      repeat (first | refine sc rfl ?_ | refine so rfl ?_ | refine sb rfl ?_ | refine C_scope ?_)
      exact ⟨_, rfl, rfl, rfl⟩
    · refine O_true 210 rfl (decide_eq_true (by omega)) ?_
      repeat (first | refine sc rfl ?_ | refine so rfl ?_ | refine sb rfl ?_ | refine C_scope ?_)
      refine O_call (Bodies_I m bk (by omega) (by omega) (by omega)) (by rfl) (by rfl) (by rfl) (by rfl) (fun rr hrr => ?_)
      rw [hback] at hrr
      subst hrr
      repeat (first | refine sc rfl ?_ | refine so rfl ?_ | refine sb rfl ?_ | refine C_scope ?_)
      refine O_call (Same43_p l (by omega)) (by rfl) (by rfl) (by rfl) (by rfl) (fun rr hrr => ?_)
      subst hrr
      repeat (first | refine sc rfl ?_ | refine so rfl ?_ | refine sb rfl ?_ | refine C_scope ?_)
      refine O_call awake47_p (by rfl) (by rfl) (by rfl) (by rfl) (fun rr hrr => ?_)
      subst hrr
      repeat (first | refine sc rfl ?_ | refine so rfl ?_ | refine sb rfl ?_ | refine C_scope ?_)
      exact ⟨_, rfl, rfl, rfl⟩
end Go.Proofs
