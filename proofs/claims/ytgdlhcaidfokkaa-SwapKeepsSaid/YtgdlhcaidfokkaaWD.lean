/- The document's streams and frames, walked. -/
import Derived.Test.YtgdlhcaidfokkaaWC
import Derived.Test.YtgdlhcaidfokkaaSA
import Derived.Laws.StructEq
set_option linter.unusedSimpArgs false
set_option linter.unusedVariables false
set_option maxRecDepth 100000
namespace Go.Proofs
open Go.Sy Go.Lib

theorem hears_p (l : List Ev) (i : Nat) (c : Int) (hi : i < l.length) (hl : l.length ≤ 1000000) : FnP Try.prog 103 [SL 4 Ev.cells l, I64 (i : Nat), I64 c] (· = B (hears l i c)) := by
  refine FnP.intro Try.tabOK Try.wide_ Try.func103 rfl (by decide) rfl (fun X => ?_)
  have fin : ∀ y : Bool, y = hears l i c → B y = B (hears l i c) := fun y h => by rw [h]
  repeat (first | refine sc rfl ?_ | refine so rfl ?_ | refine sb rfl ?_ | refine ⟨by omega, ?_⟩ | refine C_scope ?_)
  have hopd : ∀ y : Bool, y = !decide ((l.getD i default).k = 2 ∧ (l.getD i default).c = c ∧ 0 ≤ c ∧ c ≤ 15) → some (B y) = some (B (!decide ((l.getD i default).k = 2 ∧ (l.getD i default).c = c ∧ 0 ≤ c ∧ c ≤ 15))) := fun y h => by rw [h]
  refine O_join ⟨[(0, SL 4 Ev.cells l), (1, I64 (i : Nat)), (2, I64 c), (31, B (!decide ((l.getD i default).k = 2 ∧ (l.getD i default).c = c ∧ 0 ≤ c ∧ c ≤ 15)))], []⟩ ?_ (fun s h => C_le _ h ?_)
  · refine O_case 15 rfl (fun h1 => ?_) (fun h1 => ?_) <;> simp only [bne_iff_ne, bne_eq_false_iff_eq, ne_eq] at h1 <;> repeat (first | refine sc rfl ?_ | refine so rfl ?_ | refine sb rfl ?_ | refine ⟨by omega, ?_⟩)
    · replace h1 : ¬ (l.getD i default).k = 2 := h1
      refine Le.sub [] ⟨rfl, rfl, rfl, hopd _ ?_, trivial⟩ rfl
      rw [decide_eq_false (by omega)]; rfl
    replace h1 : (l.getD i default).k = 2 := h1
    refine O_case 24 rfl (fun h2 => ?_) (fun h2 => ?_) <;> simp only [bne_iff_ne, bne_eq_false_iff_eq, ne_eq] at h2 <;> repeat (first | refine sc rfl ?_ | refine so rfl ?_ | refine sb rfl ?_ | refine ⟨by omega, ?_⟩)
    · replace h2 : ¬ (l.getD i default).c = c := h2
      refine Le.sub [] ⟨rfl, rfl, rfl, hopd _ ?_, trivial⟩ rfl
      rw [decide_eq_false (by omega)]; rfl
    replace h2 : (l.getD i default).c = c := h2
    refine O_case 28 rfl (fun h3 => ?_) (fun h3 => ?_) <;> simp only [decide_eq_true_eq, decide_eq_false_iff_not] at h3 <;> repeat (first | refine sc rfl ?_ | refine so rfl ?_ | refine sb rfl ?_ | refine ⟨by omega, ?_⟩)
    · refine Le.sub [] ⟨rfl, rfl, rfl, hopd _ ?_, trivial⟩ rfl
      rw [decide_eq_false (by omega)]; rfl
    · refine Le.sub [] ⟨rfl, rfl, rfl, hopd _ ?_, trivial⟩ rfl
      rw [Bool.eq_iff_iff]
      simp only [decide_eq_true_eq, Bool.not_eq_true', decide_eq_false_iff_not]
      omega
  refine C_if rfl (fun h1 => ?_) (fun h1 => ?_) <;> simp only [Bool.not_eq_true', Bool.not_eq_false', decide_eq_true_eq, decide_eq_false_iff_not] at h1
  · repeat (first | refine sc rfl ?_ | refine so rfl ?_ | refine sb rfl ?_ | refine C_scope ?_)
    exact ⟨_, rfl, rfl, fin _ (by unfold hears; symm; rw [decide_eq_false_iff_not]; omega)⟩
  repeat (first | refine sc rfl ?_ | refine so rfl ?_ | refine sb rfl ?_ | refine C_scope ?_)
  refine C_loop (fun k : Nat => ⟨[(0, SL 4 Ev.cells l), (1, I64 (i : Nat)), (2, I64 c), (7, I64 (opn l k : Nat)), (8, I64 (k : Nat))], []⟩) (fun k => k ≤ i) (fun k => i - k) 0 (Nat.zero_le _)
    (Le.sub [] ⟨rfl, rfl, rfl, rfl, rfl, trivial⟩ rfl) ?_
  intro k hk
  have ho := opn_le l k
  repeat (first | refine sc rfl ?_ | refine so rfl ?_ | refine sb rfl ?_ | refine C_scope ?_)
  refine C_if rfl (fun h2 => ?_) (fun h2 => ?_) <;> simp only [decide_eq_true_eq, decide_eq_false_iff_not] at h2
  · repeat (first | refine sc rfl ?_ | refine so rfl ?_ | refine sb rfl ?_ | refine ⟨by omega, ?_⟩ | refine C_scope ?_)
    have hop := opn_succ l k (by omega)
    refine C_if rfl (fun h3 => ?_) (fun h3 => ?_) <;> simp only [beq_iff_eq, beq_eq_false_iff_ne, ne_eq] at h3
    · replace h3 : (l.getD k default).k = 1 := h3
      rw [if_pos h3] at hop
      repeat (first | refine sc rfl ?_ | refine so rfl ?_ | refine sb rfl ?_ | refine C_scope ?_)
      rw [w64 (x := (opn l k : Int) + 1) (by omega) (by omega), w64 (x := (k : Int) + 1) (by omega) (by omega)]
      exact ⟨k + 1, by omega, by omega, Le.sub [] ⟨rfl, rfl, rfl, by rw [hop]; rfl, rfl, trivial⟩ rfl⟩
    · replace h3 : ¬ (l.getD k default).k = 1 := h3
      rw [if_neg h3] at hop
      repeat (first | refine sc rfl ?_ | refine so rfl ?_ | refine sb rfl ?_ | refine C_scope ?_)
      rw [w64 (x := (k : Int) + 1) (by omega) (by omega)]
      exact ⟨k + 1, by omega, by omega, Le.sub [] ⟨rfl, rfl, rfl, by rw [hop]; rfl, rfl, trivial⟩ rfl⟩
  · obtain rfl : k = i := by omega
    repeat (first | refine sc rfl ?_ | refine so rfl ?_ | refine sb rfl ?_ | refine C_scope ?_)
    exact ⟨_, rfl, rfl, fin _ (by unfold hears; rw [Bool.eq_iff_iff]; simp only [decide_eq_true_eq]; omega)⟩

theorem Stream_p (l : List Ev) (c : Int) (hl : l.length ≤ 1000000) (ht : tot l ≤ 100000000) : FnP Try.prog 71 [SL 4 Ev.cells l, I64 c] (· = .s (strm l (places l c l.length))) := by
  refine FnP.intro Try.tabOK Try.wide_ Try.func71 rfl (by decide) rfl (fun X => ?_)
  repeat (first | refine sc rfl ?_ | refine so rfl ?_ | refine sb rfl ?_ | refine C_scope ?_)
  refine C_loop (fun k : Nat => ⟨[(0, SL 4 Ev.cells l), (1, I64 c), (5, .s (strm l (places l c k))), (6, I64 (k : Nat))], []⟩) (fun k => k ≤ l.length) (fun k => l.length - k) 0 (Nat.zero_le _)
    (Le.sub [] ⟨rfl, rfl, rfl, rfl, trivial⟩ rfl) ?_
  intro k hk
  repeat (first | refine sc rfl ?_ | refine so rfl ?_ | refine sb rfl ?_ | refine C_scope ?_)
  refine C_if rfl (fun h2 => ?_) (fun h2 => ?_) <;> simp only [decide_eq_true_eq, decide_eq_false_iff_not] at h2
  · repeat (first | refine sc rfl ?_ | refine so rfl ?_ | refine sb rfl ?_ | refine ⟨by omega, ?_⟩ | refine C_scope ?_)
    refine O_call (hears_p l k c (by omega) hl) (by rfl) (by rfl) (by rfl) (by rfl) (fun r hr => ?_)
    subst hr
    repeat (first | refine sc rfl ?_ | refine so rfl ?_ | refine sb rfl ?_ | refine C_scope ?_)
    have hp := places_succ l c k
    refine C_if rfl (fun h3 => ?_) (fun h3 => ?_)
    · rw [if_pos h3] at hp
      have hle := strm_le l c (k + 1) (by omega)
      have htk : ((l.take (k + 1)).map (fun e => e.b.length)).sum ≤ tot l := by
        unfold tot
        conv => rhs; rw [← List.take_append_drop (k + 1) l]
        rw [List.map_append, List.sum_append]; omega
      rw [hp, strm_snoc, List.length_append] at hle
      repeat (first | refine sc rfl ?_ | refine so rfl ?_ | refine sb rfl ?_ | refine ⟨by omega, ?_⟩ | refine C_scope ?_)
      refine And.intro ?_ ?_
      · show (strm l (places l c k)).length + (l.getD k default).b.length ≤ 9223372036854775807
        omega
      repeat (first | refine sc rfl ?_ | refine so rfl ?_ | refine sb rfl ?_ | refine C_scope ?_)
      rw [w64 (x := (k : Int) + 1) (by omega) (by omega)]
      exact ⟨k + 1, by omega, by omega, Le.sub [] ⟨rfl, rfl, by rw [hp, strm_snoc]; rfl, rfl, trivial⟩ rfl⟩
    · rw [h3, if_neg (by decide), List.append_nil] at hp
      repeat (first | refine sc rfl ?_ | refine so rfl ?_ | refine sb rfl ?_ | refine C_scope ?_)
      rw [w64 (x := (k : Int) + 1) (by omega) (by omega)]
      exact ⟨k + 1, by omega, by omega, Le.sub [] ⟨rfl, rfl, by rw [hp]; rfl, rfl, trivial⟩ rfl⟩
  · obtain rfl : k = l.length := by omega
    repeat (first | refine sc rfl ?_ | refine so rfl ?_ | refine sb rfl ?_ | refine C_scope ?_)
    exact ⟨_, rfl, rfl, rfl⟩

theorem All_p (b : List UInt8) (hb : b.length ≤ 1000000000) : FnP Try.prog 70 [.s b] (fun r => ∃ s e, r = .tup [SL 3 Fr.cells (framesL b), .s s, I64 e]) := by
  refine FnP.intro Try.tabOK Try.wide_ Try.func70 rfl (by decide) rfl (fun X => ?_)
  have hlen := framesL_len b
  repeat (first | refine sc rfl ?_ | refine so rfl ?_ | refine sb rfl ?_ | refine C_scope ?_)
  refine C_loop (fun i : Nat => ⟨[(0, .s (b.drop (offs (framesL b) i))), (5, .own 26)], [VEC 26 64 3 Fr.cells ((framesL b).take i)]⟩) (fun i => i ≤ (framesL b).length) (fun i => (framesL b).length - i) 0 (Nat.zero_le _)
    ((Le.nilvec (α := Fr) Fr.cells 5 26 64 3 rfl rfl rfl).trans (Le.sub [26] ⟨rfl, rfl, trivial⟩ rfl)) ?_
  intro i hi
  obtain ⟨_, hofs⟩ := fr_at i b hi
  repeat (first | refine sc rfl ?_ | refine so rfl ?_ | refine sb rfl ?_ | refine C_scope ?_)
  refine O_call (refTake05_p (b.drop (offs (framesL b) i)) (by simp; omega)) (by rfl) (by rfl) (by rfl) (by rfl) (fun r hr => ?_)
  obtain ⟨m, rfl⟩ := hr
  by_cases hlt : i < (framesL b).length
  · obtain ⟨h1, h2⟩ := fr_here hlt
    have h3 := fr_fit hlt
    have h4 := frOf_len h1
    rw [h2] at h4
    rw [if_pos h1]
    rw [show AV.tup [.agg [I64 (by_ (b.drop (offs (framesL b) i)) 0 : Nat), I64 (by_ (b.drop (offs (framesL b) i)) 1 : Nat), .s (((b.drop (offs (framesL b) i)).drop 4).take (lenB (b.drop (offs (framesL b) i))))], I64 (lenB (b.drop (offs (framesL b) i)) : Nat), I64 0]
      = .tup [.agg (Fr.cells ((framesL b).getD i default)), I64 (((framesL b).getD i default).b.length : Nat), I64 0] by rw [← h2]; rw [h2, h4, ← h2]; rfl]
    repeat (first | refine sc rfl ?_ | refine so rfl ?_ | refine sb rfl ?_ | refine C_scope ?_)
    refine C_false rfl (by decide) ?_
    repeat (first | refine sc rfl ?_ | refine so rfl ?_ | refine sb rfl ?_ | refine C_scope ?_)
    refine C_false rfl (by decide) ?_
    repeat (first | refine sc rfl ?_ | refine so rfl ?_ | refine sb rfl ?_ | refine C_scope ?_)
    refine O_push (by_ := 32) Fr.cells ((framesL b).take i) ((framesL b).getD i default) [(0, .s (b.drop (offs (framesL b) i))), (7, I64 (((framesL b).getD i default).b.length : Nat))] rfl rfl rfl rfl rfl rfl rfl rfl rfl rfl ⟨rfl, rfl, trivial⟩ rfl rfl (by simp; omega) (by simp [maxLen]; omega) ?_
    repeat (first | refine sc rfl ?_ | refine so rfl ?_ | refine sb rfl ?_ | refine C_scope ?_)
    rw [w64 (by omega) (by omega)]
    refine And.intro ?_ ?_
    · rw [List.length_drop]; omega
    repeat (first | refine sc rfl ?_ | refine so rfl ?_ | refine sb rfl ?_ | refine C_scope ?_)
    refine ⟨i + 1, by omega, by omega, Le.sub [26] ⟨?_, rfl, trivial⟩ (by rw [take_succF _ _ hlt]; rfl)⟩
    rw [offs_succ _ _ hlt, ← List.drop_drop]
    rfl
  · obtain rfl : i = (framesL b).length := by omega
    have hE := fr_end (b := b)
    rw [if_neg hE, List.take_length]
    generalize hee : frE (b.drop (offs (framesL b) (framesL b).length)) = ee at *
    repeat (first | refine sc rfl ?_ | refine so rfl ?_ | refine sb rfl ?_ | refine C_scope ?_)
    refine C_if rfl (fun h5 => ?_) (fun h5 => ?_)
    · refine C_le _ (Le.freezeL 5 rfl rfl) ?_
      repeat (first | refine sc rfl ?_ | refine so rfl ?_ | refine sb rfl ?_ | refine C_scope ?_)
      exact ⟨_, rfl, rfl, _, _, rfl⟩
    · repeat (first | refine sc rfl ?_ | refine so rfl ?_ | refine sb rfl ?_ | refine C_scope ?_)
      refine C_true rfl (by simpa using hE) ?_
      refine C_le _ (Le.freezeL 5 rfl rfl) ?_
      repeat (first | refine sc rfl ?_ | refine so rfl ?_ | refine sb rfl ?_ | refine C_scope ?_)
      exact ⟨_, rfl, rfl, _, _, rfl⟩

theorem rFrames_p (l : List Ev) (c : Int) (hl : l.length ≤ 1000000) (ht : tot l ≤ 100000000) : FnP Try.prog 27 [SL 4 Ev.cells l, I64 c] (· = SL 3 Fr.cells (frC l c)) := by
  refine FnP.intro Try.tabOK Try.wide_ Try.func27 rfl (by decide) rfl (fun X => ?_)
  repeat (first | refine sc rfl ?_ | refine so rfl ?_ | refine sb rfl ?_ | refine C_scope ?_)
  refine O_call (Stream_p l c hl ht) (by rfl) (by rfl) (by rfl) (by rfl) (fun r hr => ?_)
  subst hr
  repeat (first | refine sc rfl ?_ | refine so rfl ?_ | refine sb rfl ?_ | refine C_scope ?_)
  refine O_call (All_p (strm l (places l c l.length)) (by have := strm_tot l c; omega)) (by rfl) (by rfl) (by rfl) (by rfl) (fun r hr => ?_)
  obtain ⟨s, e, rfl⟩ := hr
  repeat (first | refine sc rfl ?_ | refine so rfl ?_ | refine sb rfl ?_ | refine C_scope ?_)
  exact ⟨_, rfl, rfl, rfl⟩
end Go.Proofs

/- The document's swap, in plain words: byte by byte. -/
set_option linter.unusedSimpArgs false
set_option linter.unusedVariables false
set_option maxRecDepth 100000
namespace Go.Proofs
open Go.Sy Go.Lib

theorem layL_snoc : ∀ (ps : List Nat) (i : Nat) (l : List Ev) (b : List UInt8), (∀ j ∈ ps, j < l.length) → (strm l ps).length ≤ b.length →
    layL (ps ++ [i]) l b = setB (layL ps l b) i ((b.drop (strm l ps).length).take ((layL ps l b).getD i default).b.length)
  | [], i, l, b, _, _ => by simp [layL, strm]
  | j :: ps, i, l, b, hi, hb => by
    have h0 := hi j (List.mem_cons_self ..)
    have h1 : (strm l (j :: ps)).length = (l.getD j default).b.length + (strm l ps).length := by simp [strm]
    rw [h1] at hb
    have hs := setB_shp (l := l) (i := j) (b := b.take (l.getD j default).b.length) h0 (by rw [List.length_take]; omega)
    rw [List.cons_append, layL, layL_snoc ps i _ _ (fun k hk => by rw [setB_len]; exact hi k (List.mem_cons_of_mem _ hk)) (by rw [strm_shp hs, List.length_drop]; omega), strm_shp hs, List.drop_drop, h1, layL]

theorem places_split (l : List Ev) (c : Int) (i : Nat) : ∀ m, ∃ ext, places l c (i + m) = places l c i ++ ext
  | 0 => ⟨[], by simp⟩
  | m + 1 => by
    obtain ⟨ext, h⟩ := places_split l c i m
    refine ⟨ext ++ (if hears l (i + m) c = true then [i + m] else []), ?_⟩
    rw [← Nat.add_assoc, places_succ, h, List.append_assoc]

/-- A piece of a stream. -/
theorem piece (l : List Ev) (c : Int) (i : Nat) (hi : i < l.length) (hh : hears l i c = true) :
    (strm l (places l c i)).length + (l.getD i default).b.length ≤ (strm l (places l c l.length)).length ∧ (l.getD i default).b = ((strm l (places l c l.length)).drop (strm l (places l c i)).length).take (l.getD i default).b.length := by
  obtain ⟨ext, h⟩ := places_split l c (i + 1) (l.length - (i + 1))
  rw [show i + 1 + (l.length - (i + 1)) = l.length by omega, places_succ, if_pos hh] at h
  have h2 : strm l (places l c l.length) = strm l (places l c i) ++ ((l.getD i default).b ++ strm l ext) := by
    rw [h, List.append_assoc]; simp [strm]
  rw [h2]
  refine ⟨by simp, ?_⟩
  rw [List.drop_left, List.take_left]

def patch (b : List UInt8) (at_ fr : Nat) (y : List UInt8) : List UInt8 :=
  (List.range b.length).map (fun k => if fr ≤ at_ + k ∧ at_ + k < fr + y.length then y.getD (at_ + k - fr) 0 else b.getD k 0)
theorem patch_len (b : List UInt8) (at_ fr : Nat) (y : List UInt8) : (patch b at_ fr y).length = b.length := by simp [patch]
theorem patch_get (b : List UInt8) (at_ fr : Nat) (y : List UInt8) (k : Nat) (hk : k < b.length) : (patch b at_ fr y).getD k 0 = if fr ≤ at_ + k ∧ at_ + k < fr + y.length then y.getD (at_ + k - fr) 0 else b.getD k 0 := by
  simp [patch, hk]

theorem swapB_get (s : List UInt8) (fr : Nat) (y : List UInt8) (q : Nat) (h : fr + y.length ≤ s.length) (hq : q < s.length) :
    (swapB s fr y).getD q 0 = if fr ≤ q ∧ q < fr + y.length then y.getD (q - fr) 0 else s.getD q 0 := by
  unfold swapB
  have hl : (s.take fr).length = fr := by rw [List.length_take]; omega
  rw [List.append_assoc]
  by_cases h1 : q < fr
  · rw [if_neg (by omega)]
    simp only [List.getD]
    rw [List.getElem?_append_left (by omega), List.getElem?_take, if_pos h1]
  · simp only [List.getD]
    rw [List.getElem?_append_right (by omega), hl]
    by_cases h2 : q < fr + y.length
    · rw [if_pos (by omega), List.getElem?_append_left (by omega)]
    · rw [if_neg (by omega), List.getElem?_append_right (by omega), List.getElem?_drop]
      congr 2
      omega

theorem patch_eq (s : List UInt8) (at_ n fr : Nat) (y : List UInt8) (ha : at_ + n ≤ s.length) (hf : fr + y.length ≤ s.length) :
    patch ((s.drop at_).take n) at_ fr y = ((swapB s fr y).drop at_).take n := by
  have hsl := swapB_len s fr y hf
  apply List.ext_getElem?
  intro k
  by_cases hk : k < n
  · have h1 : k < ((s.drop at_).take n).length := by rw [List.length_take, List.length_drop]; omega
    have e1 : (patch ((s.drop at_).take n) at_ fr y)[k]? = some ((patch ((s.drop at_).take n) at_ fr y).getD k 0) := by
      rw [List.getD_eq_getElem?_getD, List.getElem?_eq_getElem (by rw [patch_len]; exact h1)]; rfl
    have e2 : (((swapB s fr y).drop at_).take n)[k]? = some ((swapB s fr y).getD (at_ + k) 0) := by
      rw [List.getElem?_take, if_pos hk, List.getElem?_drop, List.getD_eq_getElem?_getD, List.getElem?_eq_getElem (by omega)]; rfl
    rw [e1, e2, patch_get _ _ _ _ _ h1, swapB_get s fr y _ hf (by omega)]
    congr 2
    simp only [List.getD]
    rw [List.getElem?_take, if_pos hk, List.getElem?_drop]
  · rw [List.getElem?_eq_none (by rw [patch_len, List.length_take, List.length_drop]; omega), List.getElem?_eq_none (by rw [List.length_take, List.length_drop]; omega)]

def inn (b p : List UInt8) (k : Nat) : List UInt8 := p.take k ++ b.drop k
theorem inn_len (b p : List UInt8) (k : Nat) (h : p.length = b.length) (hk : k ≤ b.length) : (inn b p k).length = b.length := by
  simp [inn]; omega
theorem inn_cut (b p : List UInt8) (k : Nat) (h : p.length = b.length) (hk : k < b.length) : inn b p k = p.take k ++ b.getD k 0 :: b.drop (k + 1) := by
  unfold inn
  rw [List.drop_eq_getElem_cons hk]
  simp [List.getD, List.getElem?_eq_getElem hk]
theorem inn_next (b p : List UInt8) (k : Nat) (h : p.length = b.length) (hk : k < b.length) : inn b p (k + 1) = p.take k ++ p.getD k 0 :: b.drop (k + 1) := by
  unfold inn
  have hk2 : k < p.length := by omega
  have : p.take (k + 1) = p.take k ++ [p.getD k 0] := by
    rw [List.take_add_one]
    simp [List.getD, List.getElem?_eq_getElem hk2]
  rw [this, List.append_assoc]
  rfl
theorem inn_set (b p : List UInt8) (k : Nat) (v : UInt8) (h : p.length = b.length) (hk : k < b.length) (hv : p.getD k 0 = v) : (inn b p k).set k v = inn b p (k + 1) := by
  have h1 : (p.take k).length = k := by rw [List.length_take]; omega
  rw [inn_cut b p k h hk, inn_next b p k h hk, hv, List.set_append_right _ _ (by omega), h1, Nat.sub_self]
  rfl
theorem inn_same (b p : List UInt8) (k : Nat) (h : p.length = b.length) (hk : k < b.length) (hv : p.getD k 0 = b.getD k 0) : inn b p k = inn b p (k + 1) := by
  rw [inn_cut b p k h hk, inn_next b p k h hk, hv]
theorem inn_end (b p : List UInt8) (h : p.length = b.length) : inn b p b.length = p := by
  unfold inn
  rw [← h, List.take_length, h, List.drop_length, List.append_nil]
end Go.Proofs

/- The document's swap, walked. -/
set_option linter.unusedSimpArgs false
set_option linter.unusedVariables false
set_option maxRecDepth 100000
namespace Go.Proofs
open Go.Sy Go.Lib

theorem rdo_p (l : List Ev) (x : Sw) (hl : l.length ≤ 1000000) (ht : tot l ≤ 100000000) : FnP Try.prog 74 [SL 4 Ev.cells l, .agg (Sw.cells x)] (· = SL 4 Ev.cells (doL l x)) := by
  refine FnP.intro Try.tabOK Try.wide_ Try.func74 rfl (by decide) rfl (fun X => ?_)
  repeat (first | refine sc rfl ?_ | refine so rfl ?_ | refine sb rfl ?_ | refine C_scope ?_)
  refine O_call (rFrames_p l x.c hl ht) (by rfl) (by rfl) (by rfl) (by rfl) (fun r hr => ?_)
  subst hr
  have hfs : (frC l x.c).length ≤ 100000000 := by
    have := framesL_len (strm l (places l x.c l.length))
    have := strm_tot l x.c
    unfold frC; omega
  have fin : hitL (frC l x.c) x = false → SL 4 Ev.cells l = SL 4 Ev.cells (doL l x) := fun h => by
    unfold doL; rw [h, if_neg (by decide)]
  generalize hgs : frC l x.c = fs at *
  repeat (first | refine sc rfl ?_ | refine so rfl ?_ | refine sb rfl ?_ | refine C_scope ?_)
  have hn0 : ∀ P' : Prop, [Decidable P'] → (P' → False) → decide P' = false := fun P' _ h => decide_eq_false h
  by_cases h0 : x.n < 0
  · refine C_drawD rfl (by kernel_rfl) ?_
    repeat (first | refine sd rfl ?_)
    rw [decide_eq_true h0]
    repeat (first | refine sd rfl ?_)
    refine C_true rfl rfl ?_
    repeat (first | refine sc rfl ?_ | refine so rfl ?_ | refine sb rfl ?_ | refine C_scope ?_)
    exact ⟨_, rfl, rfl, fin (by unfold hitL; rw [decide_eq_false (by omega)]; rfl)⟩
  by_cases h1 : (fs.length : Int) ≤ x.n
  · refine C_drawD rfl (by kernel_rfl) ?_
    repeat (first | refine sd rfl ?_)
    rw [decide_eq_false h0]
    repeat (first | refine sd rfl ?_)
    rw [decide_eq_true h1]
    repeat (first | refine sd rfl ?_)
    refine C_true rfl rfl ?_
    repeat (first | refine sc rfl ?_ | refine so rfl ?_ | refine sb rfl ?_ | refine C_scope ?_)
    exact ⟨_, rfl, rfl, fin (by unfold hitL; rw [decide_eq_false (by omega)]; rfl)⟩
  have hin : 0 ≤ x.n ∧ x.n < (fs.length : Int) := by omega
  by_cases h2 : askK (fs.getD x.n.toNat default).k = true
  · by_cases h3 : (fs.getD x.n.toNat default).b.length = x.b.length
    · refine C_drawD rfl (by kernel_rfl) ?_
      repeat (first | refine sd rfl ?_)
      rw [decide_eq_false h0]
      repeat (first | refine sd rfl ?_)
      rw [decide_eq_false h1]
      repeat (first | refine sd rfl ?_ | refine And.intro hin ?_)
      refine D_call (refAsks_p (fs.getD x.n.toNat default).k) rfl rfl rfl rfl ?_
      rw [h2]
      repeat (first | refine sd rfl ?_ | refine And.intro hin ?_)
      refine C_false rfl (by rw [bne_eq_false_iff_eq]; exact congrArg Int.ofNat h3) ?_
      have hhit : hitL fs x = true := by
        unfold hitL
        rw [decide_eq_true hin, h2, decide_eq_true h3]; rfl
      have hdoL : doL l x = layL (places l x.c l.length) l (swapB (strm l (places l x.c l.length)) (offs fs x.n.toNat + 4) x.b) := by
        unfold doL; rw [hgs, hhit, if_pos rfl]
      have hfit : offs fs x.n.toNat + 4 + x.b.length ≤ (strm l (places l x.c l.length)).length := by
        rw [← hgs] at hhit ⊢
        exact (hitL_fit hhit).2
      have hst := strm_tot l x.c
      have hofs : ∀ k, k ≤ x.n.toNat → offs fs k ≤ offs fs x.n.toNat := fun k hk => by
        unfold offs
        rw [show fs.take x.n.toNat = fs.take k ++ (fs.drop k).take (x.n.toNat - k) by rw [← List.take_add]; congr 1; omega, List.map_append, List.sum_append]
        omega
      rw [hdoL]
      generalize hss : strm l (places l x.c l.length) = ss at *
      obtain ⟨n, hn⟩ : ∃ n : Nat, n = x.n.toNat := ⟨_, rfl⟩
      have hnx : x.n = (n : Int) := by omega
      rw [← hn] at hofs hfit h3 ⊢
      have hnl : n < fs.length := by omega
      repeat (first | refine sc rfl ?_ | refine so rfl ?_ | refine sb rfl ?_ | refine C_scope ?_)
      refine C_loop (fun k : Nat => ⟨[(0, SL 4 Ev.cells l), (3, .bp 3 0), (5, SL 3 Fr.cells fs), (6, I64 ((4 + offs fs k : Nat) : Int)), (7, I64 (k : Nat))], [.box 3 115 (Sw.cells x)]⟩) (fun k => k ≤ n) (fun k => n - k) 0 (Nat.zero_le _)
        (Le.sub [3] ⟨rfl, rfl, rfl, rfl, rfl, trivial⟩ rfl) ?_
      intro k hk
      have hok := hofs k hk
      repeat (first | refine sc rfl ?_ | refine so rfl ?_ | refine sb rfl ?_ | refine C_scope ?_)
      refine C_if rfl (fun h4 => ?_) (fun h4 => ?_) <;> simp only [decide_eq_true_eq, decide_eq_false_iff_not] at h4
      · repeat (first | refine sc rfl ?_ | refine so rfl ?_ | refine sb rfl ?_ | refine And.intro (by omega) ?_ | refine C_scope ?_)
        have hos := offs_succ fs k (by omega)
        have hok1 := hofs (k + 1) (by omega)
        have e1 : (fs.getD (Int.toNat (k : Int)) default).b.length = (fs.getD k default).b.length := rfl
        rw [w64 (x := 4 + ((fs.getD (Int.toNat (k : Int)) default).b.length : Int)) (by omega) (by omega), w64 (x := ((4 + offs fs k : Nat) : Int) + (4 + ((fs.getD (Int.toNat (k : Int)) default).b.length : Int))) (by omega) (by omega), w64 (x := (k : Int) + 1) (by omega) (by omega)]
        refine ⟨k + 1, by omega, by omega, Le.sub [3] ⟨rfl, rfl, rfl, ?_, rfl, trivial⟩ rfl⟩
        rw [hos]
        show some (I64 (((4 + offs fs k : Nat) : Int) + (4 + ((fs.getD k default).b.length : Int)))) = _
        congr 2
        omega
      obtain rfl : k = n := by omega
      rw [← hn] at hdoL
      have hsw := swapB_len ss (offs fs k + 4) x.b hfit
      have hpm : ∀ q, ∀ j ∈ places l x.c q, j < q := fun q j hj => (places_mem hj).1
      repeat (first | refine sc rfl ?_ | refine so rfl ?_ | refine sb rfl ?_ | refine C_scope ?_)
      refine O_empty (fun _ => []) rfl rfl rfl rfl rfl ?_
      repeat (first | refine sc rfl ?_ | refine so rfl ?_ | refine sb rfl ?_ | refine C_scope ?_)
      refine O_append (by_ := 40) (m := 0) (m2 := l.length) (m3 := l.length) (row3 := fun i => Ev.cells (l.getD i default)) (s2 := [(0, SL 4 Ev.cells l), (3, .bp 3 0), (6, I64 ((4 + offs fs k : Nat) : Int))]) rfl rfl rfl rfl rfl (src_sl rfl (fun i _ => rfl)) rfl ⟨rfl, rfl, rfl, trivial⟩ rfl rfl (by omega) (by simp only [maxLen]; omega) (by omega) (fun i hi => ?_) ?_
      · unfold appRow
        rw [if_neg (by omega), Nat.sub_zero]
      repeat (first | refine sc rfl ?_ | refine so rfl ?_ | refine sb rfl ?_ | refine C_scope ?_)
      generalize hsp : swapB ss (offs fs k + 4) x.b = sp at *
      refine C_loop (fun i : Nat => ⟨[(0, SL 4 Ev.cells l), (3, .bp 3 0), (6, I64 ((4 + offs fs k : Nat) : Int)), (8, .own 68), (9, I64 ((strm l (places l x.c i)).length : Nat)), (10, I64 (i : Nat))],
          [.box 3 115 (Sw.cells x), .vec 68 62 4 l.length (fun j => Ev.cells ((layL (places l x.c i) l sp).getD j default))]⟩) (fun i => i ≤ l.length) (fun i => l.length - i) 0 (Nat.zero_le _)
        (Le.sub [3, 68] ⟨rfl, rfl, rfl, rfl, rfl, rfl, trivial⟩ rfl) ?_
      intro i hi
      repeat (first | refine sc rfl ?_ | refine so rfl ?_ | refine sb rfl ?_ | refine C_scope ?_)
      refine C_if rfl (fun h5 => ?_) (fun h5 => ?_) <;> simp only [decide_eq_true_eq, decide_eq_false_iff_not] at h5
      · repeat (first | refine sc rfl ?_ | refine so rfl ?_ | refine sb rfl ?_ | refine C_scope ?_)
        refine O_call (hears_p l i x.c (by omega) hl) (by rfl) (by rfl) (by rfl) (by rfl) (fun r hr => ?_)
        subst hr
        repeat (first | refine sc rfl ?_ | refine so rfl ?_ | refine sb rfl ?_ | refine C_scope ?_)
        have hps := places_succ l x.c i
        refine C_if rfl (fun h6 => ?_) (fun h6 => ?_) <;> simp only [Bool.not_eq_true', Bool.not_eq_false'] at h6
        · rw [h6, if_neg (by decide), List.append_nil] at hps
          repeat (first | refine sc rfl ?_ | refine so rfl ?_ | refine sb rfl ?_ | refine C_scope ?_)
          rw [w64 (x := (i : Int) + 1) (by omega) (by omega)]
          exact ⟨i + 1, by omega, by omega, Le.sub [3, 68] ⟨rfl, rfl, rfl, rfl, by rw [hps]; rfl, rfl, trivial⟩ (by rw [hps]; rfl)⟩
        rw [if_pos h6] at hps
        obtain ⟨hp1, hp2⟩ := piece l x.c i (by omega) h6
        rw [hss] at hp1 hp2
        have hpat : patch (l.getD i default).b (strm l (places l x.c i)).length (offs fs k + 4) x.b = (sp.drop (strm l (places l x.c i)).length).take (l.getD i default).b.length := by
          have := patch_eq ss (strm l (places l x.c i)).length (l.getD i default).b.length (offs fs k + 4) x.b hp1 hfit
          rw [← hp2, hsp] at this
          exact this
        have hsl : sp.length = ss.length := hsw
        have hlay : layL (places l x.c (i + 1)) l sp = setB (layL (places l x.c i) l sp) i (patch (l.getD i default).b (strm l (places l x.c i)).length (offs fs k + 4) x.b) := by
          have hsh := layL_shp (places l x.c i) l sp (fun j hj => by have := hpm i j hj; omega) (by omega)
          rw [hps, layL_snoc _ _ _ _ (fun j hj => by have := hpm i j hj; omega) (by omega), hpat]
          have := shp_get hsh i
          simp only [shp1, Prod.mk.injEq] at this
          rw [this.2.2.2]
        generalize hat : (strm l (places l x.c i)).length = at_ at *
        generalize hbb : (l.getD i default).b = bb at *
        generalize hpp : patch bb at_ (offs fs k + 4) x.b = pp at *
        have hpl : pp.length = bb.length := by rw [← hpp]; exact patch_len _ _ _ _
        have hpg : ∀ q, q < bb.length → pp.getD q 0 = if offs fs k + 4 ≤ at_ + q ∧ at_ + q < offs fs k + 4 + x.b.length then x.b.getD (at_ + q - (offs fs k + 4)) 0 else bb.getD q 0 := fun q hq => by rw [← hpp]; exact patch_get _ _ _ _ _ hq
        repeat (first | refine sc rfl ?_ | refine so rfl ?_ | refine sb rfl ?_ | refine And.intro (by omega) ?_ | refine C_scope ?_)
        refine O_toBytes (l := bb) rfl rfl rfl (by rw [← hbb]; rfl) rfl (fun g cc => ?_)
        repeat (first | refine sc rfl ?_ | refine so rfl ?_ | refine sb rfl ?_ | refine C_scope ?_)
        refine C_loop (fun q : Nat => ⟨[(0, SL 4 Ev.cells l), (3, .bp 3 0), (6, I64 ((4 + offs fs k : Nat) : Int)), (8, .own 68), (9, I64 ((at_ + q : Nat) : Int)), (10, I64 (i : Nat)), (11, .v (HD g bb.length cc)), (12, I64 (q : Nat))],
            [.box 3 115 (Sw.cells x), .abs (bytA g 5 (inn bb pp q)), .vec 68 62 4 l.length (fun j => Ev.cells ((layL (places l x.c i) l sp).getD j default))]⟩) (fun q => q ≤ bb.length) (fun q => bb.length - q) 0 (Nat.zero_le _)
          (Le.sub [3, 1000000, 68] ⟨rfl, rfl, rfl, rfl, rfl, rfl, rfl, rfl, trivial⟩ rfl) ?_
        intro q hq
        have hil := inn_len bb pp q hpl hq
        repeat (first | refine sc rfl ?_ | refine so rfl ?_ | refine sb rfl ?_ | refine C_scope ?_)
        refine C_if rfl (fun h7 => ?_) (fun h7 => ?_) <;> simp only [decide_eq_true_eq, decide_eq_false_iff_not] at h7
        · have hpq := hpg q (by omega)
          repeat (first | refine sc rfl ?_ | refine so rfl ?_ | refine sb rfl ?_ | refine C_scope ?_)
          refine O_join ⟨[(0, SL 4 Ev.cells l), (3, .bp 3 0), (6, I64 ((4 + offs fs k : Nat) : Int)), (8, .own 68), (9, I64 ((at_ + q : Nat) : Int)), (10, I64 (i : Nat)), (11, .v (HD g bb.length cc)), (12, I64 (q : Nat)), (104, B (decide (offs fs k + 4 ≤ at_ + q ∧ at_ + q < offs fs k + 4 + x.b.length)))],
            [.box 3 115 (Sw.cells x), .abs (bytA g 5 (inn bb pp q)), .vec 68 62 4 l.length (fun j => Ev.cells ((layL (places l x.c i) l sp).getD j default))]⟩ ?_ (fun s h => C_le _ h ?_)
          · have hb9 : ∀ y : Bool, y = decide (offs fs k + 4 ≤ at_ + q ∧ at_ + q < offs fs k + 4 + x.b.length) → some (B y) = some (B (decide (offs fs k + 4 ≤ at_ + q ∧ at_ + q < offs fs k + 4 + x.b.length))) := fun y h => by rw [h]
            refine O_case 96 rfl (fun h8 => ?_) (fun h8 => ?_) <;> simp only [decide_eq_true_eq, decide_eq_false_iff_not] at h8 <;> repeat (first | refine sc rfl ?_ | refine so rfl ?_ | refine sb rfl ?_)
            · rw [w64 (x := ((4 + offs fs k : Nat) : Int) + (x.b.length : Int)) (by omega) (by omega)]
              refine Le.sub [3, 1000000, 68] ⟨rfl, rfl, rfl, rfl, rfl, rfl, rfl, rfl, hb9 _ ?_, trivial⟩ rfl
              rw [Bool.eq_iff_iff, decide_eq_true_eq, decide_eq_true_eq]
              omega
            · refine Le.sub [3, 1000000, 68] ⟨rfl, rfl, rfl, rfl, rfl, rfl, rfl, rfl, hb9 _ ?_, trivial⟩ rfl
              rw [Bool.eq_iff_iff, decide_eq_true_eq]
              simp only [Bool.false_eq_true, false_iff]
              omega
          refine C_ifJ ⟨[(0, SL 4 Ev.cells l), (3, .bp 3 0), (6, I64 ((4 + offs fs k : Nat) : Int)), (8, .own 68), (9, I64 ((at_ + q : Nat) : Int)), (10, I64 (i : Nat)), (11, .v (HD g bb.length cc)), (12, I64 (q : Nat))],
            [.box 3 115 (Sw.cells x), .abs (bytA g 5 (inn bb pp (q + 1))), .vec 68 62 4 l.length (fun j => Ev.cells ((layL (places l x.c i) l sp).getD j default))]⟩ rfl (fun h8 => ?_) (fun h8 => ?_) (fun s h => C_le _ h ?_)
          · rw [decide_eq_true_eq] at h8
            rw [if_pos h8] at hpq
            repeat (first | refine sc rfl ?_ | refine so rfl ?_ | refine sb rfl ?_ | refine C_scope ?_)
            rw [w64 (x := ((at_ + q : Nat) : Int) - ((4 + offs fs k : Nat) : Int)) (by omega) (by omega)]
            refine And.intro ⟨by omega, by omega⟩ ?_
            repeat (first | refine sc rfl ?_ | refine so rfl ?_ | refine sb rfl ?_ | refine And.intro ⟨by omega, by omega⟩ ?_ | refine C_scope ?_)
            have hidx : (((at_ + q : Nat) : Int) - ((4 + offs fs k : Nat) : Int)).toNat = at_ + q - (offs fs k + 4) := by omega
            rw [hidx]
            refine O_storeP 1 (writes_byt (o := q) (y := x.b.getD (at_ + q - (offs fs k + 4)) 0) (by rw [hil]; omega)) rfl rfl (by show some (PT g (0 + q * 1)) = some (PT g q); rw [Nat.zero_add, Nat.mul_one]) rfl rfl rfl ?_
            rw [inn_set bb pp q _ hpl (by omega) hpq]
            repeat (first | refine sc rfl ?_ | refine so rfl ?_ | refine sb rfl ?_ | refine C_scope ?_)
            exact Le.sub [3, 1000000, 68] ⟨rfl, rfl, rfl, rfl, rfl, rfl, rfl, rfl, trivial⟩ rfl
          · rw [decide_eq_false_iff_not] at h8
            rw [if_neg h8] at hpq
            repeat (first | refine sc rfl ?_ | refine so rfl ?_ | refine sb rfl ?_ | refine C_scope ?_)
            exact Le.sub [3, 1000000, 68] ⟨rfl, rfl, rfl, rfl, rfl, rfl, rfl, rfl, trivial⟩ (by rw [← inn_same bb pp q hpl (by omega) hpq]; rfl)
          repeat (first | refine sc rfl ?_ | refine so rfl ?_ | refine sb rfl ?_ | refine C_scope ?_)
          rw [w64 (x := ((at_ + q : Nat) : Int) + 1) (by omega) (by omega), w64 (x := (q : Int) + 1) (by omega) (by omega)]
          exact ⟨q + 1, by omega, by omega, Le.sub [3, 1000000, 68] ⟨rfl, rfl, rfl, rfl, rfl, rfl, rfl, rfl, trivial⟩ rfl⟩
        · obtain rfl : q = bb.length := by omega
          rw [inn_end bb pp hpl]
          repeat (first | refine sc rfl ?_ | refine so rfl ?_ | refine sb rfl ?_ | refine C_scope ?_)
          refine O_ofBytes 1 (l := pp) rfl rfl rfl rfl rfl hpl.symm rfl ?_
          repeat (first | refine sc rfl ?_ | refine so rfl ?_ | refine sb rfl ?_ | refine And.intro ⟨by omega, by omega⟩ ?_ | refine C_scope ?_)
          have hll : (layL (places l x.c i) l sp).length = l.length := layL_len _ _ _
          refine O_storeE (q := i) (j := 3) (row' := fun j => Ev.cells ((layL (places l x.c (i + 1)) l sp).getD j default)) rfl rfl rfl rfl rfl rfl (by omega) (by decide) (fun j hj => ?_) ?_
          · rw [hlay, setB_getD _ _ _ _ (by omega)]
            by_cases h : j = i
            · rw [if_pos h, if_pos h]; rfl
            · rw [if_neg h, if_neg h]
          repeat (first | refine sc rfl ?_ | refine so rfl ?_ | refine sb rfl ?_ | refine C_scope ?_)
          rw [w64 (x := (i : Int) + 1) (by omega) (by omega)]
          refine ⟨i + 1, by omega, by omega, Le.sub [3, 68] ⟨rfl, rfl, rfl, rfl, ?_, rfl, trivial⟩ rfl⟩
          have : (strm l (places l x.c (i + 1))).length = at_ + bb.length := by
            rw [hps, strm_snoc, List.length_append, hat, hbb]
          rw [this]
          rfl
      · obtain rfl : i = l.length := by omega
        refine C_le _ (Le.freeze 8 rfl rfl) ?_
        repeat (first | refine sc rfl ?_ | refine so rfl ?_ | refine sb rfl ?_ | refine C_scope ?_)
        refine ⟨_, rfl, rfl, ?_⟩
        rw [SL, layL_len]
    · refine C_drawD rfl (by kernel_rfl) ?_
      repeat (first | refine sd rfl ?_)
      rw [decide_eq_false h0]
      repeat (first | refine sd rfl ?_)
      rw [decide_eq_false h1]
      repeat (first | refine sd rfl ?_ | refine And.intro hin ?_)
      refine D_call (refAsks_p (fs.getD x.n.toNat default).k) rfl rfl rfl rfl ?_
      rw [h2]
      repeat (first | refine sd rfl ?_ | refine And.intro hin ?_)
      refine C_true rfl (by rw [bne_iff_ne]; exact fun h => h3 (Int.ofNat.inj h)) ?_
      repeat (first | refine sc rfl ?_ | refine so rfl ?_ | refine sb rfl ?_ | refine C_scope ?_)
      exact ⟨_, rfl, rfl, fin (by unfold hitL; rw [decide_eq_false h3, Bool.and_false])⟩
  · refine C_drawD rfl (by kernel_rfl) ?_
    repeat (first | refine sd rfl ?_)
    rw [decide_eq_false h0]
    repeat (first | refine sd rfl ?_)
    rw [decide_eq_false h1]
    repeat (first | refine sd rfl ?_ | refine And.intro hin ?_)
    refine D_call (refAsks_p (fs.getD x.n.toNat default).k) rfl rfl rfl rfl ?_
    rw [Bool.eq_false_iff.2 h2]
    repeat (first | refine sd rfl ?_ | refine And.intro hin ?_)
    refine C_true rfl rfl ?_
    repeat (first | refine sc rfl ?_ | refine so rfl ?_ | refine sb rfl ?_ | refine C_scope ?_)
    exact ⟨_, rfl, rfl, fin (by unfold hitL; rw [Bool.eq_false_iff.2 h2, Bool.and_false, Bool.false_and])⟩
end Go.Proofs

/- The document's Bodies; comparisons of frames, of events; what is too much; swaps of ours. -/
set_option linter.unusedSimpArgs false
set_option linter.unusedVariables false
set_option maxRecDepth 100000
namespace Go.Proofs
open Go.Sy Go.Lib

theorem neq64 (a b : Int) (l : List UInt8) (w : World) : (binOp .neq 64 (.agg #[.int .i64 a, .int .i64 b, S l]) (.agg #[.int .i64 a, .int .i64 b, S l])).run Try.prog w = .ok (.bool false) w := by
  have u3 := Try.underlying3
  have a3 := Try.isAgg3
  have z3 := Try.sizeOf3
  have u9 := Try.underlying9
  have a9 := Try.isAgg9
  have z9 := Try.sizeOf9
  have hS : Try.prog.underlying 64 = some (.struct (Try.prog.fieldsOf 64)) := by kernel_rfl
  have hp : Try.prog.stoodInHeld 64 = false := by kernel_rfl
  rw [run_neq_struct, show (10000 : Nat) = 9999 + 1 from rfl, run_equalIn_agg w 9999 64 _ _ hS hp]
  simp only [Program.fieldsOf, Try.underlying64, S]
  go_simp

theorem eql62 (a b c : Int) (l : List UInt8) (w : World) : (binOp .eql 62 (.agg #[.int .i64 a, .int .i64 b, .int .u64 c, S l]) (.agg #[.int .i64 a, .int .i64 b, .int .u64 c, S l])).run Try.prog w = .ok (.bool true) w := by
  have u3 := Try.underlying3
  have a3 := Try.isAgg3
  have z3 := Try.sizeOf3
  have u9 := Try.underlying9
  have a9 := Try.isAgg9
  have z9 := Try.sizeOf9
  have hS : Try.prog.underlying 62 = some (.struct (Try.prog.fieldsOf 62)) := by kernel_rfl
  have hp : Try.prog.stoodInHeld 62 = false := by kernel_rfl
  rw [run_eql_struct, show (10000 : Nat) = 9999 + 1 from rfl, run_equalIn_agg w 9999 62 _ _ hS hp]
  simp only [Program.fieldsOf, Try.underlying62, S]
  go_simp

theorem agg64 {e : Env} {a b : Int} {l : List UInt8} {v : Value} (h : Rep e (.agg [I64 a, I64 b, .s l]) v) : v = .agg #[.int .i64 a, .int .i64 b, S l] := by
  simp only [Rep, RepL] at h
  obtain ⟨ys, rfl, z, zs, h1, rfl, _, z2, zs2, rfl, rfl, _, z3, zs3, rfl, rfl, _, rfl⟩ := h
  congr 1
  exact Array.ext' (by simpa using h1)
theorem agg62 {e : Env} {a b c : Int} {l : List UInt8} {v : Value} (h : Rep e (.agg [I64 a, I64 b, .v (.int .u64 c), .s l]) v) : v = .agg #[.int .i64 a, .int .i64 b, .int .u64 c, S l] := by
  simp only [Rep, RepL] at h
  obtain ⟨ys, rfl, z, zs, h1, rfl, _, z2, zs2, rfl, rfl, _, z3, zs3, rfl, rfl, _, z4, zs4, rfl, rfl, _, rfl⟩ := h
  congr 1
  exact Array.ext' (by simpa using h1)

theorem neq62 (a b c : Int) (l : List UInt8) (w : World) : (binOp .neq 62 (.agg #[.int .i64 a, .int .i64 b, .int .u64 c, S l]) (.agg #[.int .i64 a, .int .i64 b, .int .u64 c, S l])).run Try.prog w = .ok (.bool false) w := by
  have u3 := Try.underlying3
  have a3 := Try.isAgg3
  have z3 := Try.sizeOf3
  have u9 := Try.underlying9
  have a9 := Try.isAgg9
  have z9 := Try.sizeOf9
  have hS : Try.prog.underlying 62 = some (.struct (Try.prog.fieldsOf 62)) := by kernel_rfl
  have hp : Try.prog.stoodInHeld 62 = false := by kernel_rfl
  rw [run_neq_struct, show (10000 : Nat) = 9999 + 1 from rfl, run_equalIn_agg w 9999 62 _ _ hS hp]
  simp only [Program.fieldsOf, Try.underlying62, S]
  go_simp

theorem Same06_p (l : List Fr) (hl : l.length ≤ 1000000000) : FnP Try.prog 25 [SL 3 Fr.cells l, SL 3 Fr.cells l] (· = B true) := by
  refine FnP.intro Try.tabOK Try.wide_ Try.func25 rfl (by decide) rfl (fun X => ?_)
  repeat (first | refine sc rfl ?_ | refine so rfl ?_ | refine sb rfl ?_ | refine C_scope ?_)
  refine C_false rfl (by simp) ?_
  repeat (first | refine sc rfl ?_ | refine so rfl ?_ | refine sb rfl ?_ | refine C_scope ?_)
  refine C_loop (fun k : Nat => ⟨[(0, SL 3 Fr.cells l), (1, SL 3 Fr.cells l), (5, I64 (k : Nat))], []⟩) (fun k => k ≤ l.length) (fun k => l.length - k) 0 (Nat.zero_le _)
    (Le.sub [] ⟨rfl, rfl, rfl, trivial⟩ rfl) ?_
  intro k hk
  repeat (first | refine sc rfl ?_ | refine so rfl ?_ | refine sb rfl ?_ | refine C_scope ?_)
  refine C_if rfl (fun h4 => ?_) (fun h4 => ?_) <;> simp only [decide_eq_true_eq, decide_eq_false_iff_not] at h4
  · repeat (first | refine sc rfl ?_ | refine so rfl ?_ | refine sb rfl ?_ | refine C_scope ?_)
    refine C_drawD rfl (by kernel_rfl) ?_
    repeat (first | refine sd rfl ?_ | refine And.intro (by omega) ?_)
    refine D_val (B false) rfl rfl (fun e a w r => ?_) ?_
    · have hx := opd_sound r (o := .tmp 20) (x := .agg (Fr.cells (l.getD k default))) rfl
      have hy := opd_sound r (o := .tmp 24) (x := .agg (Fr.cells (l.getD k default))) rfl
      exact ⟨_, Rep_v, fun w' _ => run_cmp (agg64 hx) (agg64 hy) (by kernel_rfl) (fun w => neq64 _ _ _ w) w'⟩
    repeat (first | refine sd rfl ?_ | refine sc rfl ?_ | refine C_false rfl rfl ?_ | refine C_scope ?_)
    repeat (first | refine sc rfl ?_ | refine so rfl ?_ | refine sb rfl ?_ | refine C_scope ?_)
    rw [w64 (x := (k : Int) + 1) (by omega) (by omega)]
    exact ⟨k + 1, by omega, by omega, Le.sub [] ⟨rfl, rfl, rfl, trivial⟩ rfl⟩
  · repeat (first | refine sc rfl ?_ | refine so rfl ?_ | refine sb rfl ?_ | refine C_scope ?_)
    exact ⟨_, rfl, rfl, rfl⟩

theorem Same43_p (l : List Ev) (hl : l.length ≤ 1000000000) : FnP Try.prog 28 [SL 4 Ev.cells l, SL 4 Ev.cells l] (· = B true) := by
  refine FnP.intro Try.tabOK Try.wide_ Try.func28 rfl (by decide) rfl (fun X => ?_)
  repeat (first | refine sc rfl ?_ | refine so rfl ?_ | refine sb rfl ?_ | refine C_scope ?_)
  refine C_false rfl (by simp) ?_
  repeat (first | refine sc rfl ?_ | refine so rfl ?_ | refine sb rfl ?_ | refine C_scope ?_)
  refine C_loop (fun k : Nat => ⟨[(0, SL 4 Ev.cells l), (1, SL 4 Ev.cells l), (5, I64 (k : Nat))], []⟩) (fun k => k ≤ l.length) (fun k => l.length - k) 0 (Nat.zero_le _)
    (Le.sub [] ⟨rfl, rfl, rfl, trivial⟩ rfl) ?_
  intro k hk
  repeat (first | refine sc rfl ?_ | refine so rfl ?_ | refine sb rfl ?_ | refine C_scope ?_)
  refine C_if rfl (fun h4 => ?_) (fun h4 => ?_) <;> simp only [decide_eq_true_eq, decide_eq_false_iff_not] at h4
  · repeat (first | refine sc rfl ?_ | refine so rfl ?_ | refine sb rfl ?_ | refine C_scope ?_)
    refine C_drawD rfl (by kernel_rfl) ?_
    repeat (first | refine sd rfl ?_ | refine And.intro (by omega) ?_)
    refine D_val (B false) rfl rfl (fun e a w r => ?_) ?_
    · have hx := opd_sound r (o := .tmp 20) (x := .agg (Ev.cells (l.getD k default))) rfl
      have hy := opd_sound r (o := .tmp 24) (x := .agg (Ev.cells (l.getD k default))) rfl
      exact ⟨_, Rep_v, fun w' _ => run_cmp (agg62 hx) (agg62 hy) (by kernel_rfl) (fun w => neq62 _ _ _ _ w) w'⟩
    repeat (first | refine sd rfl ?_ | refine sc rfl ?_ | refine C_false rfl rfl ?_ | refine C_scope ?_)
    repeat (first | refine sc rfl ?_ | refine so rfl ?_ | refine sb rfl ?_ | refine C_scope ?_)
    rw [w64 (x := (k : Int) + 1) (by omega) (by omega)]
    exact ⟨k + 1, by omega, by omega, Le.sub [] ⟨rfl, rfl, rfl, trivial⟩ rfl⟩
  · repeat (first | refine sc rfl ?_ | refine so rfl ?_ | refine sb rfl ?_ | refine C_scope ?_)
    exact ⟨_, rfl, rfl, rfl⟩

theorem rBodies_p (l : List Ev) (r : List Sw) (hl : l.length ≤ 1000000) (hr : r.length ≤ 1000000) (ht : tot l ≤ 100000000) : FnP Try.prog 31 [SL 4 Ev.cells l, SL 3 Sw.cells r] (· = SL 4 Ev.cells (bodies l r)) := by
  refine FnP.intro Try.tabOK Try.wide_ Try.func31 rfl (by decide) rfl (fun X => ?_)
  repeat (first | refine sc rfl ?_ | refine so rfl ?_ | refine sb rfl ?_ | refine C_scope ?_)
  refine C_loop (fun k : Nat => ⟨[(0, SL 4 Ev.cells (bodies l (r.take k))), (1, SL 3 Sw.cells r), (5, I64 (k : Nat))], []⟩) (fun k => k ≤ r.length) (fun k => r.length - k) 0 (Nat.zero_le _)
    (Le.sub [] ⟨rfl, rfl, rfl, trivial⟩ rfl) ?_
  intro k hk
  have hsh := bodies_shp (r.take k) l
  have hln := shp_len hsh
  have htt := shp_tot hsh
  repeat (first | refine sc rfl ?_ | refine so rfl ?_ | refine sb rfl ?_ | refine C_scope ?_)
  refine C_if rfl (fun h1 => ?_) (fun h1 => ?_) <;> simp only [decide_eq_true_eq, decide_eq_false_iff_not] at h1
  · repeat (first | refine sc rfl ?_ | refine so rfl ?_ | refine sb rfl ?_ | refine And.intro (by omega) ?_ | refine C_scope ?_)
    refine O_call (rdo_p (bodies l (r.take k)) (r.getD k default) (by omega) (by omega)) (by rfl) (by rfl) (by rfl) (by rfl) (fun rr hrr => ?_)
    subst hrr
    rw [← bodies_snoc, ← take_succS r k (by omega)]
    repeat (first | refine sc rfl ?_ | refine so rfl ?_ | refine sb rfl ?_ | refine C_scope ?_)
    rw [w64 (x := (k : Int) + 1) (by omega) (by omega)]
    exact ⟨k + 1, by omega, by omega, Le.sub [] ⟨rfl, rfl, rfl, trivial⟩ rfl⟩
  · obtain rfl : k = r.length := by omega
    rw [List.take_length]
    repeat (first | refine sc rfl ?_ | refine so rfl ?_ | refine sb rfl ?_ | refine C_scope ?_)
    exact ⟨_, rfl, rfl, rfl⟩

theorem ours47_p (r : List Sw) (hr : r.length ≤ 1000000) : FnP Try.prog 30 [SL 3 Sw.cells r] (· = SL 3 Sw.cells r) := by
  refine FnP.intro Try.tabOK Try.wide_ Try.func30 rfl (by decide) rfl (fun X => ?_)
  repeat (first | refine sc rfl ?_ | refine so rfl ?_ | refine sb rfl ?_ | refine C_scope ?_)
  refine C_loop (fun k : Nat => ⟨[(0, SL 3 Sw.cells r), (3, .own 100), (4, I64 (k : Nat))], [VEC 100 66 3 Sw.cells (r.take k)]⟩) (fun k => k ≤ r.length) (fun k => r.length - k) 0 (Nat.zero_le _)
    ((Le.nilvec (α := Sw) Sw.cells 3 100 66 3 rfl rfl rfl).trans (Le.sub [100] ⟨rfl, rfl, rfl, trivial⟩ rfl)) ?_
  intro k hk
  repeat (first | refine sc rfl ?_ | refine so rfl ?_ | refine sb rfl ?_ | refine C_scope ?_)
  refine C_if rfl (fun h1 => ?_) (fun h1 => ?_) <;> simp only [decide_eq_true_eq, decide_eq_false_iff_not] at h1
  · repeat (first | refine sc rfl ?_ | refine so rfl ?_ | refine sb rfl ?_ | refine C_scope ?_)
    refine C_drawE (fun fl => if fl then [VEC 29 66 3 Sw.cells (r.take k ++ [r.getD k default])] else [VEC 100 66 3 Sw.cells (r.take k)]) 18 29 0 19 3 (x1 := .own 100) rfl rfl rfl rfl rfl (by kernel_rfl) ?_
    repeat (first | refine se rfl ?_ | refine And.intro trivial ?_ | refine And.intro (by omega) ?_)
    refine E_bsl rfl rfl rfl rfl ?_
    refine E_push Sw.cells (r.take k) (r.getD k default) 32 rfl rfl rfl rfl rfl rfl rfl rfl rfl rfl rfl (by simp; omega) (by simp [maxLen]; omega) rfl ?_
    repeat (first | refine se rfl ?_ | refine And.intro trivial ?_ | refine And.intro (by omega) ?_)
    repeat (first | refine sc rfl ?_ | refine so rfl ?_ | refine sb rfl ?_ | refine C_scope ?_)
    rw [w64 (x := (k : Int) + 1) (by omega) (by omega)]
    refine ⟨k + 1, by omega, by omega, (Le.rename (s2 := [(0, SL 3 Sw.cells r), (4, I64 ((k : Int) + 1))]) 3 100 rfl rfl ⟨rfl, rfl, trivial⟩ rfl rfl).trans (Le.sub [100] ⟨rfl, rfl, rfl, trivial⟩ (by rw [take_succS r k (by omega)]; rfl))⟩
  · obtain rfl : k = r.length := by omega
    rw [List.take_length]
    refine C_le _ (Le.freezeL 3 rfl rfl) ?_
    repeat (first | refine sc rfl ?_ | refine so rfl ?_ | refine sb rfl ?_ | refine C_scope ?_)
    exact ⟨_, rfl, rfl, rfl⟩
end Go.Proofs

/- What is too much; the example of chapter 47. -/
set_option linter.unusedSimpArgs false
set_option linter.unusedVariables false
set_option maxRecDepth 100000
namespace Go.Proofs
open Go.Sy Go.Lib

def totS (r : List Sw) : Nat := (r.map (fun x => x.b.length)).sum
theorem take_tot (l : List Ev) (k : Nat) (h : k < l.length) : tot (l.take (k + 1)) = tot (l.take k) + (l.getD k default).b.length := by
  unfold tot
  rw [List.take_add_one, List.map_append, List.sum_append]
  simp [List.getD, List.getElem?_eq_getElem h]
theorem take_totS (r : List Sw) (k : Nat) (h : k < r.length) : totS (r.take (k + 1)) = totS (r.take k) + (r.getD k default).b.length := by
  rw [take_succS r k h]
  simp [totS]

theorem Much42_p (l : List Ev) (hl : l.length ≤ 9223372036854775807) (hb : ∀ e ∈ l, e.b.length ≤ 140737488351232) : FnP Try.prog 66 [SL 4 Ev.cells l] (· = B (decide (150 < l.length ∨ 20000 < min (tot l) 1048576))) := by
  refine FnP.intro Try.tabOK Try.wide_ Try.func66 rfl (by decide) rfl (fun X => ?_)
  have fin : ∀ y : Bool, y = decide (150 < l.length ∨ 20000 < min (tot l) 1048576) → some (B y) = some (B (decide (150 < l.length ∨ 20000 < min (tot l) 1048576))) := fun y h => by rw [h]
  repeat (first | refine sc rfl ?_ | refine so rfl ?_ | refine sb rfl ?_ | refine C_scope ?_)
  refine C_loop (fun k : Nat => ⟨[(0, SL 4 Ev.cells l), (3, I64 ((min (tot (l.take k)) 1048576 : Nat) : Int)), (4, I64 (k : Nat))], []⟩) (fun k => k ≤ l.length) (fun k => l.length - k) 0 (Nat.zero_le _)
    (Le.sub [] ⟨rfl, rfl, rfl, trivial⟩ rfl) ?_
  intro k hk
  repeat (first | refine sc rfl ?_ | refine so rfl ?_ | refine sb rfl ?_ | refine C_scope ?_)
  refine C_if rfl (fun h1 => ?_) (fun h1 => ?_) <;> simp only [decide_eq_true_eq, decide_eq_false_iff_not] at h1
  · have hbk : (l.getD k default).b.length ≤ 140737488351232 := hb _ (by simp [List.getD, List.getElem?_eq_getElem (show k < l.length by omega)])
    repeat (first | refine sc rfl ?_ | refine so rfl ?_ | refine sb rfl ?_ | refine And.intro (by omega) ?_ | refine C_scope ?_)
    have e1 : (l.getD (Int.toNat (k : Int)) default).b.length = (l.getD k default).b.length := rfl
    rw [w64 (x := ((min (tot (l.take k)) 1048576 : Nat) : Int) + ((l.getD (Int.toNat (k : Int)) default).b.length : Int)) (by omega) (by omega), w64 (x := (k : Int) + 1) (by omega) (by omega)]
    refine ⟨k + 1, by omega, by omega, Le.sub [] ⟨rfl, ?_, rfl, trivial⟩ rfl⟩
    rw [take_tot l k (by omega)]
    show some (I64 (min (((min (tot (l.take k)) 1048576 : Nat) : Int) + ((l.getD k default).b.length : Int)) 1048576)) = _
    congr 2
    omega
  · obtain rfl : k = l.length := by omega
    rw [List.take_length]
    repeat (first | refine sc rfl ?_ | refine so rfl ?_ | refine sb rfl ?_ | refine C_scope ?_)
    refine O_join ⟨[(2, B (decide (150 < l.length ∨ 20000 < min (tot l) 1048576)))], []⟩ ?_ (fun s h => C_le _ h ?_)
    · refine O_case 23 rfl (fun h5 => ?_) (fun h5 => ?_) <;> simp only [decide_eq_true_eq, decide_eq_false_iff_not] at h5 <;> repeat (first | refine sc rfl ?_ | refine so rfl ?_ | refine sb rfl ?_)
      · refine Le.sub [] ⟨fin _ ?_, trivial⟩ rfl
        rw [Bool.eq_iff_iff, decide_eq_true_eq]; simp only [true_iff]; omega
      · refine Le.sub [] ⟨fin _ ?_, trivial⟩ rfl
        rw [Bool.eq_iff_iff, decide_eq_true_eq, decide_eq_true_eq]; omega
    repeat (first | refine sc rfl ?_ | refine so rfl ?_ | refine sb rfl ?_ | refine C_scope ?_)
    exact ⟨_, rfl, rfl, rfl⟩

def much (l : List Ev) (r : List Sw) : Bool := decide (150 < l.length ∨ 20000 < min (tot l) 1048576 ∨ 30 < r.length ∨ 20000 < min (totS r) 1048576)

theorem much47_p (l : List Ev) (r : List Sw) (hl : l.length ≤ 9223372036854775807) (hb : ∀ e ∈ l, e.b.length ≤ 140737488351232) (hr : r.length ≤ 9223372036854775807) (hrb : ∀ e ∈ r, e.b.length ≤ 140737488351232) :
    FnP Try.prog 23 [SL 4 Ev.cells l, SL 3 Sw.cells r] (· = B (much l r)) := by
  refine FnP.intro Try.tabOK Try.wide_ Try.func23 rfl (by decide) rfl (fun X => ?_)
  have fin : ∀ y : Bool, y = much l r → some (B y) = some (B (much l r)) := fun y h => by rw [h]
  repeat (first | refine sc rfl ?_ | refine so rfl ?_ | refine sb rfl ?_ | refine C_scope ?_)
  refine C_loop (fun k : Nat => ⟨[(0, SL 4 Ev.cells l), (1, SL 3 Sw.cells r), (5, I64 ((min (totS (r.take k)) 1048576 : Nat) : Int)), (6, I64 (k : Nat))], []⟩) (fun k => k ≤ r.length) (fun k => r.length - k) 0 (Nat.zero_le _)
    (Le.sub [] ⟨rfl, rfl, rfl, rfl, trivial⟩ rfl) ?_
  intro k hk
  repeat (first | refine sc rfl ?_ | refine so rfl ?_ | refine sb rfl ?_ | refine C_scope ?_)
  refine C_if rfl (fun h1 => ?_) (fun h1 => ?_) <;> simp only [decide_eq_true_eq, decide_eq_false_iff_not] at h1
  · have hbk : (r.getD k default).b.length ≤ 140737488351232 := hrb _ (by simp [List.getD, List.getElem?_eq_getElem (show k < r.length by omega)])
    repeat (first | refine sc rfl ?_ | refine so rfl ?_ | refine sb rfl ?_ | refine And.intro (by omega) ?_ | refine C_scope ?_)
    have e1 : (r.getD (Int.toNat (k : Int)) default).b.length = (r.getD k default).b.length := rfl
    rw [w64 (x := ((min (totS (r.take k)) 1048576 : Nat) : Int) + ((r.getD (Int.toNat (k : Int)) default).b.length : Int)) (by omega) (by omega), w64 (x := (k : Int) + 1) (by omega) (by omega)]
    refine ⟨k + 1, by omega, by omega, Le.sub [] ⟨rfl, rfl, ?_, rfl, trivial⟩ rfl⟩
    rw [take_totS r k (by omega)]
    show some (I64 (min (((min (totS (r.take k)) 1048576 : Nat) : Int) + ((r.getD k default).b.length : Int)) 1048576)) = _
    congr 2
    omega
  · obtain rfl : k = r.length := by omega
    rw [List.take_length]
    repeat (first | refine sc rfl ?_ | refine so rfl ?_ | refine sb rfl ?_ | refine C_scope ?_)
    refine O_call (Much42_p l hl hb) (by rfl) (by rfl) (by rfl) (by rfl) (fun rr hr2 => ?_)
    subst hr2
    repeat (first | refine sc rfl ?_ | refine so rfl ?_ | refine sb rfl ?_ | refine C_scope ?_)
    refine O_join ⟨[(4, B (much l r))], []⟩ ?_ (fun s h => C_le _ h ?_)
    · refine O_case 24 rfl (fun h5 => ?_) (fun h5 => ?_) <;> simp only [decide_eq_true_eq, decide_eq_false_iff_not] at h5 <;> repeat (first | refine sc rfl ?_ | refine so rfl ?_ | refine sb rfl ?_)
      · refine Le.sub [] ⟨fin _ ?_, trivial⟩ rfl
        unfold much
        rw [Bool.eq_iff_iff, decide_eq_true_eq]; simp only [true_iff]; omega
      · refine O_case 29 rfl (fun h6 => ?_) (fun h6 => ?_) <;> simp only [decide_eq_true_eq, decide_eq_false_iff_not] at h6 <;> repeat (first | refine sc rfl ?_ | refine so rfl ?_ | refine sb rfl ?_)
        · refine Le.sub [] ⟨fin _ ?_, trivial⟩ rfl
          unfold much
          rw [Bool.eq_iff_iff, decide_eq_true_eq]; simp only [true_iff]; omega
        · refine Le.sub [] ⟨fin _ ?_, trivial⟩ rfl
          unfold much
          rw [Bool.eq_iff_iff, decide_eq_true_eq, decide_eq_true_eq]; omega
    repeat (first | refine sc rfl ?_ | refine so rfl ?_ | refine sb rfl ?_ | refine C_scope ?_)
    exact ⟨_, rfl, rfl, rfl⟩
end Go.Proofs

/- The example of chapter 47; the law SwapBodies. -/
set_option linter.unusedSimpArgs false
set_option linter.unusedVariables false
set_option maxRecDepth 100000
namespace Go.Proofs
open Go.Sy Go.Lib

def exL : List Ev := [⟨1, 0, 0, []⟩, ⟨2, 0, 0, [4, 0, 0, 1, 9]⟩]
def exM : List Ev := [⟨1, 0, 0, []⟩, ⟨2, 0, 0, [4, 0, 0, 1, 7]⟩]
theorem ex_bodies : bodies exL [⟨0, 0, [7]⟩] = exM := by rfl

theorem awake47_p : FnP Try.prog 24 [] (· = B true) := by
  refine FnP.intro Try.tabOK Try.wide_ Try.func24 rfl (by decide) rfl (fun X => ?_)
  iterate 12 (first | refine sc rfl ?_ | refine so rfl ?_ | refine sb rfl ?_ | refine C_scope ?_)
  refine C_le _ ((Le.vecrow (k := 5) exL.length (fun i => Ev.cells (exL.getD i default)) rfl rfl (fun i hi => by
    match i, hi with
    | 0, _ => rfl
    | 1, _ => rfl)).trans (Le.freezeL (l := exL) (cells := Ev.cells) 1 rfl rfl)) ?_
  repeat (first | refine sc rfl ?_ | refine so rfl ?_ | refine sb rfl ?_ | refine C_scope ?_)
  refine O_le _ ((Le.vecrow (k := 8) 1 (fun i => Sw.cells ([(⟨0, 0, [7]⟩ : Sw)].getD i default)) rfl rfl (fun i hi => by
    match i, hi with
    | 0, _ => rfl)).trans (Le.freezeL (l := [(⟨0, 0, [7]⟩ : Sw)]) (cells := Sw.cells) 8 rfl rfl)) ?_
  refine O_call (Bodies_I exL [⟨0, 0, [7]⟩] (by decide) (by decide) (by decide)) (by rfl) (by rfl) (by rfl) (by rfl) (fun rr hr2 => ?_)
  rw [ex_bodies] at hr2
  subst hr2
  repeat (first | refine sc rfl ?_ | refine so rfl ?_ | refine sb rfl ?_ | refine C_scope ?_)
  refine C_drawD rfl (by kernel_rfl) ?_
  repeat (first | refine sd rfl ?_)
  rw [show (((exM.length : Nat) : Int) == 2) = true from rfl]
  repeat (first | refine sd rfl ?_ | refine And.intro (by decide) ?_)
  refine D_val (B true) rfl rfl (fun e a w r => ?_) ?_
  · have hx := opd_sound r (o := .tmp 16) (x := .agg (Ev.cells (exM.getD 0 default))) rfl
    have hy := opd_sound r (o := .tmp 19) (x := .agg (Ev.cells (exM.getD 0 default))) rfl
    exact ⟨_, Rep_v, fun w' _ => run_cmp (agg62 hx) (agg62 hy) (by kernel_rfl) (fun w => eql62 _ _ _ _ w) w'⟩
  repeat (first | refine sd rfl ?_ | refine And.intro (by decide) ?_)
  repeat (first | refine sc rfl ?_ | refine so rfl ?_ | refine sb rfl ?_ | refine C_scope ?_)
  exact ⟨_, rfl, rfl, rfl⟩

theorem law47_p (l : List Ev) (r : List Sw) (hl : l.length ≤ 9223372036854775807) (hb : ∀ e ∈ l, e.b.length ≤ 140737488351232) (hr : r.length ≤ 9223372036854775807) (hrb : ∀ e ∈ r, e.b.length ≤ 140737488351232) :
    FnP Try.prog 5 [SL 4 Ev.cells l, SL 3 Sw.cells r] (· = B true) := by
  refine FnP.intro Try.tabOK Try.wide_ Try.func5 rfl (by decide) rfl (fun X => ?_)
  repeat (first | refine sc rfl ?_ | refine so rfl ?_ | refine sb rfl ?_ | refine C_scope ?_)
  refine O_call (much47_p l r hl hb hr hrb) (by rfl) (by rfl) (by rfl) (by rfl) (fun rr hr2 => ?_)
  subst hr2
  repeat (first | refine sc rfl ?_ | refine so rfl ?_ | refine sb rfl ?_ | refine C_scope ?_)
  refine C_if rfl (fun h => ?_) (fun h => ?_)
  · repeat (first | refine sc rfl ?_ | refine so rfl ?_ | refine sb rfl ?_ | refine C_scope ?_)
    refine O_call awake47_p (by rfl) (by rfl) (by rfl) (by rfl) (fun rr hr2 => ?_)
    subst hr2
    repeat (first | refine sc rfl ?_ | refine so rfl ?_ | refine sb rfl ?_ | refine C_scope ?_)
    exact ⟨_, rfl, rfl, rfl⟩
  unfold much at h
  rw [decide_eq_false_iff_not] at h
  have hl2 : l.length ≤ 150 := by omega
  have ht2 : tot l ≤ 20000 := by omega
  have hr2 : r.length ≤ 30 := by omega
  repeat (first | refine sc rfl ?_ | refine so rfl ?_ | refine sb rfl ?_ | refine C_scope ?_)
  refine C_loop (fun k : Nat => ⟨[(0, SL 4 Ev.cells l), (1, SL 3 Sw.cells r), (5, I64 ((k : Nat) - 1 : Int))], []⟩) (fun k => k ≤ 18) (fun k => 18 - k) 0 (Nat.zero_le _)
    (Le.sub [] ⟨rfl, rfl, rfl, trivial⟩ rfl) ?_
  intro k hk
  repeat (first | refine sc rfl ?_ | refine so rfl ?_ | refine sb rfl ?_ | refine C_scope ?_)
  refine C_if rfl (fun h1 => ?_) (fun h1 => ?_) <;> simp only [decide_eq_true_eq, decide_eq_false_iff_not] at h1
  · repeat (first | refine sc rfl ?_ | refine so rfl ?_ | refine sb rfl ?_ | refine C_scope ?_)
    refine O_call (Frames_I l ((k : Nat) - 1 : Int) (by omega) (by have := strm_tot l ((k : Nat) - 1 : Int); omega)) (by rfl) (by rfl) (by rfl) (by rfl) (fun rr hrr => ?_)
    subst hrr
    repeat (first | refine sc rfl ?_ | refine so rfl ?_ | refine sb rfl ?_ | refine C_scope ?_)
    refine O_call (rFrames_p l ((k : Nat) - 1 : Int) (by omega) (by omega)) (by rfl) (by rfl) (by rfl) (by rfl) (fun rr hrr => ?_)
    subst hrr
    repeat (first | refine sc rfl ?_ | refine so rfl ?_ | refine sb rfl ?_ | refine C_scope ?_)
    refine O_call (Same06_p (frC l ((k : Nat) - 1 : Int)) (by
      have := framesL_len (strm l (places l ((k : Nat) - 1 : Int) l.length))
      have := strm_tot l ((k : Nat) - 1 : Int)
      unfold frC; omega)) (by rfl) (by rfl) (by rfl) (by rfl) (fun rr hrr => ?_)
    subst hrr
    repeat (first | refine sc rfl ?_ | refine so rfl ?_ | refine sb rfl ?_ | refine C_scope ?_)
    refine C_false rfl rfl ?_
    repeat (first | refine sc rfl ?_ | refine so rfl ?_ | refine sb rfl ?_ | refine C_scope ?_)
    rw [w64 (x := (k : Int) - 1 + 1) (by omega) (by omega)]
    refine ⟨k + 1, by omega, by omega, Le.sub [] ⟨rfl, rfl, ?_, trivial⟩ rfl⟩
    show some (I64 ((k : Int) - 1 + 1)) = some (I64 (((k + 1 : Nat) : Int) - 1))
    congr 2
    omega
  · repeat (first | refine sc rfl ?_ | refine so rfl ?_ | refine sb rfl ?_ | refine C_scope ?_)
    refine O_call (ours47_p r (by omega)) (by rfl) (by rfl) (by rfl) (by rfl) (fun rr hrr => ?_)
    subst hrr
    repeat (first | refine sc rfl ?_ | refine so rfl ?_ | refine sb rfl ?_ | refine C_scope ?_)
    refine O_call (Bodies_I l r (by omega) (by omega) (by omega)) (by rfl) (by rfl) (by rfl) (by rfl) (fun rr hrr => ?_)
    subst hrr
    repeat (first | refine sc rfl ?_ | refine so rfl ?_ | refine sb rfl ?_ | refine C_scope ?_)
    refine O_call (rBodies_p l r (by omega) (by omega) (by omega)) (by rfl) (by rfl) (by rfl) (by rfl) (fun rr hrr => ?_)
    subst hrr
    repeat (first | refine sc rfl ?_ | refine so rfl ?_ | refine sb rfl ?_ | refine C_scope ?_)
    refine O_call (Same43_p (bodies l r) (by rw [shp_len (bodies_shp r l)]; omega)) (by rfl) (by rfl) (by rfl) (by rfl) (fun rr hrr => ?_)
    subst hrr
    repeat (first | refine sc rfl ?_ | refine so rfl ?_ | refine sb rfl ?_ | refine C_scope ?_)
    refine O_call awake47_p (by rfl) (by rfl) (by rfl) (by rfl) (fun rr hrr => ?_)
    subst hrr
    repeat (first | refine sc rfl ?_ | refine so rfl ?_ | refine sb rfl ?_ | refine C_scope ?_)
    exact ⟨_, rfl, rfl, rfl⟩
end Go.Proofs
