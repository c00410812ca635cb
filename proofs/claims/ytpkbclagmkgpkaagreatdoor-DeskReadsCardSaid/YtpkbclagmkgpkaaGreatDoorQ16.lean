/- The document's answer: a text is read. -/
import Derived.Test.YtpkbclagmkgpkaaGreatDoorQ15
import Derived.Test.YtpkbclagmkgpkaaGreatDoorQ12
set_option linter.unusedSimpArgs false
set_option linter.unusedVariables false
set_option maxRecDepth 100000
namespace Go.Proofs
open Go.Sy Go.Lib

def rdR : Nat → Sht → Bool → List (List UInt8) → (Sht × Bool) × Int × Nat
  | _, x, k, [] => ((x, k), 0, 0)
  | i, x, k, l :: r => match wordsF l with
    | [] => rdR (i + 1) x k r
    | w :: ws => if w.head? = some 35 then rdR (i + 1) x k r
      else if (rLineF x k ((i + 1 : Nat) : Int) w ws).2 ≠ 0 then ((Sht.nil, false), (rLineF x k ((i + 1 : Nat) : Int) w ws).2, i + 1)
      else rdR (i + 1) (rLineF x k ((i + 1 : Nat) : Int) w ws).1.1 (rLineF x k ((i + 1 : Nat) : Int) w ws).1.2 r
theorem rLineF_le (x : Sht) (k : Bool) (n : Int) (w : List UInt8) (ws : List (List UInt8)) (i : Nat) (h1 : x.evs.length ≤ i) (h2 : x.lns.length ≤ i) (h3 : x.key < 18446744073709551616) (hT : (ws.map fun w => w.length + 1).sum ≤ 1000000) :
    (rLineF x k n w ws).1.1.evs.length ≤ i + 1 ∧ (rLineF x k n w ws).1.1.lns.length ≤ i + 1 ∧ (rLineF x k n w ws).1.1.key < 18446744073709551616 := by
  have same : x.evs.length ≤ i + 1 ∧ x.lns.length ≤ i + 1 ∧ x.key < 18446744073709551616 := ⟨by omega, by omega, h3⟩
  unfold rLineF
  cases hs : shapeF w with
  | none => exact same
  | some sh =>
    simp only []
    have hok := takeL_ok sh ws (shapeF_last hs) (fun v hv => by have := sum_mem hv; omega) hT
    by_cases c1 : w = [107, 101, 121] ∧ (k = true ∨ 0 < x.evs.length)
    · rw [if_pos c1]; exact same
    rw [if_neg c1]
    by_cases c2 : (takeL sh ws).2.2 = false
    · rw [if_pos c2]; exact same
    rw [if_neg c2]
    have hg := hok (by cases h : (takeL sh ws).2.2 with | true => rfl | false => exact absurd h c2)
    by_cases c3 : w = [107, 101, 121]
    · rw [if_pos c3]; exact ⟨Nat.le_succ_of_le h1, Nat.le_succ_of_le h2, hg.lt 0⟩
    rw [if_neg c3]
    by_cases c4 : (rEventF x.key w (takeL sh ws).1 (takeL sh ws).2.1).2 ≠ 0
    · rw [if_pos c4]; exact same
    rw [if_neg c4]
    by_cases c5 : 1024 ≤ x.evs.length
    · rw [if_pos c5]; exact same
    rw [if_neg c5]
    exact ⟨by simp; omega, by simp; omega, h3⟩
theorem rLineF_le2 (x : Sht) (k : Bool) (n : Int) (w : List UInt8) (ws : List (List UInt8)) (h1 : x.evs.length ≤ 1024) (h2 : x.lns.length ≤ 1024) (he : x.evs.length = x.lns.length) :
    (rLineF x k n w ws).1.1.evs.length ≤ 1024 ∧ (rLineF x k n w ws).1.1.lns.length ≤ 1024 ∧ (rLineF x k n w ws).1.1.evs.length = (rLineF x k n w ws).1.1.lns.length := by
  have same : x.evs.length ≤ 1024 ∧ x.lns.length ≤ 1024 ∧ x.evs.length = x.lns.length := ⟨h1, h2, he⟩
  unfold rLineF
  cases hs : shapeF w with
  | none => exact same
  | some sh =>
    simp only []
    split
    · exact same
    split
    · exact same
    split
    · exact same
    split
    · exact same
    split
    · exact same
    · exact ⟨by simp; omega, by simp; omega, by simp [he]⟩
def RrP (Y : (Sht × Bool) × Int × Nat) (r : AV) (cs' : List Abs) : Prop := ∃ h1 h2, HV h1 Y.1.1.evs.length ∧ HV h2 Y.1.1.lns.length ∧ r = .tup [.agg (shG Y.1.1 Y.1.2 h1 h2), .agg [I64 Y.2.1, I64 (Y.2.2 : Nat)]] ∧ cs' = [vE h1 Y.1.1.evs Y.1.1.evs.length, vL h2 Y.1.1.lns Y.1.1.lns.length]
theorem rRead_A (s : List UInt8) (hs : s.length ≤ 100000) (hn : s.count 10 ≤ 1000) : FnA Tryz.prog 9 [.s s] [] (RrP (rdR 0 Sht.nil false (spl 10 s))) := by
  refine FnA.intro Tryz.tabOK Tryz.wide_ Tryz.func9 rfl (by decide) rfl (fun X => ?_)
  repeat (first | refine sc rfl ?_ | refine so rfl ?_)
  refine O_call (refSplit_c s 10 (by omega)) (by rfl) (by rfl) (by rfl) (by rfl) (fun r hr => ?_)
  subst hr
  have hL : ∀ l ∈ spl 10 s, l.length ≤ 100000 := fun l hl => Nat.le_trans (spl_le hl) hs
  have hc : (spl 10 s).length ≤ 1001 := by rw [spl_len]; omega
  obtain ⟨R0, hR0⟩ : ∃ R0, rdR 0 Sht.nil false (spl 10 s) = R0 := ⟨_, rfl⟩
  rw [hR0]
  generalize spl 10 s = L at hR0 hL hc ⊢
  repeat (first | refine sc rfl ?_ | refine so rfl ?_)
  refine C_le _ (Le.addAbs (vE (.slice none 0 0) [] 0) rfl (fun _ _ => ⟨[], ⟨rfl, .inl ⟨rfl, rfl⟩⟩, fun i hi => absurd hi (Nat.not_lt_zero _)⟩)) ?_
  refine C_le _ (Le.addAbs (vL (.slice none 0 0) [] 0) rfl (fun _ _ => ⟨[], ⟨rfl, .inl ⟨rfl, rfl⟩⟩, fun i hi => absurd hi (Nat.not_lt_zero _)⟩)) ?_
  refine C_loop (fun q : Nat × Sht × Bool × Value × Value => ⟨[(2, .bp 2 0), (3, .bp 3 0), (4, .bp 4 0), (5, SL 1 wc1 L), (6, I64 (q.1 : Nat))], [.box 2 35 (shG Sht.nil false (.slice none 0 0) (.slice none 0 0)), .box 3 31 [I64 0, I64 0], .box 4 35 (shG q.2.1 q.2.2.1 q.2.2.2.1 q.2.2.2.2), .abs (vE q.2.2.2.1 q.2.1.evs q.2.1.evs.length), .abs (vL q.2.2.2.2 q.2.1.lns q.2.1.lns.length)]⟩)
    (fun q => q.1 ≤ L.length ∧ HV q.2.2.2.1 q.2.1.evs.length ∧ HV q.2.2.2.2 q.2.1.lns.length ∧ q.2.1.evs.length ≤ 1024 ∧ q.2.1.lns.length ≤ 1024 ∧ q.2.1.evs.length = q.2.1.lns.length ∧ q.2.1.key < 18446744073709551616 ∧ rdR q.1 q.2.1 q.2.2.1 (L.drop q.1) = R0) (fun q => L.length - q.1) (0, Sht.nil, false, .slice none 0 0, .slice none 0 0)
    ⟨Nat.zero_le _, .inl ⟨rfl, rfl⟩, .inl ⟨rfl, rfl⟩, Nat.zero_le _, Nat.zero_le _, rfl, by decide, hR0⟩ (Le.pick [4, 3, 2, 1, 0] ⟨rfl, rfl, rfl, rfl, rfl, trivial⟩ rfl) ?_
  rintro ⟨i, x, k, h1, h2⟩ ⟨g1, g2, g3, g4, g5, g8, g6, g7⟩
  simp only [] at g1 g2 g3 g4 g5 g6 g7 g8
  repeat (first | refine sc rfl ?_ | refine so rfl ?_)
  refine C_if rfl (fun m1 => ?_) (fun m1 => ?_) <;> simp only [pL] at m1
  · have hi : i < L.length := by omega
    obtain ⟨l, hl⟩ : ∃ l, L.getD i default = l := ⟨_, rfl⟩
    have hle : L[i] = l := by rw [← hl, List.getD_eq_getElem?_getD, List.getElem?_eq_getElem hi]; rfl
    have hll := hL L[i] (List.getElem_mem hi)
    rw [hle] at hll
    rw [List.drop_eq_getElem_cons hi, hle] at g7
    repeat (first | refine sc rfl ?_ | refine so rfl ?_)
    refine ⟨⟨by show (0 : Int) ≤ ((i : Nat) : Int); omega, by show ((i : Nat) : Int) < ((L.length : Nat) : Int); omega⟩, ?_⟩
    simp only [Int.toNat_natCast, hl]
    repeat refine so rfl ?_
    refine O_call (rWords_c l (by omega)) (by rfl) (by rfl) (by rfl) (by rfl) (fun r hr => ?_)
    subst hr
    have hsum := words_sum l
    unfold rdR at g7
    cases hW : wordsF l with
    | nil =>
      rw [hW] at g7
      simp only [] at g7
      repeat (first | refine sc rfl ?_ | refine so rfl ?_)
      refine C_true rfl rfl ?_
      repeat (first | refine sc rfl ?_ | refine so rfl ?_)
      rw [w64 (x := (i : Int) + 1) (by omega) (by omega)]
      first
        | exact ⟨(i + 1, x, k, h1, h2), ⟨hi, g2, g3, g4, g5, g8, g6, g7⟩, by simp only []; omega, Le.pick [0, 0, 0, 0, 0] ⟨rfl, rfl, rfl, rfl, rfl, trivial⟩ rfl⟩
    | cons w ws =>
      rw [hW] at g7 hsum
      simp only [] at g7
      have hwn := words_ne hW
      obtain ⟨ch, wr, rfl⟩ : ∃ ch wr, w = ch :: wr := by cases w with
        | nil => exact absurd rfl hwn
        | cons a r => exact ⟨a, r, rfl⟩
      repeat (first | refine sc rfl ?_ | refine so rfl ?_)
      refine ⟨⟨Int.le_refl _, by simp only [List.length_cons]; omega⟩, ?_⟩
      repeat refine so rfl ?_
      refine ⟨⟨Int.le_refl _, by show (0 : Int) < (((ch :: wr).length : Nat) : Int); simp only [List.length_cons]; omega⟩, ?_⟩
      repeat refine so rfl ?_
      refine C_if rfl (fun m2 => ?_) (fun m2 => ?_) <;> simp only [pL] at m2
      · have hch : ch = 35 := by
          have h3 : ch.toNat = 35 := by
            have h4 : ((ch.toNat : Nat) : Int) = 35 := m2
            omega
          exact UInt8.toNat_inj.1 h3
        rw [if_pos (by rw [hch]; rfl)] at g7
        repeat (first | refine sc rfl ?_ | refine so rfl ?_)
        rw [w64 (x := (i : Int) + 1) (by omega) (by omega)]
        exact ⟨(i + 1, x, k, h1, h2), ⟨hi, g2, g3, g4, g5, g8, g6, g7⟩, by simp only []; omega, Le.pick [0, 0, 0, 0, 0] ⟨rfl, rfl, rfl, rfl, rfl, trivial⟩ rfl⟩
      rw [if_neg (by
        intro e
        simp only [List.head?_cons, Option.some.injEq] at e
        subst e
        exact m2 rfl)] at g7
      repeat (first | refine sc rfl ?_ | refine so rfl ?_)
      rw [w64 (x := (i : Int) + 1) (by omega) (by omega)]
      have hT : ((((ch :: wr) :: ws)).map fun w => w.length + 1).sum ≤ 1000000 := by omega
      have hT2 : (ws.map fun w => w.length + 1).sum ≤ 1000000 := by rw [List.map_cons, List.sum_cons] at hT; omega
      refine O_callA [3, 3] (rLine_A x k h1 h2 ((i + 1 : Nat) : Int) (ch :: wr) ws g6 g2 g3 g4 g5 hT) (by rfl) (by rfl) (by rfl) (by rfl) (by rfl) ?_
      have hq1 := rLineF_le x k ((i + 1 : Nat) : Int) (ch :: wr) ws x.evs.length (Nat.le_refl _) (by omega) g6 hT2
      have hq2 := rLineF_le2 x k ((i + 1 : Nat) : Int) (ch :: wr) ws g4 g5 g8
      generalize rLineF x k ((i + 1 : Nat) : Int) (ch :: wr) ws = Y at g7 hq1 hq2 ⊢
      obtain ⟨⟨y, ky⟩, e⟩ := Y
      simp only [] at g7 hq1 hq2
      rintro r' cs' ⟨a1, a2, k1, k2, rfl, rfl⟩
      simp only [] at k1 k2
      repeat (first | refine sc rfl ?_ | refine so rfl ?_)
      refine C_if rfl (fun m3 => ?_) (fun m3 => ?_) <;> simp only [pL] at m3
      · rw [if_pos m3] at g7
        subst g7
        refine C_le _ (Le.addAbs (vE (.slice none 0 0) [] 0) rfl (fun _ _ => ⟨[], ⟨rfl, .inl ⟨rfl, rfl⟩⟩, fun i hi => absurd hi (Nat.not_lt_zero _)⟩)) ?_
        refine C_le _ (Le.addAbs (vL (.slice none 0 0) [] 0) rfl (fun _ _ => ⟨[], ⟨rfl, .inl ⟨rfl, rfl⟩⟩, fun i hi => absurd hi (Nat.not_lt_zero _)⟩)) ?_
        repeat (first | refine sc rfl ?_ | refine so rfl ?_)
        rw [w64 (x := (i : Int) + 1) (by omega) (by omega)]
        repeat refine sc rfl ?_
        exact ⟨_, [_, _], _, rfl, pickA_perm (is := [3, 2]) (As := [_, _]) rfl, rfl, ⟨.slice none 0 0, .slice none 0 0, .inl ⟨rfl, rfl⟩, .inl ⟨rfl, rfl⟩, rfl, rfl⟩⟩
      rw [if_neg (fun h => h m3)] at g7
      repeat (first | refine sc rfl ?_ | refine so rfl ?_)
      rw [w64 (x := (i : Int) + 1) (by omega) (by omega)]
      exact ⟨(i + 1, y, ky, a1, a2), ⟨hi, k1, k2, hq2.1, hq2.2.1, hq2.2.2, hq1.2.2, g7⟩, by simp only []; omega, Le.pick [4, 4, 0, 1, 1] ⟨rfl, rfl, rfl, rfl, rfl, trivial⟩ rfl⟩
  · obtain rfl : i = L.length := by omega
    rw [List.drop_length] at g7
    unfold rdR at g7
    subst g7
    repeat (first | refine sc rfl ?_ | refine so rfl ?_)
    exact ⟨_, [_, _], _, rfl, pickA_perm (is := [3, 3]) (As := [_, _]) rfl, rfl, ⟨h1, h2, g2, g3, rfl, rfl⟩⟩
end Go.Proofs

namespace Go.Proofs
open Go.Sy Go.Lib

def ltV (c : UInt8) (q : Cu) : Nat × List UInt8 :=
  if c = 70 then (0, bytesV q) else if c = 83 then (0, wordV q) else if c = 84 then (0, restV q) else if c = 78 then (numV q, wordV q) else (smallV (mostF c) q, wordV q)
def ltC (c : UInt8) (q : Cu) : Cu :=
  if c = 70 then bytesC q else if c = 83 then wordC q else if c = 84 then restC q else if c = 78 then numC q else smallC (mostF c) q
def ltEnd : List UInt8 → Cu → Cu
  | [], q => q
  | c :: r, q => ltEnd r (ltC c q)
def ltVs : List UInt8 → Cu → List Nat × List (List UInt8)
  | [], _ => ([], [])
  | c :: r, q => ((ltV c q).1 :: (ltVs r (ltC c q)).1, (ltV c q).2 :: (ltVs r (ltC c q)).2)
theorem ltC_bad (c : UInt8) (l : List (List UInt8)) : (ltC c (l, true)).2 = true := by
  unfold ltC
  repeat' split
  all_goals simp [bytesC, wordC, restC, numC, smallC]
theorem ltC_nil (c : UInt8) (b : Bool) (h : c ≠ 84) : (ltC c ([], b)).2 = true := by
  unfold ltC
  by_cases h70 : c = 70
  · rw [if_pos h70]; simp [bytesC]
  rw [if_neg h70]
  by_cases h83 : c = 83
  · rw [if_pos h83]; simp [wordC]
  rw [if_neg h83, if_neg h]
  by_cases h78 : c = 78
  · rw [if_pos h78]; simp [numC]
  rw [if_neg h78]; simp [smallC]
theorem ltEnd_bad : ∀ (sh : List UInt8) (q : Cu), q.2 = true → (ltEnd sh q).2 = true
  | [], q, h => h
  | c :: r, (l, b), h => by
    have hb : b = true := h
    subst hb
    exact ltEnd_bad r _ (ltC_bad c l)
theorem doneB_bad {q : Cu} (h : q.2 = true) : doneB q = false := by unfold doneB; rw [h]; rfl
theorem bytes_eq (w : List UInt8) (hw : w ≠ []) : (bytesF w).2 = !(rBytF w).2 ∧ ((rBytF w).2 = true → (bytesF w).1 = (rBytF w).1) := by
  unfold bytesF rBytF
  by_cases h : w = [45]
  · rw [if_pos h, if_pos h]; exact ⟨rfl, fun _ => rfl⟩
  rw [if_neg h, if_neg h]
  by_cases ho : w.length % 2 ≠ 0
  · rw [if_pos (.inr ho)]
    cases hexL w with
    | none => exact ⟨rfl, fun h => by cases h⟩
    | some a => exact ⟨by simp [ho], fun h => by cases h⟩
  · rw [if_neg (by rintro (h | h); exact hw h; exact ho h)]
    cases hexL w with
    | none => exact ⟨rfl, fun h => by cases h⟩
    | some a => exact ⟨by simp at ho; simp [ho], fun _ => rfl⟩
theorem lt_one (c : UInt8) (w : List UInt8) (ws : List (List UInt8)) (hw : w ≠ []) (h84 : c ≠ 84) : match take1 c w with
    | some (n, z) => ltC c (w :: ws, false) = (ws, false) ∧ ltV c (w :: ws, false) = (n, z)
    | none => (ltC c (w :: ws, false)).2 = true := by
  unfold take1 rawT ltC ltV
  by_cases h70 : c = 70
  · obtain ⟨b1, b2⟩ := bytes_eq w hw
    simp only [if_pos h70]
    by_cases hb : (rBytF w).2 = true
    · rw [if_pos hb]
      simp only []
      have b3 := b2 hb
      rw [hb] at b1
      simp only [bytesC, bytesV, List.headD_cons, List.tail_cons, b1, b3, List.isEmpty_cons]
      exact ⟨rfl, trivial⟩
    · rw [if_neg hb]
      have hb2 : (rBytF w).2 = false := by cases h : (rBytF w).2 with | true => exact absurd h hb | false => rfl
      rw [hb2] at b1
      simp only [bytesC, List.headD_cons, b1, List.isEmpty_cons]
      rfl
  simp only [if_neg h70]
  by_cases h83 : c = 83
  · simp only [if_pos h83]
    exact ⟨rfl, rfl⟩
  simp only [if_neg h83, if_neg h84]
  rw [rNumF_eq w hw]
  have hlt : ∀ n, numF w = some n → n < 18446744073709551616 := fun n h => numF_lt h
  by_cases h78 : c = 78
  · simp only [if_pos h78]
    subst h78
    cases hn : numF w with
    | none => simp [numC, hn]
    | some n =>
      have := hlt n hn
      have hm : n ≤ mostF 78 := by show n ≤ 18446744073709551615; omega
      simp [numC, numV, hn, hm, wordV]
  simp only [if_neg h78]
  cases hn : numF w with
  | none => simp [smallC, smallF, hn]
  | some n =>
    by_cases hm : n ≤ mostF c
    · have : ¬ mostF c < n := by omega
      simp [smallC, smallV, smallF, hn, hm, this, wordV]
    · have : mostF c < n := by omega
      simp [smallC, smallF, hn, hm, this]
theorem lt_all : ∀ (sh : List UInt8) (l : List (List UInt8)), tLast sh = true → (∀ w ∈ l, w ≠ []) → (takeL sh l).2.2 = doneB (ltEnd sh (l, false)) ∧ ((takeL sh l).2.2 = true → (takeL sh l).1 = (ltVs sh (l, false)).1 ∧ (takeL sh l).2.1 = (ltVs sh (l, false)).2)
  | [], l, _, _ => by
    refine ⟨?_, fun _ => ⟨rfl, rfl⟩⟩
    unfold takeL ltEnd doneB
    simp
  | c :: r, l, ht, hw => by
    simp only [tLast, Bool.and_eq_true, Bool.or_eq_true, Bool.not_eq_true', beq_eq_false_iff_ne, List.isEmpty_iff] at ht
    unfold takeL ltEnd ltVs
    by_cases h84 : c = 84
    · rw [if_pos h84]
      subst h84
      rcases ht.1 with h | h
      · exact absurd rfl h
      subst h
      exact ⟨rfl, fun _ => ⟨rfl, rfl⟩⟩
    rw [if_neg h84]
    cases l with
    | nil =>
      refine ⟨?_, fun h => by cases h⟩
      exact (doneB_bad (ltEnd_bad r _ (ltC_nil c false h84))).symm
    | cons w ws =>
      have h1 := lt_one c w ws (hw w (by simp)) h84
      simp only []
      cases e : take1 c w with
      | none =>
        rw [e] at h1
        refine ⟨?_, fun h => by cases h⟩
        exact (doneB_bad (ltEnd_bad r _ h1)).symm
      | some q =>
        obtain ⟨n, z⟩ := q
        rw [e] at h1
        simp only [] at h1 ⊢
        rw [h1.1, h1.2]
        obtain ⟨g1, g2⟩ := lt_all r ws ht.2 (fun v hv => hw v (by simp [hv]))
        refine ⟨g1, fun h => ?_⟩
        obtain ⟨g3, g4⟩ := g2 h
        exact ⟨by rw [g3], by rw [g4]⟩
end Go.Proofs

namespace Go.Proofs
open Go.Sy Go.Lib

def EvSame (d : Bool) (a b : Evt × Int) : Prop := (d = false → a.2 = 1) ∧ (d = true → a.2 = b.2 ∧ (a.2 = 0 → a.1 = b.1))
theorem plain_same (d : Bool) (v : Evt) (b : Evt × Int) (hb : b = (v, 0)) : EvSame d (v, if d = true then 0 else 1) b := by
  subst hb
  cases d
  · exact ⟨fun _ => rfl, (fun h => by cases h)⟩
  · exact ⟨(fun h => by cases h), fun _ => ⟨rfl, fun _ => rfl⟩⟩
theorem come_same (d : Bool) (cn k : Int) (body : List UInt8) (b : Evt × Int) (hk : k ≠ 0) (hb : b = (⟨2, cn, 0, fputL k 0 body⟩, fputE k 0 body)) : EvSame d (comeV cn (k, body, 0) d) b := by
  subst hb
  unfold comeV
  rw [if_neg hk]
  cases d
  · rw [if_pos (.inl rfl)]
    exact ⟨fun _ => rfl, (fun h => by cases h)⟩
  · rw [if_neg (by rintro (h | h); cases h; exact h rfl)]
    exact ⟨(fun h => by cases h), fun _ => ⟨rfl, fun _ => rfl⟩⟩
theorem come_same2 (d : Bool) (cn : Int) (P : List UInt8 × Int) (Q : List UInt8 × Bool) (b : Evt × Int) (h1 : Q.2 = (P.2 == 0)) (h2 : P.2 = 0 → Q.1 = P.1) (hb : b = if Q.2 = false then (⟨0, 0, 0, []⟩, 1) else (⟨2, cn, 0, fputL 8 0 Q.1⟩, fputE 8 0 Q.1)) : EvSame d (comeV cn (8, P) d) b := by
  subst hb
  unfold comeV
  rw [if_neg (show ¬ ((8 : Int), P).1 = 0 from (by decide : ¬ (8 : Int) = 0))]
  cases d
  · rw [if_pos (.inl rfl)]
    exact ⟨fun _ => rfl, (fun h => by cases h)⟩
  · by_cases h : P.2 = 0
    · rw [if_neg (by rintro (g | g); cases g; exact g h)]
      have hq : Q.2 = true := by rw [h1]; simp [h]
      rw [if_neg (by rw [hq]; decide), h2 h]
      exact ⟨(fun h => by cases h), fun _ => ⟨rfl, fun _ => rfl⟩⟩
    · rw [if_pos (.inr h)]
      have hq : Q.2 = false := by rw [h1]; simp [h]
      rw [if_pos hq]
      exact ⟨(fun h => by cases h), fun _ => ⟨rfl, (fun h => by cases h)⟩⟩
theorem ordP_bad (id : Nat) (op owner : Int) (V : List Int) (hc : configF op = true) (h : (confOfF V).2 ≠ 0) : (ordP id op owner (confOfF V).1).2 ≠ 0 := by
  have hd : (confOfF V).1 = default := by
    unfold confOfF at h ⊢
    split
    · rename_i h9
      rw [if_pos h9] at h
      unfold confOfV at h ⊢
      split
      · rename_i h0; rw [if_pos h0] at h; exact absurd rfl h
      · rfl
    · rfl
  have hf : formF op owner default ≠ 0 := by
    unfold formF
    split
    · decide
    · first | decide | (rw [if_pos hc]; decide)
  rw [hd]
  unfold ordP
  rw [if_neg hf]
  decide
theorem lcons_eq {α : Type} {a b : α} {l m : List α} (h : a = b) (k : l = m) : a :: l = b :: m := by rw [h, k]
theorem i64_small {n : Nat} (h : n ≤ 1048576) : IntKind.i64.wrap ((n : Nat) : Int) = (n : Int) := w64 (by omega) (by omega)
theorem ord_same1 (op : Int) (hc : configF op = true) (p : Cu) (N : List Nat) (hid : N.getD 1 0 = numV p) (how : N.getD 2 0 = smallV 8 (numC p)) (hN : intsF N 3 = vI (smallC 8 (numC p)) 9) : (rOrdF op N).2 = ((orderV op p).2 == 0) ∧ ((orderV op p).2 = 0 → (rOrdF op N).1 = (orderV op p).1) := by
  have h8 := smallV_le 8 (numC p)
  unfold rOrdF orderV ordX
  rw [if_pos hc, if_pos hc, hid, how, hN, i64_small (by omega)]
  by_cases he : (confOfF (vI (smallC 8 (numC p)) 9)).2 ≠ 0
  · rw [if_pos he]
    have hb := ordP_bad (numV p) op ((smallV 8 (numC p) : Nat) : Int) _ hc he
    exact ⟨by simp [hb], fun h => absurd h hb⟩
  · rw [if_neg he]
    exact ⟨rfl, fun _ => rfl⟩
theorem ord_same2 (op : Int) (hc : configF op = false) (p : Cu) (N : List Nat) (hid : N.getD 1 0 = numV p) (how : N.getD 2 0 = smallV 8 (numC p)) : (rOrdF op N).2 = ((orderV op p).2 == 0) ∧ ((orderV op p).2 = 0 → (rOrdF op N).1 = (orderV op p).1) := by
  have h8 := smallV_le 8 (numC p)
  unfold rOrdF orderV ordX
  rw [if_neg (by rw [hc]; decide), if_neg (by rw [hc]; decide), hid, how, i64_small (by omega)]
  exact ⟨rfl, fun _ => rfl⟩
attribute [local irreducible] mixF
theorem verb_same (key : Nat) (w sh : List UInt8) (q : Cu) (hs : shapeF w = some sh) (hk : w ≠ [107, 101, 121]) : EvSame (doneB (ltEnd sh q)) (readF (key : Int) w q).1 (rEventF key w (ltVs sh q).1 (ltVs sh q).2) := by
  by_cases e1 : w = [111, 112, 101, 110]
  · subst e1
    obtain rfl : sh = [] := Option.some.inj (hs.symm.trans (show shapeF _ = _ from rfl))
    exact plain_same _ _ _ rfl
  by_cases e2 : w = [116, 105, 99, 107]
  · subst e2
    obtain rfl : sh = [] := Option.some.inj (hs.symm.trans (show shapeF _ = _ from rfl))
    exact plain_same _ _ _ rfl
  by_cases e3 : w = [115, 101, 114, 118, 101]
  · subst e3
    obtain rfl : sh = [] := Option.some.inj (hs.symm.trans (show shapeF _ = _ from rfl))
    exact plain_same _ _ _ rfl
  by_cases e4 : w = [100, 114, 97, 119]
  · subst e4
    obtain rfl : sh = [78] := Option.some.inj (hs.symm.trans (show shapeF _ = _ from rfl))
    exact plain_same _ _ _ rfl
  by_cases e5 : w = [100, 101, 108, 105, 118, 101, 114]
  · subst e5
    obtain rfl : sh = [67] := Option.some.inj (hs.symm.trans (show shapeF _ = _ from rfl))
    exact plain_same _ _ _ rfl
  by_cases e6 : w = [114, 101, 115, 101, 116]
  · subst e6
    obtain rfl : sh = [67] := Option.some.inj (hs.symm.trans (show shapeF _ = _ from rfl))
    exact plain_same _ _ _ rfl
  by_cases e7 : w = [114, 97, 119]
  · subst e7
    obtain rfl : sh = [67, 70] := Option.some.inj (hs.symm.trans (show shapeF _ = _ from rfl))
    exact plain_same _ _ _ rfl
  by_cases e8 : w = [104, 101, 108, 108, 111]
  · subst e8
    obtain rfl : sh = [67, 79, 87, 78] := Option.some.inj (hs.symm.trans (show shapeF _ = _ from rfl))
    exact come_same _ _ _ _ _ (by decide) rfl
  by_cases e9 : w = [98, 111, 115, 115]
  · subst e9
    obtain rfl : sh = [67] := Option.some.inj (hs.symm.trans (show shapeF _ = _ from rfl))
    exact come_same _ _ _ _ _ (by decide) rfl
  by_cases e10 : w = [112, 105, 110, 103]
  · subst e10
    obtain rfl : sh = [67] := Option.some.inj (hs.symm.trans (show shapeF _ = _ from rfl))
    exact come_same _ _ _ _ _ (by decide) rfl
  by_cases e11 : w = [99, 97, 108, 108]
  · subst e11
    obtain rfl : sh = [67, 78, 87, 87, 70] := Option.some.inj (hs.symm.trans (show shapeF _ = _ from rfl))
    exact come_same _ _ _ _ _ (by decide) rfl
  by_cases e12 : w = [111, 110, 101, 119, 97, 121]
  · subst e12
    obtain rfl : sh = [67, 78, 87, 87, 70] := Option.some.inj (hs.symm.trans (show shapeF _ = _ from rfl))
    exact come_same _ _ _ _ _ (by decide) rfl
  by_cases e13 : w = [99, 97, 110, 99, 101, 108]
  · subst e13
    obtain rfl : sh = [67, 78] := Option.some.inj (hs.symm.trans (show shapeF _ = _ from rfl))
    exact come_same _ _ _ _ _ (by decide) rfl
  by_cases e14 : w = [115, 99, 104, 101, 109, 97]
  · subst e14
    obtain rfl : sh = [67, 78, 84] := Option.some.inj (hs.symm.trans (show shapeF _ = _ from rfl))
    exact come_same _ _ _ _ _ (by decide) rfl
  by_cases e15 : w = [98, 105, 110, 100]
  · subst e15
    obtain rfl : sh = [67, 78, 87, 83, 83, 87] := Option.some.inj (hs.symm.trans (show shapeF _ = _ from rfl))
    exact come_same _ _ _ _ _ (by decide) rfl
  by_cases e16 : w = [99, 114, 101, 97, 116, 101]
  · subst e16
    obtain rfl : sh = [67, 78, 79, 87, 87, 87, 87, 87, 87, 87, 87, 87] := Option.some.inj (hs.symm.trans (show shapeF _ = _ from rfl))
    have hN : intsF (ltVs [67, 78, 79, 87, 87, 87, 87, 87, 87, 87, 87, 87] q).1 3 = vI (smallC 8 (numC (smallC 15 q))) 9 := by
      show [_, _, _, _, _, _, _, _, _] = [_, _, _, _, _, _, _, _, _]
      exact lcons_eq (i64_small (smallV_le 1048576 _)) (lcons_eq (i64_small (smallV_le 1048576 _)) (lcons_eq (i64_small (smallV_le 1048576 _)) (lcons_eq (i64_small (smallV_le 1048576 _)) (lcons_eq (i64_small (smallV_le 1048576 _)) (lcons_eq (i64_small (smallV_le 1048576 _)) (lcons_eq (i64_small (smallV_le 1048576 _)) (lcons_eq (i64_small (smallV_le 1048576 _)) (lcons_eq (i64_small (smallV_le 1048576 _)) rfl))))))))
    obtain ⟨g1, g2⟩ := ord_same1 1 rfl (smallC 15 q) (ltVs [67, 78, 79, 87, 87, 87, 87, 87, 87, 87, 87, 87] q).1 rfl rfl hN
    exact come_same2 _ _ _ _ _ g1 g2 rfl
  by_cases e17 : w = [115, 117, 115, 112, 101, 110, 100]
  · subst e17
    obtain rfl : sh = [67, 78, 79] := Option.some.inj (hs.symm.trans (show shapeF _ = _ from rfl))
    obtain ⟨g1, g2⟩ := ord_same2 2 rfl (smallC 15 q) (ltVs [67, 78, 79] q).1 rfl rfl
    exact come_same2 _ _ _ _ _ g1 g2 rfl
  by_cases e18 : w = [114, 101, 115, 117, 109, 101]
  · subst e18
    obtain rfl : sh = [67, 78, 79] := Option.some.inj (hs.symm.trans (show shapeF _ = _ from rfl))
    obtain ⟨g1, g2⟩ := ord_same2 3 rfl (smallC 15 q) (ltVs [67, 78, 79] q).1 rfl rfl
    exact come_same2 _ _ _ _ _ g1 g2 rfl
  by_cases e19 : w = [100, 101, 108, 101, 116, 101]
  · subst e19
    obtain rfl : sh = [67, 78, 79] := Option.some.inj (hs.symm.trans (show shapeF _ = _ from rfl))
    obtain ⟨g1, g2⟩ := ord_same2 4 rfl (smallC 15 q) (ltVs [67, 78, 79] q).1 rfl rfl
    exact come_same2 _ _ _ _ _ g1 g2 rfl
  by_cases e20 : w = [114, 101, 107, 101, 121]
  · subst e20
    obtain rfl : sh = [67, 78, 79] := Option.some.inj (hs.symm.trans (show shapeF _ = _ from rfl))
    obtain ⟨g1, g2⟩ := ord_same2 5 rfl (smallC 15 q) (ltVs [67, 78, 79] q).1 rfl rfl
    exact come_same2 _ _ _ _ _ g1 g2 rfl
  by_cases e21 : w = [113, 117, 111, 116, 97]
  · subst e21
    obtain rfl : sh = [67, 78, 79, 87, 87, 87, 87, 87, 87, 87, 87, 87] := Option.some.inj (hs.symm.trans (show shapeF _ = _ from rfl))
    have hN : intsF (ltVs [67, 78, 79, 87, 87, 87, 87, 87, 87, 87, 87, 87] q).1 3 = vI (smallC 8 (numC (smallC 15 q))) 9 := by
      show [_, _, _, _, _, _, _, _, _] = [_, _, _, _, _, _, _, _, _]
      exact lcons_eq (i64_small (smallV_le 1048576 _)) (lcons_eq (i64_small (smallV_le 1048576 _)) (lcons_eq (i64_small (smallV_le 1048576 _)) (lcons_eq (i64_small (smallV_le 1048576 _)) (lcons_eq (i64_small (smallV_le 1048576 _)) (lcons_eq (i64_small (smallV_le 1048576 _)) (lcons_eq (i64_small (smallV_le 1048576 _)) (lcons_eq (i64_small (smallV_le 1048576 _)) (lcons_eq (i64_small (smallV_le 1048576 _)) rfl))))))))
    obtain ⟨g1, g2⟩ := ord_same1 6 rfl (smallC 15 q) (ltVs [67, 78, 79, 87, 87, 87, 87, 87, 87, 87, 87, 87] q).1 rfl rfl hN
    exact come_same2 _ _ _ _ _ g1 g2 rfl
  exfalso
  unfold shapeF at hs
  simp only [hk, e1, e2, e3, e4, e5, e6, e7, e8, e9, e10, e11, e12, e13, e14, e15, e16, e17, e18, e19, e20, e21, or_self, if_false] at hs
  cases hs
end Go.Proofs

namespace Go.Proofs
open Go.Sy Go.Lib

attribute [local irreducible] mixF
theorem none_verb (key : Int) (w : List UInt8) (q : Cu) (hs : shapeF w = none) : (readF key w q).1.2 = 6 ∧ w ≠ [107, 101, 121] := by
  have a1 : w ≠ [111, 112, 101, 110] := by rintro rfl; cases hs
  have a2 : w ≠ [116, 105, 99, 107] := by rintro rfl; cases hs
  have a3 : w ≠ [115, 101, 114, 118, 101] := by rintro rfl; cases hs
  have a4 : w ≠ [100, 114, 97, 119] := by rintro rfl; cases hs
  have a5 : w ≠ [100, 101, 108, 105, 118, 101, 114] := by rintro rfl; cases hs
  have a6 : w ≠ [114, 101, 115, 101, 116] := by rintro rfl; cases hs
  have a7 : w ≠ [114, 97, 119] := by rintro rfl; cases hs
  have b1 : w ≠ [104, 101, 108, 108, 111] := by rintro rfl; cases hs
  have b2 : w ≠ [98, 111, 115, 115] := by rintro rfl; cases hs
  have b3 : w ≠ [112, 105, 110, 103] := by rintro rfl; cases hs
  have b4 : w ≠ [99, 97, 108, 108] := by rintro rfl; cases hs
  have b5 : w ≠ [111, 110, 101, 119, 97, 121] := by rintro rfl; cases hs
  have b6 : w ≠ [99, 97, 110, 99, 101, 108] := by rintro rfl; cases hs
  have b7 : w ≠ [115, 99, 104, 101, 109, 97] := by rintro rfl; cases hs
  have b8 : w ≠ [98, 105, 110, 100] := by rintro rfl; cases hs
  have c1 : w ≠ [99, 114, 101, 97, 116, 101] := by rintro rfl; cases hs
  have c2 : w ≠ [115, 117, 115, 112, 101, 110, 100] := by rintro rfl; cases hs
  have c3 : w ≠ [114, 101, 115, 117, 109, 101] := by rintro rfl; cases hs
  have c4 : w ≠ [100, 101, 108, 101, 116, 101] := by rintro rfl; cases hs
  have c5 : w ≠ [114, 101, 107, 101, 121] := by rintro rfl; cases hs
  have c6 : w ≠ [113, 117, 111, 116, 97] := by rintro rfl; cases hs
  have d1 : w ≠ [107, 101, 121] := by rintro rfl; cases hs
  refine ⟨?_, d1⟩
  have hp : plainV w q = none := by
    unfold plainV
    rw [if_neg a1, if_neg a2, if_neg a3, if_neg a4, if_neg a5, if_neg a6, if_neg a7]
  have ho : opF w = 0 := by
    unfold opF
    rw [if_neg c1, if_neg c2, if_neg c3, if_neg c4, if_neg c5, if_neg c6]
  have hb : ∀ p, (bodyF key w p).1 = (0, [], 6) := fun p => by
    unfold bodyF
    rw [ho, if_neg (by decide), if_neg b1, if_neg b2, if_neg b3, if_neg b4, if_neg b5, if_neg b6, if_neg b7, if_neg b8]
  unfold readF
  rw [hp]
  show (comeF key w q).2 = 6
  unfold comeF
  rw [hb]
  rfl
theorem rLineF_some {x : Sht} {k : Bool} {n : Int} {w sh : List UInt8} {ws : List (List UInt8)} (hs : shapeF w = some sh) : rLineF x k n w ws = if w = [107, 101, 121] ∧ (k = true ∨ 0 < x.evs.length) then ((x, k), 17)
    else if (takeL sh ws).2.2 = false then ((x, k), 1)
    else if w = [107, 101, 121] then ((⟨(takeL sh ws).1.getD 0 0, x.evs, x.lns⟩, true), 0)
    else if (rEventF x.key w (takeL sh ws).1 (takeL sh ws).2.1).2 ≠ 0 then ((x, k), (rEventF x.key w (takeL sh ws).1 (takeL sh ws).2.1).2)
    else if 1024 ≤ x.evs.length then ((x, k), 3)
    else ((⟨x.key, x.evs ++ [(rEventF x.key w (takeL sh ws).1 (takeL sh ws).2.1).1], x.lns ++ [n]⟩, k), 0) := by
  unfold rLineF
  rw [hs]
theorem line_same (x : Sht) (n : Int) (k : Bool) (w : List UInt8) (ws : List (List UInt8)) (hw : ∀ v ∈ ws, v ≠ []) (he : x.evs.length ≤ 1024) :
    (addF x n k (w :: ws, false)).2 = (rLineF x k n w ws).2 ∧ ((rLineF x k n w ws).2 = 0 → (addF x n k (w :: ws, false)).1 = (rLineF x k n w ws).1.1 ∧ (rLineF x k n w ws).1.2 = (k || (w == [107, 101, 121]))) := by
  have hV : wordV (w :: ws, false) = w := rfl
  have hC : wordC (w :: ws, false) = (ws, false) := rfl
  have bad : ∀ (e : Int) (z : Sht) (b : Bool), e ≠ 0 → addF x n k (w :: ws, false) = (x, e) → rLineF x k n w ws = ((z, b), e) → (addF x n k (w :: ws, false)).2 = (rLineF x k n w ws).2 ∧ ((rLineF x k n w ws).2 = 0 → (addF x n k (w :: ws, false)).1 = (rLineF x k n w ws).1.1 ∧ (rLineF x k n w ws).1.2 = (k || (w == [107, 101, 121]))) := fun e z b h1 h2 h3 => by
    rw [h2, h3]
    exact ⟨rfl, fun h => absurd h h1⟩
  cases hs : shapeF w with
  | none =>
    obtain ⟨h6, hk⟩ := none_verb (x.key : Int) w (ws, false) hs
    refine bad 6 x k (by decide) ?_ ?_
    · unfold addF
      rw [hV, hC, if_neg hk, if_pos (by rw [h6]; decide), h6]
    · unfold rLineF
      rw [hs]
  | some sh =>
    obtain ⟨t1, t2⟩ := lt_all sh ws (shapeF_last hs) hw
    have hR := rLineF_some (x := x) (k := k) (n := n) (ws := ws) hs
    by_cases hk : w = [107, 101, 121]
    · by_cases hks : k = true ∨ 0 < x.evs.length
      · refine bad 17 x k (by decide) ?_ ?_
        · unfold addF
          rw [hV, if_pos hk, if_pos hks]
        · rw [hR, if_pos ⟨hk, hks⟩]
      rw [if_neg (fun h => hks h.2)] at hR
      have hsh : sh = [78] := by rw [hk] at hs; exact Option.some.inj (hs.symm.trans (show shapeF _ = _ from rfl))
      subst hsh
      have t3 : (takeL [78] ws).2.2 = doneB (numC (ws, false)) := t1
      have hA : addF x n k (w :: ws, false) = (⟨numV (ws, false), x.evs, x.lns⟩, if doneB (numC (ws, false)) = true then 0 else 1) := by
        unfold addF
        rw [hV, hC, if_pos hk, if_neg hks]
      cases hok : (takeL [78] ws).2.2 with
      | false =>
        rw [if_pos hok] at hR
        rw [← t3, hok] at hA
        rw [hA, hR]
        exact ⟨rfl, fun h => absurd h (show ¬ (1 : Int) = 0 by decide)⟩
      | true =>
        rw [if_neg (by rw [hok]; decide), if_pos hk] at hR
        rw [← t3, hok] at hA
        obtain ⟨t4, _⟩ := t2 hok
        rw [hA, hR, t4]
        exact ⟨rfl, fun _ => ⟨rfl, by rw [hk]; cases k <;> rfl⟩⟩
    · rw [if_neg (fun h => hk h.1)] at hR
      have hkb : (w == [107, 101, 121]) = false := by simpa using hk
      obtain ⟨v1, v2⟩ := verb_same x.key w sh (ws, false) hs hk
      cases hok : (takeL sh ws).2.2 with
      | false =>
        rw [if_pos hok] at hR
        rw [hok] at t1
        have e1 := v1 t1.symm
        refine bad 1 x k (by decide) ?_ hR
        unfold addF
        rw [hV, hC, if_neg hk, if_pos (by rw [e1]; decide), e1]
      | true =>
        rw [if_neg (by rw [hok]; decide), if_neg hk] at hR
        rw [hok] at t1
        obtain ⟨e1, e2⟩ := v2 t1.symm
        obtain ⟨t4, t5⟩ := t2 hok
        rw [t4, t5, ← e1] at hR
        by_cases h0 : (readF (x.key : Int) w (ws, false)).1.2 = 0
        · rw [if_neg (fun h => h h0)] at hR
          by_cases hl : x.evs.length = 1024
          · rw [if_pos (by omega)] at hR
            refine bad 3 x k (by decide) ?_ hR
            unfold addF
            rw [hV, hC, if_neg hk, if_neg (fun h => h h0), if_pos hl]
          · rw [if_neg (by omega), ← e2 h0] at hR
            have hA : addF x n k (w :: ws, false) = (⟨x.key, x.evs ++ [(readF (x.key : Int) w (ws, false)).1.1], x.lns ++ [n]⟩, 0) := by
              unfold addF
              rw [hV, hC, if_neg hk, if_neg (fun h => h h0), if_neg hl]
            rw [hA, hR]
            exact ⟨rfl, fun _ => ⟨rfl, by rw [hkb, Bool.or_false]⟩⟩
        · rw [if_pos h0] at hR
          refine bad _ x k h0 ?_ hR
          unfold addF
          rw [hV, hC, if_neg hk, if_pos h0]
theorem words_all (l : List UInt8) : ∀ v ∈ wordsF l, v ≠ [] := fun v hv => by
  unfold wordsF at hv
  have h2 := (List.mem_filter.1 hv).2
  unfold notE at h2
  intro e
  rw [e] at h2
  exact absurd h2 (by decide)
theorem read_same : ∀ (L : List (List UInt8)) (i : Nat) (x : Sht) (k : Bool), x.evs.length ≤ 1024 → x.lns.length ≤ 1024 → x.evs.length = x.lns.length → (rdR i x k L).1.1 = (rdL i x k L).1 ∧ (rdR i x k L).2 = (rdL i x k L).2
  | [], i, x, k, _, _, _ => ⟨rfl, rfl⟩
  | l :: r, i, x, k, h1, h2, h3 => by
    unfold rdR
    rw [rdL_cons]
    unfold stL
    have hwa := words_all l
    cases hW : wordsF l with
    | nil =>
      simp only []
      rw [if_neg (fun h => h rfl)]
      exact read_same r (i + 1) x k h1 h2 h3
    | cons w ws =>
      rw [hW] at hwa
      simp only []
      by_cases h35 : w.head? = some 35
      · rw [if_pos h35, if_pos h35, if_neg (fun h => h rfl)]
        exact read_same r (i + 1) x k h1 h2 h3
      rw [if_neg h35, if_neg h35]
      simp only []
      obtain ⟨e1, e2⟩ := line_same x ((i + 1 : Nat) : Int) k w ws (fun v hv => hwa v (by simp [hv])) h1
      rw [e1]
      by_cases h0 : (rLineF x k ((i + 1 : Nat) : Int) w ws).2 = 0
      · rw [if_neg (fun h => h h0), if_neg (fun h => h h0)]
        obtain ⟨e3, e4⟩ := e2 h0
        rw [e3, ← e4]
        obtain ⟨l1, l2, l3⟩ := rLineF_le2 x k ((i + 1 : Nat) : Int) w ws h1 h2 h3
        exact read_same r (i + 1) _ _ l1 l2 l3
      · rw [if_pos h0, if_pos h0]
        exact ⟨rfl, rfl⟩
theorem reads_same (s : List UInt8) : (rdR 0 Sht.nil false (spl 10 s)).1.1 = (readS s).1 ∧ (rdR 0 Sht.nil false (spl 10 s)).2 = (readS s).2 := read_same (spl 10 s) 0 Sht.nil false (Nat.zero_le _) (Nat.zero_le _) rfl
end Go.Proofs

namespace Go.Proofs
open Go.Sy Go.Lib

abbrev e1L : List UInt8 := [32, 32]
abbrev e2L : List UInt8 := [32, 35, 32, 97, 32, 110, 111, 116, 101]
section
variable (ks : Nat → Nat)
end
end Go.Proofs

namespace Go.Proofs
open Go.Sy Go.Lib

theorem addF_len (x : Sht) (n : Int) (k : Bool) (q : Cu) : (addF x n k q).1.evs.length ≤ x.evs.length + 1 := by
  unfold addF
  split
  · split <;> exact Nat.le_succ _
  · split
    · exact Nat.le_succ _
    · split
      · exact Nat.le_succ _
      · simp
theorem rdL_len : ∀ (L : List (List UInt8)) (i : Nat) (x : Sht) (k : Bool), (rdL i x k L).1.evs.length ≤ x.evs.length + L.length
  | [], _, _, _ => Nat.le_refl _
  | l :: r, i, x, k => by
    rw [rdL_cons]
    split
    · exact Nat.zero_le _
    · have h1 := rdL_len r (i + 1) (stL i x k l).1 (stL i x k l).2.1
      have h2 : (stL i x k l).1.evs.length ≤ x.evs.length + 1 := by
        unfold stL
        split
        · exact Nat.le_succ _
        · split
          · exact Nat.le_succ _
          · exact addF_len _ _ _ _
      rw [List.length_cons]
      omega
end Go.Proofs

namespace Go.Proofs
open Go.Sy Go.Lib

abbrev rrT (Y : (Sht × Bool) × Int × Nat) : AV := .tup [.agg [U64 (Y.1.1.key : Nat), B Y.1.2, SL 4 Evt.c Y.1.1.evs, SL 1 INTc Y.1.1.lns], .agg [I64 Y.2.1, I64 (Y.2.2 : Nat)]]
theorem rRead_P (s : List UInt8) (hs : s.length ≤ 100000) (hn : s.count 10 ≤ 1000) : FnP Tryz.prog 9 [.s s] (· = rrT (rdR 0 Sht.nil false (spl 10 s))) := by
  refine FnA.frz2 (rRead_A s hs hn) (fun r cs' ⟨h1, h2, _, _, hr, hc⟩ => ⟨h1, h2, hc, fun G v hv k1 k2 => ?_⟩)
  subst hr
  generalize rdR 0 Sht.nil false (spl 10 s) = Y at hv k1 k2 ⊢
  simp only [RepI, RepIT] at hv
  obtain ⟨ys, rfl, z1, t1, e1, ⟨y1, rfl, q1⟩, z2, t2, rfl, ⟨y2, rfl, q2⟩, rfl⟩ := hv
  simp only [RepIL] at q1
  obtain ⟨a1, b1, e2, r1, o1, a0, b0, rfl, r0, o0, a2, b2, rfl, r2, o2, a3, b3, rfl, r3, o3, rfl⟩ := q1
  simp only [RepI] at r2 r3
  subst r2; subst r3
  show RepI G (.tup [.agg [U64 (Y.1.1.key : Nat), B Y.1.2, SL 4 Evt.c Y.1.1.evs, SL 1 INTc Y.1.1.lns], .agg [I64 Y.2.1, I64 (Y.2.2 : Nat)]]) (.tuple ys)
  rw [RepI]
  refine ⟨ys, rfl, ?_⟩
  rw [RepIT]
  refine ⟨_, _, e1, ?_, ?_⟩
  · rw [RepI]
    refine ⟨y1, rfl, ?_⟩
    simp only [RepIL]
    exact ⟨a1, _, e2, r1, o1, _, _, rfl, r0, o0, _, _, rfl, k1, o2, _, _, rfl, k2, o3, rfl⟩
  · rw [RepIT]
    refine ⟨_, _, rfl, ?_, ?_⟩
    · rw [RepI]; exact ⟨y2, rfl, q2⟩
    · rw [RepIT]
theorem ints_c (l : List Int) (hl : l.length ≤ 1000000) : FnP Tryz.prog 11 [SL 1 INTc l, SL 1 INTc l] (· = B true) := by
  refine FnP.intro Tryz.tabOK Tryz.wide_ Tryz.func11 rfl (by decide) rfl (fun X => ?_)
  repeat (first | refine sc rfl ?_ | refine so rfl ?_)
  refine C_false rfl (by simp) ?_
  repeat (first | refine sc rfl ?_ | refine so rfl ?_)
  refine C_loop (fun i : Nat => ⟨[(0, SL 1 INTc l), (1, SL 1 INTc l), (5, I64 (i : Nat))], []⟩) (fun i => i ≤ l.length) (fun i => l.length - i) 0 (Nat.zero_le _) ?_ ?_
  · exact Le.pick [] ⟨rfl, rfl, rfl, trivial⟩ rfl
  intro i hi
  repeat (first | refine sc rfl ?_ | refine so rfl ?_)
  refine C_if rfl (fun k1 => ?_) (fun k1 => ?_) <;> simp only [pL] at k1
  · obtain ⟨v, hv⟩ : ∃ v, l.getD i default = v := ⟨_, rfl⟩
    repeat refine sc rfl ?_
    refine C_drawD rfl (by kernel_rfl) ?_
    repeat refine sd rfl ?_
    refine ⟨by omega, ?_⟩
    simp only [Int.toNat_natCast, hv]
    repeat refine sd rfl ?_
    refine ⟨by omega, ?_⟩
    simp only [Int.toNat_natCast, hv]
    repeat refine sd rfl ?_
    refine C_false rfl (by simp) ?_
    repeat (first | refine sc rfl ?_ | refine so rfl ?_)
    rw [w64 (x := (i : Int) + 1) (by omega) (by omega)]
    exact ⟨i + 1, by omega, by omega, Le.pick [] ⟨rfl, rfl, rfl, trivial⟩ rfl⟩
  · repeat (first | refine sc rfl ?_ | refine so rfl ?_)
    exact ⟨_, rfl, rfl, rfl⟩
theorem deskReads_W (s : List UInt8) : FnK 3 [.s s] [] (fun r cs' => r = B true ∧ cs' = []) := by
  refine FnW.intro Tryz.tabOK Tryz.wide_ Tryz.func3 rfl (by decide) rfl (fun X hK => ?_)
  repeat (first | refine sc rfl ?_ | refine so rfl ?_)
  refine O_call (much_c s) (by rfl) (by rfl) (by rfl) (by rfl) (fun r hr => ?_)
  subst hr
  repeat refine so rfl ?_
  refine C_if rfl (fun k1 => ?_) (fun k1 => ?_)
  · repeat refine sc rfl ?_
    refine O_callW hK [] awake50_W (by rfl) (by rfl) (by rfl) (by rfl) (by rfl) ?_
    rintro r' cs' ⟨rfl, rfl⟩
    repeat (first | refine sc rfl ?_ | refine so rfl ?_)
    exact ⟨_, [], _, rfl, pickA_perm (is := []) (As := []) rfl, rfl, rfl, rfl⟩
  obtain ⟨hlen, hcnt⟩ := much_le k1
  repeat (first | refine sc rfl ?_ | refine so rfl ?_)
  refine O_call (Read_P s (by omega) (by omega)) (by rfl) (by rfl) (by rfl) (by rfl) (fun r hr => ?_)
  subst hr
  repeat (first | refine sc rfl ?_ | refine so rfl ?_)
  refine O_call (rRead_P s (by omega) (by omega)) (by rfl) (by rfl) (by rfl) (by rfl) (fun r hr => ?_)
  subst hr
  have hevl : (readS s).1.evs.length ≤ 151 := by
    have h1 := rdL_len (spl 10 s) 0 Sht.nil false
    unfold readS
    have h0 : Sht.nil.evs.length = 0 := rfl
    have h2 : (spl 10 s).length ≤ 151 := by rw [spl_len]; omega
    omega
  have hlnl : (readS s).1.lns.length ≤ 151 := by
    have h1 := rdL_eq (spl 10 s) 0 Sht.nil false rfl
    unfold readS at hevl ⊢
    rw [← h1]; exact hevl
  obtain ⟨q1, q2⟩ := reads_same s
  generalize rdR 0 Sht.nil false (spl 10 s) = Y at q1 q2 ⊢
  generalize readS s = Z at q1 q2 hevl hlnl ⊢
  obtain ⟨⟨x, kk⟩, e, a⟩ := Y
  obtain ⟨z, e2, a2⟩ := Z
  simp only [Prod.mk.injEq] at q1 q2 hevl hlnl
  obtain ⟨rfl, rfl⟩ := q2
  subst q1
  repeat (first | refine sc rfl ?_ | refine so rfl ?_)
  refine O_true 25 rfl (by simp) ?_
  repeat refine so rfl ?_
  refine O_call (sameEvs_c x.evs (by omega)) (by rfl) (by rfl) (by rfl) (by rfl) (fun r hr => ?_)
  subst hr
  repeat refine so rfl ?_
  refine O_call (ints_c x.lns (by omega)) (by rfl) (by rfl) (by rfl) (by rfl) (fun r hr => ?_)
  subst hr
  repeat refine so rfl ?_
  refine O_Xd (X_aggC (us := fltV e ((a : Nat) : Int)) (vs := fltV e ((a : Nat) : Int)) (b := true) (op := .eql) (fun e2 ys h => rep_flt _ _ e2 ys h) (fun e2 ys h => rep_flt _ _ e2 ys h) (fun w => eq_flt _ _ w) Tryz.eqGuardType31 (.inl rfl) rfl rfl rfl rfl) ?_
  repeat refine so rfl ?_
  refine O_callW hK [] awake50_W (by rfl) (by rfl) (by rfl) (by rfl) (by rfl) ?_
  rintro r' cs' ⟨rfl, rfl⟩
  repeat (first | refine sc rfl ?_ | refine so rfl ?_)
  exact ⟨_, [], _, rfl, pickA_perm (is := []) (As := []) rfl, rfl, rfl, rfl⟩
end Go.Proofs
