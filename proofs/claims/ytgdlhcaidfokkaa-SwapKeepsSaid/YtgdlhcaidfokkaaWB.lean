/- Swaps, in plain words: events, who hears, streams. -/
import Derived.Test.YtgdlhcaidfokkaaW1
import Derived.Test.YtgdlhcaidfokkaaSA
import Derived.Test.YtgdlhcaidfokkaaWA
set_option linter.unusedSimpArgs false
set_option linter.unusedVariables false
set_option maxRecDepth 100000
namespace Go.Proofs
open Go.Sy Go.Lib

structure Ev where
  k : Int
  c : Int
  u : Int
  b : List UInt8
deriving Inhabited
def Ev.cells (e : Ev) : List AV := [I64 e.k, I64 e.c, .v (.int .u64 e.u), .s e.b]
structure Sw where
  c : Int
  n : Int
  b : List UInt8
deriving Inhabited
def Sw.cells (x : Sw) : List AV := [I64 x.c, I64 x.n, .s x.b]
abbrev INT (i : Nat) : List AV := [I64 (i : Int)]

def opn (l : List Ev) (i : Nat) : Nat := (l.take i).countP (fun e => e.k == 1)
def hears (l : List Ev) (i : Nat) (c : Int) : Bool := decide ((l.getD i default).k = 2 ∧ (l.getD i default).c = c ∧ 0 ≤ c ∧ c ≤ 15 ∧ c < (opn l i : Int))
def places (l : List Ev) (c : Int) (i : Nat) : List Nat := (List.range i).filter (fun j => hears l j c)
def strm (l : List Ev) (ps : List Nat) : List UInt8 := ps.flatMap (fun j => (l.getD j default).b)

theorem opn_zero (l : List Ev) : opn l 0 = 0 := by simp [opn]
theorem opn_succ (l : List Ev) (i : Nat) (hi : i < l.length) : opn l (i + 1) = opn l i + (if (l.getD i default).k = 1 then 1 else 0) := by
  unfold opn
  rw [List.take_add_one, List.countP_append]
  simp [List.getD, List.getElem?_eq_getElem hi, List.countP_cons]
theorem opn_le (l : List Ev) (i : Nat) : opn l i ≤ i := by
  unfold opn
  exact Nat.le_trans List.countP_le_length (by simp; omega)
theorem places_succ (l : List Ev) (c : Int) (i : Nat) : places l c (i + 1) = places l c i ++ (if hears l i c = true then [i] else []) := by
  unfold places
  rw [List.range_succ, List.filter_append]
  simp [List.filter_cons]
theorem places_len (l : List Ev) (c : Int) (i : Nat) : (places l c i).length ≤ i := by
  unfold places
  exact Nat.le_trans (List.length_filter_le _ _) (by simp)
theorem places_mem {l : List Ev} {c : Int} {i j : Nat} (h : j ∈ places l c i) : j < i ∧ hears l j c = true := by
  unfold places at h
  simpa using h

theorem heard_I (l : List Ev) (c : Int) (hl : l.length ≤ 1000000) : FnP Try.prog 97 [SL 4 Ev.cells l, I64 c] (· = SL 1 INT (places l c l.length)) := by
  refine FnP.intro Try.tabOK Try.wide_ Try.func97 rfl (by decide) rfl (fun X => ?_)
  repeat (first | refine sc rfl ?_ | refine so rfl ?_ | refine sb rfl ?_)
  refine C_loop (fun i : Nat => ⟨[(1, I64 c), (5, .own 45), (6, I64 (opn l i : Nat)), (9, SL 4 Ev.cells l), (10, I64 (l.length : Nat)), (11, I64 (i : Nat))], [VEC 45 3 1 INT (places l c i)]⟩) (fun i => i ≤ l.length) (fun i => l.length - i) 0 (Nat.zero_le _)
      ((Le.nilvec (α := Nat) INT 5 45 3 1 rfl rfl rfl).trans (Le.sub [45] ⟨rfl, rfl, rfl, rfl, rfl, rfl, trivial⟩ rfl)) ?_
  intro i hi
  have ho := opn_le l i
  have hpl := places_len l c i
  repeat (first | refine sc rfl ?_ | refine so rfl ?_ | refine sb rfl ?_ | refine C_scope ?_)
  refine C_if rfl (fun h => ?_) (fun h => ?_) <;> simp only [decide_eq_true_eq, decide_eq_false_iff_not] at h
  · repeat (first | refine sc rfl ?_ | refine so rfl ?_ | refine sb rfl ?_ | refine ⟨by omega, ?_⟩ | refine C_scope ?_)
    have hcond : ∀ x : Bool, x = hears l i c → some (B x) = some (B (hears l i c)) := fun x hb => by rw [hb]
    refine C_if rfl (fun h1 => ?_) (fun h1 => ?_) <;> simp only [beq_iff_eq, decide_eq_true_eq, beq_eq_false_iff_ne, ne_eq] at h1
    · replace h1 : (l.getD i default).k = 1 := h1
      have hh : hears l i c = false := by unfold hears; rw [decide_eq_false_iff_not]; omega
      repeat (first | refine sc rfl ?_ | refine so rfl ?_ | refine sb rfl ?_ | refine C_scope ?_)
      rw [w64 (x := (opn l i : Int) + 1) (by omega) (by omega), w64 (x := (i : Int) + 1) (by omega) (by omega)]
      refine ⟨i + 1, by omega, by omega, Le.sub [45] ⟨rfl, rfl, ?_, rfl, rfl, rfl, trivial⟩ (by rw [places_succ, hh]; simp; rfl)⟩
      rw [opn_succ l i (by omega), if_pos h1]; rfl
    replace h1 : ¬ (l.getD i default).k = 1 := h1
    have ho1 : opn l (i + 1) = opn l i := by rw [opn_succ l i (by omega), if_neg h1, Nat.add_zero]
    repeat (first | refine sc rfl ?_ | refine so rfl ?_ | refine sb rfl ?_ | refine C_scope ?_)
    refine O_join ⟨[(1, I64 c), (5, .own 45), (6, I64 (opn l i : Nat)), (7, I64 (i : Nat)), (9, SL 4 Ev.cells l), (10, I64 (l.length : Nat)), (11, I64 (i : Nat)), (22, B (hears l i c))], [VEC 45 3 1 INT (places l c i)]⟩ ?_ (fun s h => C_le _ h ?_)
    · refine O_case 26 rfl (fun h2 => ?_) (fun h2 => ?_) <;> simp only [beq_iff_eq, decide_eq_true_eq, beq_eq_false_iff_ne, ne_eq] at h2 <;> rw [show ((i : Nat) : Int).toNat = i from rfl] at h2 <;> repeat (first | refine sc rfl ?_ | refine so rfl ?_ | refine sb rfl ?_)
      · refine O_case 32 rfl (fun h3 => ?_) (fun h3 => ?_) <;> simp only [beq_iff_eq, decide_eq_true_eq, beq_eq_false_iff_ne, ne_eq] at h3 <;> rw [show ((i : Nat) : Int).toNat = i from rfl] at h3 <;> repeat (first | refine sc rfl ?_ | refine so rfl ?_ | refine sb rfl ?_)
        · refine O_case 36 rfl (fun h4 => ?_) (fun h4 => ?_) <;> simp only [beq_iff_eq, decide_eq_true_eq, beq_eq_false_iff_ne, ne_eq, decide_eq_false_iff_not] at h4 <;> repeat (first | refine sc rfl ?_ | refine so rfl ?_ | refine sb rfl ?_)
          · refine Le.sub [45] ⟨rfl, rfl, rfl, rfl, rfl, rfl, rfl, hcond _ ?_, trivial⟩ rfl
            rw [Bool.eq_iff_iff]; unfold hears; simp only [decide_eq_true_eq, beq_iff_eq, Bool.false_eq_true, false_iff, true_iff, ge_iff_le]; omega
          · refine Le.sub [45] ⟨rfl, rfl, rfl, rfl, rfl, rfl, rfl, hcond _ ?_, trivial⟩ rfl
            rw [Bool.eq_iff_iff]; unfold hears; simp only [decide_eq_true_eq, beq_iff_eq, Bool.false_eq_true, false_iff, true_iff, ge_iff_le]; omega
        · refine Le.sub [45] ⟨rfl, rfl, rfl, rfl, rfl, rfl, rfl, hcond _ ?_, trivial⟩ rfl
          rw [Bool.eq_iff_iff]; unfold hears; simp only [decide_eq_true_eq, beq_iff_eq, Bool.false_eq_true, false_iff, true_iff, ge_iff_le]; omega
      · refine Le.sub [45] ⟨rfl, rfl, rfl, rfl, rfl, rfl, rfl, hcond _ ?_, trivial⟩ rfl
        rw [Bool.eq_iff_iff]; unfold hears; simp only [decide_eq_true_eq, beq_iff_eq, Bool.false_eq_true, false_iff, true_iff, ge_iff_le]; omega
    refine C_if rfl (fun h2 => ?_) (fun h2 => ?_)
    · repeat (first | refine sc rfl ?_ | refine so rfl ?_ | refine sb rfl ?_ | refine C_scope ?_)
      refine O_push INT (places l c i) i [(1, I64 c), (6, I64 (opn l i : Nat)), (9, SL 4 Ev.cells l), (10, I64 (l.length : Nat)), (11, I64 (i : Nat))] rfl rfl rfl rfl rfl rfl rfl rfl rfl rfl ⟨rfl, rfl, rfl, rfl, rfl, trivial⟩ rfl rfl (by omega) (by simp only [maxLen]; omega) ?_
      repeat (first | refine sc rfl ?_ | refine so rfl ?_ | refine sb rfl ?_ | refine C_scope ?_)
      rw [w64 (x := (i : Int) + 1) (by omega) (by omega)]
      refine ⟨i + 1, by omega, by omega, Le.sub [45] ⟨rfl, rfl, ?_, rfl, rfl, rfl, trivial⟩ (by rw [places_succ, h2, if_pos rfl]; rfl)⟩
      rw [ho1]; rfl
    · repeat (first | refine sc rfl ?_ | refine so rfl ?_ | refine sb rfl ?_ | refine C_scope ?_)
      rw [w64 (x := (i : Int) + 1) (by omega) (by omega)]
      refine ⟨i + 1, by omega, by omega, Le.sub [45] ⟨rfl, rfl, ?_, rfl, rfl, rfl, trivial⟩ (by rw [places_succ, h2, if_neg (by decide), List.append_nil]; rfl)⟩
      rw [ho1]; rfl
  · obtain rfl : i = l.length := by omega
    refine C_le _ (Le.freezeL 5 rfl rfl) ?_
    repeat (first | refine sc rfl ?_ | refine so rfl ?_ | refine sb rfl ?_ | refine C_scope ?_)
    exact ⟨_, rfl, rfl, rfl⟩
end Go.Proofs

/- Contracts: heard, over memory that may change. -/
set_option linter.unusedSimpArgs false
set_option linter.unusedVariables false
set_option maxRecDepth 100000
namespace Go.Proofs
open Go.Sy Go.Lib

abbrev EV (g cc : Nat) (l : List Ev) : Abs := vecA (HD g l.length cc) 62 4 l.length (fun i => Ev.cells (l.getD i default))

theorem heard_A (g cc : Nat) (l : List Ev) (c : Int) (hl : l.length ≤ 1000000) : FnA Try.prog 97 [.v (HD g l.length cc), I64 c] [EV g cc l] (fun r cs' => r = SL 1 INT (places l c l.length) ∧ cs' = [EV g cc l]) := by
  refine FnA.intro Try.tabOK Try.wide_ Try.func97 rfl (by decide) rfl (fun X => ?_)
  repeat (first | refine sc rfl ?_ | refine so rfl ?_ | refine sb rfl ?_)
  refine C_loop (fun i : Nat => ⟨[(1, I64 c), (5, .own 45), (6, I64 (opn l i : Nat)), (9, .v (HD g l.length cc)), (10, I64 (l.length : Nat)), (11, I64 (i : Nat))], [VEC 45 3 1 INT (places l c i), .abs (EV g cc l)]⟩) (fun i => i ≤ l.length) (fun i => l.length - i) 0 (Nat.zero_le _)
      ((Le.nilvec (α := Nat) INT 5 45 3 1 rfl rfl rfl).trans (Le.sub [45, 1000000] ⟨rfl, rfl, rfl, rfl, rfl, rfl, trivial⟩ rfl)) ?_
  intro i hi
  have ho := opn_le l i
  have hpl := places_len l c i
  repeat (first | refine sc rfl ?_ | refine so rfl ?_ | refine sb rfl ?_ | refine C_scope ?_)
  refine C_if rfl (fun h => ?_) (fun h => ?_) <;> simp only [decide_eq_true_eq, decide_eq_false_iff_not] at h
  · repeat (first | refine sc rfl ?_ | refine so rfl ?_ | refine sb rfl ?_ | refine ⟨by omega, ?_⟩ | refine C_scope ?_)
    refine O_loadP 1 (reads_vec (q := i) (j := 0) (by omega) (by simp)) rfl rfl rfl rfl rfl rfl ?_
    repeat (first | refine sc rfl ?_ | refine so rfl ?_ | refine sb rfl ?_ | refine ⟨by omega, ?_⟩ | refine C_scope ?_)
    have hcond : ∀ x : Bool, x = hears l i c → some (B x) = some (B (hears l i c)) := fun x hb => by rw [hb]
    refine C_if rfl (fun h1 => ?_) (fun h1 => ?_) <;> simp only [beq_iff_eq, decide_eq_true_eq, beq_eq_false_iff_ne, ne_eq] at h1
    · replace h1 : (l.getD i default).k = 1 := h1
      have hh : hears l i c = false := by unfold hears; rw [decide_eq_false_iff_not]; omega
      repeat (first | refine sc rfl ?_ | refine so rfl ?_ | refine sb rfl ?_ | refine C_scope ?_)
      rw [w64 (x := (opn l i : Int) + 1) (by omega) (by omega), w64 (x := (i : Int) + 1) (by omega) (by omega)]
      refine ⟨i + 1, by omega, by omega, Le.sub [45, 1000000] ⟨rfl, rfl, ?_, rfl, rfl, rfl, trivial⟩ (by rw [places_succ, hh]; simp; rfl)⟩
      rw [opn_succ l i (by omega), if_pos h1]; rfl
    replace h1 : ¬ (l.getD i default).k = 1 := h1
    have ho1 : opn l (i + 1) = opn l i := by rw [opn_succ l i (by omega), if_neg h1, Nat.add_zero]
    repeat (first | refine sc rfl ?_ | refine so rfl ?_ | refine sb rfl ?_ | refine C_scope ?_)
    refine O_join ⟨[(1, I64 c), (5, .own 45), (6, I64 (opn l i : Nat)), (7, I64 (i : Nat)), (9, .v (HD g l.length cc)), (10, I64 (l.length : Nat)), (11, I64 (i : Nat)), (22, B (hears l i c))], [VEC 45 3 1 INT (places l c i), .abs (EV g cc l)]⟩ ?_ (fun s h => C_le _ h ?_)
    · refine O_case 26 rfl (fun h2 => ?_) (fun h2 => ?_) <;> simp only [beq_iff_eq, decide_eq_true_eq, beq_eq_false_iff_ne, ne_eq] at h2 <;> repeat (first | refine sc rfl ?_ | refine so rfl ?_ | refine sb rfl ?_)
      · refine O_case 32 rfl (fun h3 => ?_) (fun h3 => ?_) <;> simp only [beq_iff_eq, decide_eq_true_eq, beq_eq_false_iff_ne, ne_eq] at h3 <;> repeat (first | refine sc rfl ?_ | refine so rfl ?_ | refine sb rfl ?_)
        · refine O_case 36 rfl (fun h4 => ?_) (fun h4 => ?_) <;> simp only [beq_iff_eq, decide_eq_true_eq, beq_eq_false_iff_ne, ne_eq, decide_eq_false_iff_not] at h4 <;> repeat (first | refine sc rfl ?_ | refine so rfl ?_ | refine sb rfl ?_)
          · refine Le.sub [45, 1000000] ⟨rfl, rfl, rfl, rfl, rfl, rfl, rfl, hcond _ ?_, trivial⟩ rfl
            rw [Bool.eq_iff_iff]; unfold hears; simp only [decide_eq_true_eq, beq_iff_eq, Bool.false_eq_true, false_iff, true_iff, ge_iff_le]; omega
          · refine Le.sub [45, 1000000] ⟨rfl, rfl, rfl, rfl, rfl, rfl, rfl, hcond _ ?_, trivial⟩ rfl
            rw [Bool.eq_iff_iff]; unfold hears; simp only [decide_eq_true_eq, beq_iff_eq, Bool.false_eq_true, false_iff, true_iff, ge_iff_le]; omega
        · refine Le.sub [45, 1000000] ⟨rfl, rfl, rfl, rfl, rfl, rfl, rfl, hcond _ ?_, trivial⟩ rfl
          rw [Bool.eq_iff_iff]; unfold hears; simp only [decide_eq_true_eq, beq_iff_eq, Bool.false_eq_true, false_iff, true_iff, ge_iff_le]; omega
      · refine Le.sub [45, 1000000] ⟨rfl, rfl, rfl, rfl, rfl, rfl, rfl, hcond _ ?_, trivial⟩ rfl
        rw [Bool.eq_iff_iff]; unfold hears; simp only [decide_eq_true_eq, beq_iff_eq, Bool.false_eq_true, false_iff, true_iff, ge_iff_le]; omega
    refine C_if rfl (fun h2 => ?_) (fun h2 => ?_)
    · repeat (first | refine sc rfl ?_ | refine so rfl ?_ | refine sb rfl ?_ | refine C_scope ?_)
      refine O_push INT (places l c i) i [(1, I64 c), (6, I64 (opn l i : Nat)), (9, .v (HD g l.length cc)), (10, I64 (l.length : Nat)), (11, I64 (i : Nat))] rfl rfl rfl rfl rfl rfl rfl rfl rfl rfl ⟨rfl, rfl, rfl, rfl, rfl, trivial⟩ rfl rfl (by omega) (by simp only [maxLen]; omega) ?_
      repeat (first | refine sc rfl ?_ | refine so rfl ?_ | refine sb rfl ?_ | refine C_scope ?_)
      rw [w64 (x := (i : Int) + 1) (by omega) (by omega)]
      refine ⟨i + 1, by omega, by omega, Le.sub [45, 1000000] ⟨rfl, rfl, ?_, rfl, rfl, rfl, trivial⟩ (by rw [places_succ, h2, if_pos rfl]; rfl)⟩
      rw [ho1]; rfl
    · repeat (first | refine sc rfl ?_ | refine so rfl ?_ | refine sb rfl ?_ | refine C_scope ?_)
      rw [w64 (x := (i : Int) + 1) (by omega) (by omega)]
      refine ⟨i + 1, by omega, by omega, Le.sub [45, 1000000] ⟨rfl, rfl, ?_, rfl, rfl, rfl, trivial⟩ (by rw [places_succ, h2, if_neg (by decide), List.append_nil]; rfl)⟩
      rw [ho1]; rfl
  · obtain rfl : i = l.length := by omega
    refine C_le _ (Le.freezeL 5 rfl rfl) ?_
    repeat (first | refine sc rfl ?_ | refine so rfl ?_ | refine sb rfl ?_ | refine C_scope ?_)
    exact ⟨_, [_], _, rfl, .refl _, rfl, rfl, rfl⟩
end Go.Proofs

/- Contracts: stream, over memory that may change, and over memory that does not; and what lays other bytes. -/
set_option linter.unusedSimpArgs false
set_option linter.unusedVariables false
set_option maxRecDepth 100000
namespace Go.Proofs
open Go.Sy Go.Lib

theorem strm_snoc (l : List Ev) (ps : List Nat) (j : Nat) : strm l (ps ++ [j]) = strm l ps ++ (l.getD j default).b := by
  simp [strm]
theorem strm_take (l : List Ev) (ps : List Nat) (k : Nat) : (strm l (ps.take k)).length ≤ (strm l ps).length := by
  conv => rhs; rw [← List.take_append_drop k ps]
  unfold strm
  rw [List.flatMap_append, List.length_append]
  omega
theorem take_succD (ps : List Nat) (k : Nat) (h : k < ps.length) : ps.take (k + 1) = ps.take k ++ [ps.getD k default] := by
  rw [List.take_add_one]
  simp [List.getD, List.getElem?_eq_getElem h]

theorem stream_A (g cc : Nat) (l : List Ev) (c : Int) (hl : l.length ≤ 1000000) (hb : (strm l (places l c l.length)).length ≤ 1000000000) :
    FnA Try.prog 67 [.v (HD g l.length cc), I64 c] [EV g cc l] (fun r cs' => r = .tup [.s (strm l (places l c l.length)), .p (cloRP 100 [.cp [SL 1 INT (places l c l.length)], .cp [.v (HD g l.length cc)]])] ∧ cs' = [EV g cc l]) := by
  refine FnA.intro Try.tabOK Try.wide_ Try.func67 rfl (by decide) rfl (fun X => ?_)
  repeat (first | refine sc rfl ?_ | refine so rfl ?_ | refine sb rfl ?_)
  refine O_callA [1] (heard_A g cc l c hl) (by rfl) (by rfl) (by rfl) (by rfl) (by rfl) ?_
  rintro r cs' ⟨rfl, rfl⟩
  generalize hps : places l c l.length = ps at *
  have hpl : ps.length ≤ l.length := by rw [← hps]; exact places_len _ _ _
  have hpm : ∀ k, k < ps.length → ps.getD k default < l.length := fun k hk => by
    have : ps.getD k default ∈ ps := by simp [List.getD, List.getElem?_eq_getElem hk]
    rw [← hps] at this
    rw [← hps]
    exact (places_mem this).1
  repeat (first | refine sc rfl ?_ | refine so rfl ?_ | refine sb rfl ?_)
  refine C_absb 7 rfl rfl rfl (fun b => ?_)
  refine C_le _ (Le.addnil 5 1 (rowB [])) ?_
  repeat (first | refine sc rfl ?_ | refine so rfl ?_ | refine sb rfl ?_)
  refine C_loop (fun q : Nat × Value × Value => ⟨[(2, .bp 2 0), (6, .bp 6 0), (7, PT b 0), (13, SL 1 INT ps), (14, I64 (ps.length : Nat)), (15, I64 (q.1 : Nat))],
      [.abs (boxA b 171 [.v q.2.1, .v q.2.2]), .abs (vecA q.2.2 5 1 (strm l (ps.take q.1)).length (rowB (strm l (ps.take q.1)))), .box 6 22 [SL 1 INT ps], .abs (EV g cc l), .box 2 49 [.v (HD g l.length cc)]]⟩)
    (fun q => q.1 ≤ ps.length ∧ (q.2.1 = .pointer none ∨ q.2.1 = .pointer (some ⟨b, 0, none⟩))) (fun q => ps.length - q.1) (0, .pointer none, .slice none 0 0) ⟨Nat.zero_le _, .inl rfl⟩ ?_ ?_
  · exact Le.perm [] ⟨rfl, rfl, rfl, rfl, rfl, rfl, trivial⟩ (List.Perm.swap _ _ _)
  rintro ⟨k, p, h⟩ ⟨hk, hp⟩
  simp only [] at hk hp
  repeat (first | refine sc rfl ?_ | refine so rfl ?_ | refine sb rfl ?_ | refine C_scope ?_)
  refine C_if rfl (fun h1 => ?_) (fun h1 => ?_) <;> simp only [decide_eq_true_eq, decide_eq_false_iff_not] at h1
  · have hpk := hpm k (by omega)
    have hs0 := strm_take l ps (k + 1)
    rw [take_succD ps k (by omega), strm_snoc, List.length_append] at hs0
    repeat (first | refine sc rfl ?_ | refine so rfl ?_ | refine sb rfl ?_ | refine ⟨by omega, ?_⟩ | refine C_scope ?_)
    refine And.intro ?_ ?_
    · show (0 : Int) ≤ ((ps.getD k default : Nat) : Int) ∧ ((ps.getD k default : Nat) : Int) < (l.length : Nat)
      omega
    repeat (first | refine sc rfl ?_ | refine so rfl ?_ | refine sb rfl ?_ | refine ⟨by omega, ?_⟩ | refine C_scope ?_)
    refine O_loadP 3 (reads_vec (q := ps.getD k default) (j := 3) hpk (by simp)) rfl rfl rfl rfl rfl rfl ?_
    refine O_callA [0, 0] (WriteString_A b p h (strm l (ps.take k)) (l.getD (ps.getD k default) default).b hp (by omega)) (by rfl) (by rfl) (by rfl) (by rfl) (by rfl) ?_
    rintro r cs' ⟨h', rfl, rfl⟩
    repeat (first | refine sc rfl ?_ | refine so rfl ?_ | refine sb rfl ?_ | refine C_scope ?_)
    rw [w64 (x := (k : Int) + 1) (by omega) (by omega)]
    refine ⟨(k + 1, .pointer (some ⟨b, 0, none⟩), h'), ⟨by simp only []; omega, .inr rfl⟩, by simp only []; omega, Le.perm [] ⟨rfl, rfl, rfl, rfl, rfl, rfl, trivial⟩ ?_⟩
    simp only [take_succD ps k (by omega), strm_snoc]
    exact .refl _
  · obtain rfl : k = ps.length := by omega
    rw [List.take_length]
    repeat (first | refine sc rfl ?_ | refine so rfl ?_ | refine sb rfl ?_ | refine C_scope ?_)
    refine O_callA [0, 0] (String_A b p h (strm l ps)) (by rfl) (by rfl) (by rfl) (by rfl) (by rfl) ?_
    rintro r cs' ⟨rfl, rfl⟩
    refine O_le _ (Le.freezebox 6 rfl rfl rfl) ?_
    refine O_le _ (Le.freezebox 2 rfl rfl rfl) ?_
    refine O_makeFunc rfl rfl rfl rfl ?_
    repeat (first | refine sc rfl ?_ | refine so rfl ?_ | refine sb rfl ?_ | refine C_scope ?_)
    exact ⟨_, [_], _, rfl, .refl _, rfl, rfl, rfl⟩
end Go.Proofs

/- Contracts: stream, over memory that does not change; what lays other bytes. -/
set_option linter.unusedSimpArgs false
set_option linter.unusedVariables false
set_option maxRecDepth 100000
namespace Go.Proofs
open Go.Sy Go.Lib

theorem stream_I (l : List Ev) (c : Int) (hl : l.length ≤ 1000000) (hb : (strm l (places l c l.length)).length ≤ 1000000000) :
    FnP Try.prog 67 [SL 4 Ev.cells l, I64 c] (· = .tup [.s (strm l (places l c l.length)), .p (cloRP 100 [.cp [SL 1 INT (places l c l.length)], .cp [SL 4 Ev.cells l]])]) := by
  refine FnP.intro Try.tabOK Try.wide_ Try.func67 rfl (by decide) rfl (fun X => ?_)
  repeat (first | refine sc rfl ?_ | refine so rfl ?_ | refine sb rfl ?_)
  refine O_call (heard_I l c hl) (by rfl) (by rfl) (by rfl) (by rfl) (fun r hr => ?_)
  subst hr
  generalize hps : places l c l.length = ps at *
  have hpl : ps.length ≤ l.length := by rw [← hps]; exact places_len _ _ _
  have hpm : ∀ k, k < ps.length → ps.getD k default < l.length := fun k hk => by
    have : ps.getD k default ∈ ps := by simp [List.getD, List.getElem?_eq_getElem hk]
    rw [← hps] at this
    rw [← hps]
    exact (places_mem this).1
  repeat (first | refine sc rfl ?_ | refine so rfl ?_ | refine sb rfl ?_)
  refine C_absb 7 rfl rfl rfl (fun b => ?_)
  refine C_le _ (Le.addnil 5 1 (rowB [])) ?_
  repeat (first | refine sc rfl ?_ | refine so rfl ?_ | refine sb rfl ?_)
  refine C_loop (fun q : Nat × Value × Value => ⟨[(2, .bp 2 0), (6, .bp 6 0), (7, PT b 0), (13, SL 1 INT ps), (14, I64 (ps.length : Nat)), (15, I64 (q.1 : Nat))],
      [.abs (boxA b 171 [.v q.2.1, .v q.2.2]), .abs (vecA q.2.2 5 1 (strm l (ps.take q.1)).length (rowB (strm l (ps.take q.1)))), .box 6 22 [SL 1 INT ps], .box 2 49 [SL 4 Ev.cells l]]⟩)
    (fun q => q.1 ≤ ps.length ∧ (q.2.1 = .pointer none ∨ q.2.1 = .pointer (some ⟨b, 0, none⟩))) (fun q => ps.length - q.1) (0, .pointer none, .slice none 0 0) ⟨Nat.zero_le _, .inl rfl⟩ ?_ ?_
  · exact Le.perm [] ⟨rfl, rfl, rfl, rfl, rfl, rfl, trivial⟩ (List.Perm.swap _ _ _)
  rintro ⟨k, p, h⟩ ⟨hk, hp⟩
  simp only [] at hk hp
  repeat (first | refine sc rfl ?_ | refine so rfl ?_ | refine sb rfl ?_ | refine C_scope ?_)
  refine C_if rfl (fun h1 => ?_) (fun h1 => ?_) <;> simp only [decide_eq_true_eq, decide_eq_false_iff_not] at h1
  · have hpk := hpm k (by omega)
    have hs0 := strm_take l ps (k + 1)
    rw [take_succD ps k (by omega), strm_snoc, List.length_append] at hs0
    repeat (first | refine sc rfl ?_ | refine so rfl ?_ | refine sb rfl ?_ | refine ⟨by omega, ?_⟩ | refine C_scope ?_)
    refine And.intro ?_ ?_
    · show (0 : Int) ≤ ((ps.getD k default : Nat) : Int) ∧ ((ps.getD k default : Nat) : Int) < (l.length : Nat)
      omega
    repeat (first | refine sc rfl ?_ | refine so rfl ?_ | refine sb rfl ?_ | refine ⟨by omega, ?_⟩ | refine C_scope ?_)
    refine O_callA [0, 0] (WriteString_A b p h (strm l (ps.take k)) (l.getD (ps.getD k default) default).b hp (by omega)) (by rfl) (by rfl) (by rfl) (by rfl) (by rfl) ?_
    rintro r cs' ⟨h', rfl, rfl⟩
    repeat (first | refine sc rfl ?_ | refine so rfl ?_ | refine sb rfl ?_ | refine C_scope ?_)
    rw [w64 (x := (k : Int) + 1) (by omega) (by omega)]
    refine ⟨(k + 1, .pointer (some ⟨b, 0, none⟩), h'), ⟨by simp only []; omega, .inr rfl⟩, by simp only []; omega, Le.perm [] ⟨rfl, rfl, rfl, rfl, rfl, rfl, trivial⟩ ?_⟩
    simp only [take_succD ps k (by omega), strm_snoc]
    exact .refl _
  · obtain rfl : k = ps.length := by omega
    rw [List.take_length]
    repeat (first | refine sc rfl ?_ | refine so rfl ?_ | refine sb rfl ?_ | refine C_scope ?_)
    refine O_callA [0, 0] (String_A b p h (strm l ps)) (by rfl) (by rfl) (by rfl) (by rfl) (by rfl) ?_
    rintro r cs' ⟨rfl, rfl⟩
    refine O_le _ (Le.freezebox 6 rfl rfl rfl) ?_
    refine O_le _ (Le.freezebox 2 rfl rfl rfl) ?_
    refine O_makeFunc rfl rfl rfl rfl ?_
    repeat (first | refine sc rfl ?_ | refine so rfl ?_ | refine sb rfl ?_ | refine C_scope ?_)
    exact ⟨_, rfl, rfl, rfl⟩

def setB (l : List Ev) (i : Nat) (b : List UInt8) : List Ev := l.set i { l.getD i default with b := b }
def layL : List Nat → List Ev → List UInt8 → List Ev
  | [], l, _ => l
  | i :: ps, l, b => layL ps (setB l i (b.take (l.getD i default).b.length)) (b.drop (l.getD i default).b.length)
theorem setB_len (l : List Ev) (i : Nat) (b : List UInt8) : (setB l i b).length = l.length := by simp [setB]
theorem layL_len : ∀ (ps : List Nat) (l : List Ev) (b : List UInt8), (layL ps l b).length = l.length
  | [], l, b => rfl
  | i :: ps, l, b => by rw [layL, layL_len ps, setB_len]
theorem setB_getD (l : List Ev) (i j : Nat) (b : List UInt8) (hi : i < l.length) : (setB l i b).getD j default = if j = i then { l.getD i default with b := b } else l.getD j default := by
  unfold setB
  by_cases h : j = i
  · subst h; rw [if_pos rfl]; simp [List.getD, hi]
  · rw [if_neg h]; simp [List.getD, List.getElem?_set_ne (Ne.symm h)]

theorem lay_A (g cc : Nat) (l : List Ev) (ps : List Nat) (b : List UInt8) (hps : ∀ k, k < ps.length → ps.getD k default < l.length) (hl : l.length ≤ 1000000) (hpl : ps.length ≤ 1000000) (hb : (strm l ps).length = b.length) (hb2 : b.length ≤ 1000000000) :
    FnA Try.prog 100 [.s b, .cp [SL 1 INT ps], .cp [.v (HD g l.length cc)]] [EV g cc l] (fun r cs' => r = .tup [] ∧ cs' = [EV g cc (layL ps l b)]) := by
  refine FnA.intro Try.tabOK Try.wide_ Try.func100 rfl (by decide) rfl (fun X => ?_)
  have hfin : ∀ l' : List Ev, l'.length = l.length → EV g cc l' = vecA (HD g l.length cc) 62 4 l.length (fun i => Ev.cells (l'.getD i default)) := fun l' h => by rw [EV, h]
  repeat (first | refine sc rfl ?_ | refine so rfl ?_ | refine sb rfl ?_)
  refine C_loop (fun q : Nat × List Ev × List UInt8 => ⟨[(0, .s q.2.2), (2, .cp [.v (HD g l.length cc)]), (7, SL 1 INT ps), (8, I64 (ps.length : Nat)), (9, I64 (q.1 : Nat))], [.abs (vecA (HD g l.length cc) 62 4 l.length (fun i => Ev.cells (q.2.1.getD i default)))]⟩)
    (fun q => q.1 ≤ ps.length ∧ q.2.1.length = l.length ∧ q.2.2.length ≤ b.length ∧ (strm q.2.1 (ps.drop q.1)).length = q.2.2.length ∧ layL (ps.drop q.1) q.2.1 q.2.2 = layL ps l b) (fun q => ps.length - q.1) (0, l, b) ⟨Nat.zero_le _, rfl, Nat.le_refl _, by simpa using hb, rfl⟩
    (Le.sub [1000000] ⟨rfl, rfl, rfl, rfl, rfl, trivial⟩ rfl) ?_
  rintro ⟨k, l', b'⟩ ⟨hk, hl', hbl, hs, hlay⟩
  simp only [] at hk hl' hbl hs hlay
  repeat (first | refine sc rfl ?_ | refine so rfl ?_ | refine sb rfl ?_ | refine C_scope ?_)
  refine C_if rfl (fun h1 => ?_) (fun h1 => ?_) <;> simp only [decide_eq_true_eq, decide_eq_false_iff_not] at h1
  · have hpk := hps k (by omega)
    have hdr : ps.drop k = ps.getD k default :: ps.drop (k + 1) := by
      rw [List.drop_eq_getElem_cons (by omega)]
      simp [List.getD, List.getElem?_eq_getElem (show k < ps.length by omega)]
    rw [hdr] at hs hlay
    have hnb : (l'.getD (ps.getD k default) default).b.length ≤ b'.length := by
      rw [← hs]; simp [strm]
    repeat (first | refine sc rfl ?_ | refine so rfl ?_ | refine sb rfl ?_ | refine ⟨by omega, ?_⟩ | refine C_scope ?_)
    refine And.intro ?_ ?_
    · show (0 : Int) ≤ ((ps.getD k default : Nat) : Int) ∧ ((ps.getD k default : Nat) : Int) < (l.length : Nat)
      omega
    repeat (first | refine sc rfl ?_ | refine so rfl ?_ | refine sb rfl ?_ | refine ⟨by omega, ?_⟩ | refine C_scope ?_)
    refine O_loadP 0 (reads_vec (q := ps.getD k default) (j := 3) hpk (by simp)) rfl rfl rfl rfl rfl rfl ?_
    repeat (first | refine sc rfl ?_ | refine so rfl ?_ | refine sb rfl ?_ | refine ⟨by omega, ?_⟩ | refine C_scope ?_)
    refine C_drawS (fun fl => [.abs (vecA (HD g l.length cc) 62 4 l.length (fun i => Ev.cells ((if fl then setB l' (ps.getD k default) (b'.take (l'.getD (ps.getD k default) default).b.length) else l').getD i default)))]) 7 rfl rfl (by kernel_rfl) ?_
    repeat (first | refine ss rfl ?_ | refine And.intro trivial ?_)
    refine And.intro ?_ ?_
    · show (0 : Int) ≤ (((l'.getD (ps.getD k default) default).b.length : Nat) : Int) ∧ (((l'.getD (ps.getD k default) default).b.length : Nat) : Int) ≤ (b'.length : Nat)
      omega
    repeat (first | refine ss rfl ?_ | refine And.intro trivial ?_)
    refine And.intro ?_ ?_
    · show (0 : Int) ≤ ((ps.getD k default : Nat) : Int) ∧ ((ps.getD k default : Nat) : Int) < (l.length : Nat)
      omega
    repeat (first | refine ss rfl ?_ | refine And.intro trivial ?_)
    refine S_storeP (x := .s (b'.take (l'.getD (ps.getD k default) default).b.length)) (A := vecA (HD g l.length cc) 62 4 l.length (fun i => Ev.cells (l'.getD i default)))
      (A' := vecA (HD g l.length cc) 62 4 l.length (fun i => Ev.cells ((setB l' (ps.getD k default) (b'.take (l'.getD (ps.getD k default) default).b.length)).getD i default))) (c := []) rfl
      (writes_vec (q := ps.getD k default) (j := 3) hpk (by decide) (by simp) (fun i hi => ?_)) rfl rfl rfl rfl rfl rfl rfl ?_
    · rw [setB_getD _ _ _ _ (by omega)]
      by_cases h : i = ps.getD k default
      · rw [if_pos h, if_pos h]; rfl
      · rw [if_neg h, if_neg h]
    repeat (first | refine ss rfl ?_ | refine And.intro trivial ?_)
    repeat (first | refine sc rfl ?_ | refine so rfl ?_ | refine sb rfl ?_ | refine C_scope ?_)
    refine And.intro ?_ ?_
    · show (0 : Int) ≤ (((l'.getD (ps.getD k default) default).b.length : Nat) : Int) ∧ (((l'.getD (ps.getD k default) default).b.length : Nat) : Int) ≤ (b'.length : Nat)
      omega
    repeat (first | refine sc rfl ?_ | refine so rfl ?_ | refine sb rfl ?_ | refine C_scope ?_)
    rw [w64 (x := (k : Int) + 1) (by omega) (by omega)]
    refine ⟨(k + 1, setB l' (ps.getD k default) (b'.take (l'.getD (ps.getD k default) default).b.length), b'.drop (l'.getD (ps.getD k default) default).b.length), ⟨by simp only []; omega, by simp only [setB_len]; exact hl', by simp only [List.length_drop]; omega, ?_, hlay⟩, by simp only []; omega, Le.sub [1000000] ⟨rfl, rfl, rfl, rfl, rfl, trivial⟩ rfl⟩
    simp only [List.length_drop]
    have : ∀ qs : List Nat, (strm (setB l' (ps.getD k default) (b'.take (l'.getD (ps.getD k default) default).b.length)) qs).length = (strm l' qs).length := by
      intro qs
      unfold strm
      rw [List.length_flatMap, List.length_flatMap]
      congr 1
      refine List.map_congr_left (fun i _ => ?_)
      rw [setB_getD _ _ _ _ (by omega)]
      split
      · rename_i h; subst h
        show ((b'.take _).length) = _
        rw [List.length_take]; omega
      · rfl
    rw [this, ← hs]
    simp [strm]
  · obtain rfl : k = ps.length := by omega
    rw [List.drop_length] at hlay
    have hlay' : l' = layL ps l b := hlay
    subst hlay'
    repeat (first | refine sc rfl ?_ | refine so rfl ?_ | refine sb rfl ?_ | refine C_scope ?_)
    refine ⟨_, [_], _, rfl, .refl _, rfl, rfl, ?_⟩
    rw [hfin _ hl']
end Go.Proofs

/- Frames of a stream; walk, whatever it is handed. -/
set_option linter.unusedSimpArgs false
set_option linter.unusedVariables false
set_option maxRecDepth 100000
namespace Go.Proofs
open Go.Sy Go.Lib

structure Fr where
  k : Int
  f : Int
  b : List UInt8
deriving Inhabited
def Fr.cells (x : Fr) : List AV := [I64 x.k, I64 x.f, .s x.b]
def frOf (b : List UInt8) : Fr := ⟨(by_ b 0 : Nat), (by_ b 1 : Nat), (b.drop 4).take (lenB b)⟩
def frs : Nat → List UInt8 → List Fr
  | 0, _ => []
  | n + 1, b => if frE b = 0 then frOf b :: frs n (b.drop (4 + lenB b)) else []
def framesL (b : List UInt8) : List Fr := frs b.length b
def offs (fs : List Fr) (i : Nat) : Nat := ((fs.take i).map (fun f => 4 + f.b.length)).sum

theorem frE_zero {b : List UInt8} (h : frE b = 0) : 4 + lenB b ≤ b.length ∧ lenB b ≤ 1024 ∧ 1 ≤ by_ b 0 ∧ by_ b 0 ≤ 9 := by
  unfold frE at h
  by_cases hh : headE b = 0
  · rw [if_pos hh] at h
    unfold headE at hh
    split at hh
    · cases hh
    · split at hh
      · cases hh
      · split at hh
        · cases hh
        · split at h
          · cases h
          · omega
  · rw [if_neg hh] at h
    exact absurd h hh
theorem frOf_len {b : List UInt8} (h : frE b = 0) : (frOf b).b.length = lenB b := by
  have := frE_zero h
  simp [frOf]; omega

theorem frs_fuel : ∀ (n : Nat) (b : List UInt8), b.length ≤ n → frs n b = frs b.length b := by
  intro n
  induction n using Nat.strongRecOn with
  | ind n ih =>
    intro b hb
    cases n with
    | zero => rw [show b.length = 0 by omega]
    | succ n =>
      by_cases h : frE b = 0
      · have h1 := frE_zero h
        obtain ⟨m, hm⟩ : ∃ m, b.length = m + 1 := ⟨b.length - 1, by omega⟩
        rw [hm, frs, frs, if_pos h, if_pos h]
        have hd : (b.drop (4 + lenB b)).length ≤ m := by simp; omega
        rw [ih n (by omega) _ (by omega), ih m (by omega) _ hd]
      · have h0 : ∀ k, frs k b = [] := fun k => by
          cases k with
          | zero => rfl
          | succ k => rw [frs, if_neg h]
        rw [h0, h0]
theorem framesL_eq (b : List UInt8) : framesL b = if frE b = 0 then frOf b :: framesL (b.drop (4 + lenB b)) else [] := by
  unfold framesL
  by_cases h : frE b = 0
  · have h1 := frE_zero h
    obtain ⟨m, hm⟩ : ∃ m, b.length = m + 1 := ⟨b.length - 1, by omega⟩
    rw [if_pos h, hm, frs, if_pos h, frs_fuel m _ (by simp; omega)]
  · rw [if_neg h]
    cases b.length with
    | zero => rfl
    | succ k => rw [frs, if_neg h]

theorem offs_zero (fs : List Fr) : offs fs 0 = 0 := rfl
theorem offs_cons (f : Fr) (fs : List Fr) (i : Nat) : offs (f :: fs) (i + 1) = 4 + f.b.length + offs fs i := by simp [offs]
theorem offs_succ (fs : List Fr) (i : Nat) (h : i < fs.length) : offs fs (i + 1) = offs fs i + (4 + (fs.getD i default).b.length) := by
  unfold offs
  rw [List.take_add_one, List.map_append, List.sum_append]
  simp [List.getD, List.getElem?_eq_getElem h]

theorem fr_at : ∀ (i : Nat) (b : List UInt8), i ≤ (framesL b).length → framesL (b.drop (offs (framesL b) i)) = (framesL b).drop i ∧ offs (framesL b) i ≤ b.length
  | 0, b, _ => by simp [offs]
  | i + 1, b, h => by
    have h0 := framesL_eq b
    by_cases hz : frE b = 0
    · rw [if_pos hz] at h0
      have hl := frOf_len hz
      have h1 := frE_zero hz
      rw [h0] at h ⊢
      simp only [List.length_cons, Nat.add_le_add_iff_right] at h
      obtain ⟨k1, k2⟩ := fr_at i (b.drop (4 + lenB b)) h
      rw [offs_cons, hl]
      refine ⟨?_, ?_⟩
      · rw [← List.drop_drop, k1]; rfl
      · simp at k2; omega
    · rw [if_neg hz] at h0
      rw [h0] at h
      simp at h

theorem fr_here {b : List UInt8} {i : Nat} (h : i < (framesL b).length) : frE (b.drop (offs (framesL b) i)) = 0 ∧ frOf (b.drop (offs (framesL b) i)) = (framesL b).getD i default := by
  obtain ⟨h1, _⟩ := fr_at i b (by omega)
  rw [framesL_eq] at h1
  split at h1
  · rename_i hz
    refine ⟨hz, ?_⟩
    rw [List.drop_eq_getElem_cons h] at h1
    have := (List.cons.inj h1).1
    rw [this]
    simp [List.getD, List.getElem?_eq_getElem h]
  · exfalso
    have := congrArg List.length h1
    simp at this; omega
theorem fr_end {b : List UInt8} : frE (b.drop (offs (framesL b) (framesL b).length)) ≠ 0 := by
  intro hz
  obtain ⟨h1, _⟩ := fr_at (framesL b).length b (Nat.le_refl _)
  rw [framesL_eq, if_pos hz, List.drop_length] at h1
  cases h1
theorem fr_fit {b : List UInt8} {i : Nat} (h : i < (framesL b).length) : offs (framesL b) i + 4 + ((framesL b).getD i default).b.length ≤ b.length := by
  obtain ⟨h1, h2⟩ := fr_here h
  have h3 := frE_zero h1
  have h4 := frOf_len h1
  have h5 := (fr_at i b (by omega)).2
  rw [← h2, h4]
  simp at h3; omega
theorem framesL_len (b : List UInt8) : (framesL b).length ≤ b.length := by
  have h := (fr_at (framesL b).length b (Nat.le_refl _)).2
  have : ∀ fs : List Fr, fs.length ≤ offs fs fs.length := by
    intro fs
    induction fs with
    | nil => simp
    | cons f fs ih => rw [List.length_cons, offs_cons]; omega
  exact Nat.le_trans (this _) h

theorem walk_A (b : List UInt8) (hb : b.length ≤ 1000000000) (f : FuncId) (caps : List AV) (Inv : Nat → Abs → Prop) (Stop : Abs → Prop)
    (hf : ∀ i A, i < (framesL b).length → Inv i A → FnA Try.prog f ([I64 (offs (framesL b) i : Nat), .agg (Fr.cells ((framesL b).getD i default))] ++ caps) [A]
      (fun r cs' => ∃ A', cs' = [A'] ∧ ((r = B true ∧ Inv (i + 1) A') ∨ (r = B false ∧ Stop A'))))
    (A0 : Abs) (h0 : Inv 0 A0) : FnA Try.prog 68 [.s b, .p (cloRP f caps)] [A0] (fun r cs' => r = .tup [] ∧ ∃ A', cs' = [A'] ∧ (Inv (framesL b).length A' ∨ Stop A')) := by
  refine FnA.intro Try.tabOK Try.wide_ Try.func68 rfl (by decide) rfl (fun X => ?_)
  repeat (first | refine sc rfl ?_ | refine so rfl ?_ | refine sb rfl ?_)
  refine C_loop (fun q : Nat × Abs => ⟨[(0, .s b), (1, .p (cloRP f caps)), (4, I64 (offs (framesL b) q.1 : Nat))], [.abs q.2]⟩) (fun q => q.1 ≤ (framesL b).length ∧ Inv q.1 q.2) (fun q => (framesL b).length - q.1) (0, A0) ⟨Nat.zero_le _, h0⟩
    (Le.sub [1000000] ⟨rfl, rfl, rfl, trivial⟩ rfl) ?_
  rintro ⟨i, A⟩ ⟨hi, hA⟩
  simp only [] at hi hA
  obtain ⟨_, hofs⟩ := fr_at i b hi
  repeat (first | refine sc rfl ?_ | refine so rfl ?_ | refine sb rfl ?_ | refine ⟨by omega, ?_⟩ | refine C_scope ?_)
  refine And.intro ?_ ?_
  · show (0 : Int) ≤ ((offs (framesL b) i : Nat) : Int) ∧ ((offs (framesL b) i : Nat) : Int) ≤ (b.length : Nat)
    omega
  repeat (first | refine sc rfl ?_ | refine so rfl ?_ | refine sb rfl ?_ | refine C_scope ?_)
  refine O_call (fTake_p (b.drop (offs (framesL b) i)) (by simp; omega)) (by rfl) (by rfl) (by rfl) (by rfl) (fun r hr => ?_)
  subst hr
  by_cases hlt : i < (framesL b).length
  · obtain ⟨h1, h2⟩ := fr_here hlt
    have h3 := fr_fit hlt
    have h4 := frOf_len h1
    rw [h2] at h4
    rw [show frA (b.drop (offs (framesL b) i)) = .tup [.agg (Fr.cells ((framesL b).getD i default)), I64 ((4 + ((framesL b).getD i default).b.length : Nat) : Int), I64 0] by
      unfold frA; rw [if_pos h1, ← h2]; rw [h2, h4, ← h2]; rfl]
    repeat (first | refine sc rfl ?_ | refine so rfl ?_ | refine sb rfl ?_ | refine C_scope ?_)
    refine O_callAV (cs := [A]) (cr := [.box 5 64 (Fr.cells ((framesL b).getD i default))]) (avs := [I64 (offs (framesL b) i : Nat), .agg (Fr.cells ((framesL b).getD i default))]) (isClo_p f caps) rfl (hf i A hlt hA) rfl rfl rfl rfl (List.Perm.swap _ _ _) rfl ?_
    rintro r cs' ⟨A', rfl, ⟨rfl, hA'⟩ | ⟨rfl, hA'⟩⟩
    · repeat (first | refine sc rfl ?_ | refine so rfl ?_ | refine sb rfl ?_ | refine C_scope ?_)
      refine C_false rfl rfl ?_
      repeat (first | refine sc rfl ?_ | refine so rfl ?_ | refine sb rfl ?_ | refine C_scope ?_)
      have e1 : offs (framesL b) (i, A).fst = offs (framesL b) i := rfl
      rw [w64 (by omega) (by omega)]
      refine ⟨(i + 1, A'), ⟨by simp only []; omega, hA'⟩, by simp only []; omega, Le.perm [.box 5 64 (Fr.cells ((framesL b).getD i default))] ⟨rfl, rfl, ?_, trivial⟩ (List.Perm.swap _ _ _)⟩
      simp only [offs_succ _ _ hlt]
      rfl
    · repeat (first | refine sc rfl ?_ | refine so rfl ?_ | refine sb rfl ?_ | refine C_scope ?_)
      refine C_true rfl rfl ?_
      repeat (first | refine sc rfl ?_ | refine so rfl ?_ | refine sb rfl ?_ | refine C_scope ?_)
      exact ⟨_, [A'], _, rfl, .refl _, rfl, rfl, A', rfl, .inr hA'⟩
  · obtain rfl : i = (framesL b).length := by omega
    have hE := fr_end (b := b)
    rw [show frA (b.drop (offs (framesL b) (framesL b).length)) = .tup [.agg [I64 0, I64 0, .s []], I64 0, I64 (frE (b.drop (offs (framesL b) (framesL b).length)))] by
      unfold frA; rw [if_neg hE]]
    repeat (first | refine sc rfl ?_ | refine so rfl ?_ | refine sb rfl ?_ | refine C_scope ?_)
    refine O_true 18 rfl (by simpa using hE) ?_
    repeat (first | refine sc rfl ?_ | refine so rfl ?_ | refine sb rfl ?_ | refine C_scope ?_)
    refine C_true rfl (by simp) ?_
    repeat (first | refine sc rfl ?_ | refine so rfl ?_ | refine sb rfl ?_ | refine C_scope ?_)
    exact ⟨_, [A], [_], rfl, List.Perm.swap _ _ _, rfl, rfl, A, rfl, .inl hA⟩
end Go.Proofs

/- Frames of a connection, walked. -/
set_option linter.unusedSimpArgs false
set_option linter.unusedVariables false
set_option maxRecDepth 100000
namespace Go.Proofs
open Go.Sy Go.Lib

abbrev FRo (ob : Nat) (h : Value) (fs : List Fr) : List Abs := [boxA ob 53 [.v h], vecA h 64 3 fs.length (fun i => Fr.cells (fs.getD i default))]

theorem Frames1_A (at_ : Int) (ob : Nat) (h : Value) (fs : List Fr) (f : Fr) (hfs : fs.length ≤ 1000000000) :
    FnA Try.prog 69 [I64 at_, .agg (Fr.cells f), PT ob 0] (FRo ob h fs) (fun r cs' => r = B true ∧ ∃ h', cs' = FRo ob h' (fs ++ [f])) := by
  refine FnA.intro Try.tabOK Try.wide_ Try.func69 rfl (by decide) rfl (fun X => ?_)
  repeat (first | refine sc rfl ?_ | refine so rfl ?_ | refine sb rfl ?_)
  refine O_loadP 1 (reads_box 0) rfl rfl rfl rfl rfl rfl ?_
  repeat (first | refine sc rfl ?_ | refine so rfl ?_ | refine sb rfl ?_)
  refine O_le _ (Le.ownv 6 3 30 rfl rfl rfl rfl) ?_
  refine O_push Fr.cells fs f [(2, PT ob 0)] rfl rfl rfl rfl rfl rfl rfl rfl rfl rfl ⟨rfl, trivial⟩ rfl rfl (by omega) (by simp only [maxLen]; omega) ?_
  refine O_absv 9 rfl rfl (fun h0 => by simp at h0) (fun g cc => ?_)
  refine O_storeP 3 (writes_box (cells := [.v h]) (o := 0) Nat.zero_lt_one) rfl rfl rfl rfl rfl rfl ?_
  repeat (first | refine sc rfl ?_ | refine so rfl ?_ | refine sb rfl ?_)
  exact ⟨_, _, [_, _], rfl, .refl _, rfl, rfl, HD g (fs ++ [f]).length cc, rfl⟩

def frC (l : List Ev) (c : Int) : List Fr := framesL (strm l (places l c l.length))

theorem take_succF (fs : List Fr) (k : Nat) (h : k < fs.length) : fs.take (k + 1) = fs.take k ++ [fs.getD k default] := by
  rw [List.take_add_one]
  simp [List.getD, List.getElem?_eq_getElem h]

theorem Frames_I (l : List Ev) (c : Int) (hl : l.length ≤ 1000000) (hb : (strm l (places l c l.length)).length ≤ 1000000000) : FnP Try.prog 26 [SL 4 Ev.cells l, I64 c] (· = SL 3 Fr.cells (frC l c)) := by
  refine FnP.intro Try.tabOK Try.wide_ Try.func26 rfl (by decide) rfl (fun X => ?_)
  repeat (first | refine sc rfl ?_ | refine so rfl ?_ | refine sb rfl ?_)
  refine O_call (stream_I l c hl hb) (by rfl) (by rfl) (by rfl) (by rfl) (fun r hr => ?_)
  subst hr
  repeat (first | refine sc rfl ?_ | refine so rfl ?_ | refine sb rfl ?_)
  unfold frC
  generalize hs : strm l (places l c l.length) = b at *
  refine O_absb 5 rfl rfl rfl (fun ob => ?_)
  refine O_le _ (Le.addnil 64 3 (fun i => Fr.cells (([] : List Fr).getD i default))) ?_
  refine O_makeFunc rfl rfl rfl rfl ?_
  have hw := walk_A b hb 69 [PT ob 0] (fun i A => ∃ h, A = packA (FRo ob h ((framesL b).take i))) (fun _ => False) (fun i A hi hA => by
    obtain ⟨h, rfl⟩ := hA
    have hlen := framesL_len b
    refine (Frames1_A _ ob h ((framesL b).take i) ((framesL b).getD i default) (by simp; omega)).packArg.packRes.mono ?_
    rintro r c ⟨c2, ⟨rfl, h', rfl⟩, rfl⟩
    exact ⟨_, rfl, .inl ⟨rfl, h', by rw [take_succF _ _ hi]⟩⟩) (packA (FRo ob (.slice none 0 0) [])) ⟨_, rfl⟩
  have hw2 : FnA Try.prog 68 [.s b, .p (cloRP 69 [PT ob 0])] (FRo ob (.slice none 0 0) []) (fun r cs' => r = .tup [] ∧ ∃ h, cs' = FRo ob h (framesL b)) := by
    refine FnA.unpackRes (FnA.unpackArg (hw.mono ?_))
    rintro r c ⟨rfl, A', rfl, ⟨h, rfl⟩ | hf⟩
    · rw [List.take_length]
      exact ⟨_, ⟨rfl, h, rfl⟩, rfl⟩
    · exact hf.elim
  refine O_callA [1, 0] hw2 (by rfl) (by rfl) (by rfl) (by rfl) (by rfl) ?_
  rintro r cs' ⟨rfl, h, rfl⟩
  repeat (first | refine sc rfl ?_ | refine so rfl ?_ | refine sb rfl ?_)
  refine O_loadP 0 (reads_box 0) rfl rfl rfl rfl rfl rfl ?_
  refine O_le _ (Le.freezeh 17 1 rfl rfl) ?_
  repeat (first | refine sc rfl ?_ | refine so rfl ?_ | refine sb rfl ?_)
  exact ⟨_, rfl, rfl, rfl⟩
end Go.Proofs
