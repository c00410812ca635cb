/- A swap, walked. -/
import Derived.Test.YtgdlhcaidfokkaaWB
import Derived.Test.YtgdlhcaidfokkaaSA
set_option linter.unusedSimpArgs false
set_option linter.unusedVariables false
set_option maxRecDepth 100000
namespace Go.Proofs
open Go.Sy Go.Lib

theorem Asks_p (k : Int) : FnP Try.prog 105 [I64 k] (· = B (askK k)) := by
  refine FnP.intro Try.tabOK Try.wide_ Try.func105 rfl (by decide) rfl (fun X => ?_)
  repeat (first | refine sc rfl ?_ | refine so rfl ?_ | refine sb rfl ?_ | refine C_scope ?_)
  have fin : ∀ b : Bool, b = askK k → B b = B (askK k) := fun b h => by rw [h]
  have t : ∀ c : Int, (k == c) = true → k = c := fun c h => by simpa using h
  have f : ∀ c : Int, (k == c) = false → k ≠ c := fun c h => by simpa using h
  refine C_if rfl (fun h => ?_) (fun h1 => ?_)
  · have := t _ h
    repeat (first | refine sc rfl ?_ | refine so rfl ?_ | refine sb rfl ?_ | refine C_scope ?_)
    refine C_true rfl h ?_
    repeat (first | refine sc rfl ?_ | refine so rfl ?_ | refine sb rfl ?_ | refine C_scope ?_)
    exact ⟨_, rfl, rfl, fin _ (by unfold askK; symm; rw [decide_eq_true_eq]; omega)⟩
  repeat (first | refine sc rfl ?_ | refine so rfl ?_ | refine sb rfl ?_ | refine C_scope ?_)
  refine C_if rfl (fun h => ?_) (fun h2 => ?_)
  · have := t _ h
    repeat (first | refine sc rfl ?_ | refine so rfl ?_ | refine sb rfl ?_ | refine C_scope ?_)
    refine C_true rfl h ?_
    repeat (first | refine sc rfl ?_ | refine so rfl ?_ | refine sb rfl ?_ | refine C_scope ?_)
    exact ⟨_, rfl, rfl, fin _ (by unfold askK; symm; rw [decide_eq_true_eq]; omega)⟩
  repeat (first | refine sc rfl ?_ | refine so rfl ?_ | refine sb rfl ?_ | refine C_scope ?_)
  refine C_if rfl (fun h => ?_) (fun h3 => ?_)
  · have := t _ h
    repeat (first | refine sc rfl ?_ | refine so rfl ?_ | refine sb rfl ?_ | refine C_scope ?_)
    refine C_true rfl h ?_
    repeat (first | refine sc rfl ?_ | refine so rfl ?_ | refine sb rfl ?_ | refine C_scope ?_)
    exact ⟨_, rfl, rfl, fin _ (by unfold askK; symm; rw [decide_eq_true_eq]; omega)⟩
  repeat (first | refine sc rfl ?_ | refine so rfl ?_ | refine sb rfl ?_ | refine C_scope ?_)
  refine C_if rfl (fun h => ?_) (fun h4 => ?_)
  · have := t _ h
    repeat (first | refine sc rfl ?_ | refine so rfl ?_ | refine sb rfl ?_ | refine C_scope ?_)
    refine C_true rfl h ?_
    repeat (first | refine sc rfl ?_ | refine so rfl ?_ | refine sb rfl ?_ | refine C_scope ?_)
    exact ⟨_, rfl, rfl, fin _ (by unfold askK; symm; rw [decide_eq_true_eq]; omega)⟩
  repeat (first | refine sc rfl ?_ | refine so rfl ?_ | refine sb rfl ?_ | refine C_scope ?_)
  refine C_if rfl (fun h => ?_) (fun h5 => ?_)
  · have := t _ h
    repeat (first | refine sc rfl ?_ | refine so rfl ?_ | refine sb rfl ?_ | refine C_scope ?_)
    exact ⟨_, rfl, rfl, fin _ (by unfold askK; symm; rw [decide_eq_true_eq]; omega)⟩
  repeat (first | refine sc rfl ?_ | refine so rfl ?_ | refine sb rfl ?_ | refine C_scope ?_)
  have g1 := f _ h1; have g2 := f _ h2; have g3 := f _ h3; have g4 := f _ h4; have g5 := f _ h5
  repeat (first | refine sc rfl ?_ | refine so rfl ?_ | refine sb rfl ?_ | refine C_scope ?_)
  exact ⟨_, rfl, rfl, fin _ (by unfold askK; symm; rw [decide_eq_false_iff_not]; omega)⟩

theorem refAsks_p (k : Int) : FnP Try.prog 106 [I64 k] (· = B (askK k)) := by
  refine FnP.intro Try.tabOK Try.wide_ Try.func106 rfl (by decide) rfl (fun X => ?_)
  repeat (first | refine sc rfl ?_ | refine so rfl ?_ | refine sb rfl ?_ | refine C_scope ?_)
  have fin : ∀ b : Bool, b = askK k → B b = B (askK k) := fun b h => by rw [h]
  have t : ∀ c : Int, (k == c) = true → k = c := fun c h => by simpa using h
  have f : ∀ c : Int, (k == c) = false → k ≠ c := fun c h => by simpa using h
  refine O_case 5 rfl (fun h1 => ?_) (fun h1 => ?_) <;> repeat (first | refine sc rfl ?_ | refine so rfl ?_ | refine sb rfl ?_)
  · have := t _ h1
    exact ⟨_, rfl, rfl, fin _ (by unfold askK; symm; rw [decide_eq_true_eq]; omega)⟩
  refine O_case 9 rfl (fun h2 => ?_) (fun h2 => ?_) <;> repeat (first | refine sc rfl ?_ | refine so rfl ?_ | refine sb rfl ?_)
  · have := t _ h2
    exact ⟨_, rfl, rfl, fin _ (by unfold askK; symm; rw [decide_eq_true_eq]; omega)⟩
  refine O_case 13 rfl (fun h3 => ?_) (fun h3 => ?_) <;> repeat (first | refine sc rfl ?_ | refine so rfl ?_ | refine sb rfl ?_)
  · have := t _ h3
    exact ⟨_, rfl, rfl, fin _ (by unfold askK; symm; rw [decide_eq_true_eq]; omega)⟩
  refine O_case 17 rfl (fun h4 => ?_) (fun h4 => ?_) <;> repeat (first | refine sc rfl ?_ | refine so rfl ?_ | refine sb rfl ?_)
  · have := t _ h4
    exact ⟨_, rfl, rfl, fin _ (by unfold askK; symm; rw [decide_eq_true_eq]; omega)⟩
  have g1 := f _ h1; have g2 := f _ h2; have g3 := f _ h3; have g4 := f _ h4
  exact ⟨_, rfl, rfl, fin _ (by unfold askK; rw [Bool.eq_iff_iff]; simp only [beq_iff_eq, decide_eq_true_eq]; omega)⟩
end Go.Proofs

/- A swap, walked: what is done at each frame. -/
set_option linter.unusedSimpArgs false
set_option linter.unusedVariables false
set_option maxRecDepth 100000
namespace Go.Proofs
open Go.Sy Go.Lib

def swapB (b : List UInt8) (fr : Nat) (y : List UInt8) : List UInt8 := b.take fr ++ y ++ b.drop (fr + y.length)
theorem swapB_len (b : List UInt8) (fr : Nat) (y : List UInt8) (h : fr + y.length ≤ b.length) : (swapB b fr y).length = b.length := by
  simp [swapB]; omega

abbrev LAY (g cc n : Nat) (ps : List Nat) : AV := .p (cloRP 100 [.cp [SL 1 INT ps], .cp [.v (HD g n cc)]])

/-- One frame: is it the one, may it be swapped? -/
def hit1 (i : Nat) (f : Fr) (x : Sw) : Bool := decide ((i : Int) = x.n) && askK f.k && decide (f.b.length = x.b.length)

theorem do1_A (g cc nb : Nat) (l : List Ev) (ps : List Nat) (b : List UInt8) (x : Sw) (at_ i : Nat) (f : Fr) (hps : ∀ k, k < ps.length → ps.getD k default < l.length) (hl : l.length ≤ 1000000) (hpl : ps.length ≤ 1000000)
    (hb : (strm l ps).length = b.length) (hb2 : b.length ≤ 1000000000) (hi : i ≤ 1000000000) (hf : at_ + 4 + f.b.length ≤ b.length) :
    FnA Try.prog 104 [I64 (at_ : Nat), .agg (Fr.cells f), PT nb 0, .cp (Sw.cells x), .cp [LAY g cc l.length ps], .cp [.s b]] [EV g cc l, boxA nb 3 [I64 (i : Nat)]]
      (fun r cs' => r = B (decide (((i + 1 : Nat) : Int) ≤ x.n)) ∧ cs' = [EV g cc (if hit1 i f x then layL ps l (swapB b (at_ + 4) x.b) else l), boxA nb 3 [I64 ((i + 1 : Nat) : Int)]]) := by
  refine FnA.intro Try.tabOK Try.wide_ Try.func104 rfl (by decide) rfl (fun X => ?_)
  repeat (first | refine sc rfl ?_ | refine so rfl ?_ | refine sb rfl ?_)
  refine O_loadP 2 (reads_box 0) rfl rfl rfl rfl rfl rfl ?_
  repeat (first | refine sc rfl ?_ | refine so rfl ?_ | refine sb rfl ?_)
  refine O_join ⟨[(0, I64 (at_ : Nat)), (2, PT nb 0), (3, .cp (Sw.cells x)), (4, .cp [LAY g cc l.length ps]), (5, .cp [.s b]), (27, B (hit1 i f x))], [.abs (EV g cc l), .abs (boxA nb 3 [I64 (i : Nat)])]⟩ ?_ (fun s h => C_le _ h ?_)
  · have fin : ∀ y : Bool, y = hit1 i f x → some (B y) = some (B (hit1 i f x)) := fun y h => by rw [h]
    refine O_case 14 rfl (fun h1 => ?_) (fun h1 => ?_) <;> repeat (first | refine sc rfl ?_ | refine so rfl ?_ | refine sb rfl ?_)
    · refine O_call (Asks_p f.k) (by rfl) (by rfl) (by rfl) (by rfl) (fun r hr => ?_)
      subst hr
      repeat (first | refine sc rfl ?_ | refine so rfl ?_ | refine sb rfl ?_)
      refine O_case 19 rfl (fun h2 => ?_) (fun h2 => ?_) <;> repeat (first | refine sc rfl ?_ | refine so rfl ?_ | refine sb rfl ?_)
      · refine Le.sub [1000000, 1000000] ⟨rfl, rfl, rfl, rfl, rfl, fin _ ?_, trivial⟩ rfl
        simp only [beq_iff_eq] at h1
        unfold hit1
        rw [h2, decide_eq_true h1, Bool.eq_iff_iff]
        simp only [Bool.and_self, Bool.true_and, Bool.and_true, beq_iff_eq, decide_eq_true_eq]
        omega
      · refine Le.sub [1000000, 1000000] ⟨rfl, rfl, rfl, rfl, rfl, fin _ ?_, trivial⟩ rfl
        unfold hit1
        rw [h2]; simp
    · refine Le.sub [1000000, 1000000] ⟨rfl, rfl, rfl, rfl, rfl, fin _ ?_, trivial⟩ rfl
      simp only [beq_eq_false_iff_ne, ne_eq] at h1
      unfold hit1
      rw [decide_eq_false h1]; simp
  refine C_ifJ ⟨[(2, PT nb 0), (3, .cp (Sw.cells x))], [.abs (EV g cc (if hit1 i f x then layL ps l (swapB b (at_ + 4) x.b) else l)), .abs (boxA nb 3 [I64 (i : Nat)])]⟩ rfl (fun h => ?_) (fun h => ?_) (fun s h => C_le _ h ?_)
  · rw [h, if_pos rfl]
    have hlen : f.b.length = x.b.length := by
      unfold hit1 at h
      simp at h; exact h.2
    have hsw : (swapB b (at_ + 4) x.b).length = b.length := swapB_len _ _ _ (by omega)
    repeat (first | refine sc rfl ?_ | refine so rfl ?_ | refine sb rfl ?_ | refine C_scope ?_)
    rw [w64 (x := (at_ : Int) + 4) (by omega) (by omega)]
    refine C_drawS (fun fl => [.abs (EV g cc (if fl then layL ps l (swapB b (at_ + 4) x.b) else l)), .abs (boxA nb 3 [I64 (i : Nat)])]) 15 rfl rfl (by kernel_rfl) ?_
    repeat (first | refine ss rfl ?_ | refine And.intro trivial ?_)
    refine And.intro ⟨by omega, by omega⟩ ?_
    repeat (first | refine ss rfl ?_ | refine And.intro trivial ?_)
    refine And.intro ?_ ?_
    · show (b.take (at_ + 4)).length + x.b.length ≤ 9223372036854775807
      rw [List.length_take]; omega
    repeat (first | refine ss rfl ?_ | refine And.intro trivial ?_)
    rw [w64 (x := (at_ : Int) + 4 + (x.b.length : Nat)) (by omega) (by omega)]
    refine And.intro ⟨by omega, by omega⟩ ?_
    repeat (first | refine ss rfl ?_ | refine And.intro trivial ?_)
    refine And.intro ?_ ?_
    · show (b.take (at_ + 4) ++ x.b).length + (b.drop (at_ + 4 + x.b.length)).length ≤ 9223372036854775807
      rw [List.length_append, List.length_take, List.length_drop]; omega
    repeat (first | refine ss rfl ?_ | refine And.intro trivial ?_)
    refine S_callAV (cs := [EV g cc l]) (cs1 := [EV g cc (layL ps l (swapB b (at_ + 4) x.b))]) (c := [.abs (boxA nb 3 [I64 (i : Nat)])]) (avs := [.s (swapB b (at_ + 4) x.b)]) rfl (isClo_p 100 _) rfl (lay_A g cc l ps (swapB b (at_ + 4) x.b) hps hl hpl (by rw [hsw]; exact hb) (by omega)) rfl rfl rfl rfl rfl rfl ?_
    repeat (first | refine ss rfl ?_ | refine And.intro trivial ?_)
    exact Le.sub [1000000, 1000000] ⟨rfl, rfl, trivial⟩ rfl
  · rw [h, if_neg (by decide)]
    repeat (first | refine sc rfl ?_ | refine so rfl ?_ | refine sb rfl ?_ | refine C_scope ?_)
    exact Le.sub [1000000, 1000000] ⟨rfl, rfl, trivial⟩ rfl
  repeat (first | refine sc rfl ?_ | refine so rfl ?_ | refine sb rfl ?_ | refine C_scope ?_)
  refine O_loadP 1 (reads_box 0) rfl rfl rfl rfl rfl rfl ?_
  repeat (first | refine sc rfl ?_ | refine so rfl ?_ | refine sb rfl ?_ | refine C_scope ?_)
  rw [w64 (x := (i : Int) + 1) (by omega) (by omega)]
  refine O_storeP 1 (writes_box (cells := [I64 (i : Nat)]) (o := 0) Nat.zero_lt_one) rfl rfl rfl rfl rfl rfl ?_
  repeat (first | refine sc rfl ?_ | refine so rfl ?_ | refine sb rfl ?_ | refine C_scope ?_)
  refine O_loadP 0 (reads_box 0) rfl rfl rfl rfl rfl rfl ?_
  repeat (first | refine sc rfl ?_ | refine so rfl ?_ | refine sb rfl ?_ | refine C_scope ?_)
  exact ⟨_, [_, _], [], rfl, List.Perm.swap _ _ _, rfl, rfl, rfl⟩
end Go.Proofs

/- A swap, walked: do. -/
set_option linter.unusedSimpArgs false
set_option linter.unusedVariables false
set_option maxRecDepth 100000
namespace Go.Proofs
open Go.Sy Go.Lib

def hitL (fs : List Fr) (x : Sw) : Bool := decide (0 ≤ x.n ∧ x.n < (fs.length : Int)) && askK (fs.getD x.n.toNat default).k && decide ((fs.getD x.n.toNat default).b.length = x.b.length)
def doL (l : List Ev) (x : Sw) : List Ev :=
  if hitL (frC l x.c) x then layL (places l x.c l.length) l (swapB (strm l (places l x.c l.length)) (offs (frC l x.c) x.n.toNat + 4) x.b) else l
theorem doL_len (l : List Ev) (x : Sw) : (doL l x).length = l.length := by
  unfold doL; split
  · exact layL_len _ _ _
  · rfl

theorem do_A (g cc : Nat) (l : List Ev) (x : Sw) (hl : l.length ≤ 1000000) (hb : (strm l (places l x.c l.length)).length ≤ 100000000) :
    FnA Try.prog 73 [.v (HD g l.length cc), .agg (Sw.cells x)] [EV g cc l] (fun r cs' => r = .tup [] ∧ cs' = [EV g cc (doL l x)]) := by
  refine FnA.intro Try.tabOK Try.wide_ Try.func73 rfl (by decide) rfl (fun X => ?_)
  repeat (first | refine sc rfl ?_ | refine so rfl ?_ | refine sb rfl ?_)
  refine O_callA [1] (stream_A g cc l x.c hl (by omega)) (by rfl) (by rfl) (by rfl) (by rfl) (by rfl) ?_
  rintro r cs' ⟨rfl, rfl⟩
  have hd : ∀ fs b ps, fs = frC l x.c → b = strm l (places l x.c l.length) → ps = places l x.c l.length → doL l x = if hitL fs x then layL ps l (swapB b (offs fs x.n.toNat + 4) x.b) else l := by
    rintro fs b ps rfl rfl rfl; rfl
  have hfr : frC l x.c = framesL (strm l (places l x.c l.length)) := rfl
  have hpl := places_len l x.c l.length
  have hpm : ∀ k, k < (places l x.c l.length).length → (places l x.c l.length).getD k default < l.length := fun k hk => by
    have : (places l x.c l.length).getD k default ∈ places l x.c l.length := by simp [List.getD, List.getElem?_eq_getElem hk]
    exact (places_mem this).1
  generalize hps : places l x.c l.length = ps at *
  generalize hbb : strm l ps = b at *
  have hdo := hd (framesL b) b ps hfr.symm rfl rfl
  repeat (first | refine sc rfl ?_ | refine so rfl ?_ | refine sb rfl ?_)
  refine O_absb 6 rfl rfl rfl (fun nb => ?_)
  refine O_le _ (Le.freezebox 3 rfl rfl rfl) ?_
  refine O_le _ (Le.freezebox 5 rfl rfl rfl) ?_
  refine O_le _ (Le.freezebox 4 rfl rfl rfl) ?_
  refine O_makeFunc rfl rfl rfl rfl ?_
  have hlen := framesL_len b
  have hw := walk_A b (by omega) 104 [PT nb 0, .cp (Sw.cells x), .cp [LAY g cc l.length ps], .cp [.s b]]
    (fun i A => i ≤ (framesL b).length ∧ A = packA [EV g cc l, boxA nb 3 [I64 (i : Nat)]] ∧ ((i : Int) ≤ x.n ∨ i = 0)) (fun A => ∃ k : Nat, A = packA [EV g cc (doL l x), boxA nb 3 [I64 (k : Nat)]]) (fun i A hi hA => by
    obtain ⟨hil, rfl, hin⟩ := hA
    refine (do1_A g cc nb l ps b x (offs (framesL b) i) i ((framesL b).getD i default) hpm hl (by omega) (by rw [hbb]) (by omega) (by omega) (fr_fit hi)).packArg.packRes.mono ?_
    rintro r c ⟨c2, ⟨rfl, rfl⟩, rfl⟩
    refine ⟨_, rfl, ?_⟩
    by_cases h1 : ((i + 1 : Nat) : Int) ≤ x.n
    · refine .inl ⟨by rw [decide_eq_true h1], by omega, ?_, .inl h1⟩
      have : hit1 i ((framesL b).getD i default) x = false := by
        unfold hit1
        rw [decide_eq_false (by omega)]; rfl
      rw [this, if_neg (by decide)]
    · refine .inr ⟨by rw [decide_eq_false h1], i + 1, ?_⟩
      rw [hdo]
      have : hit1 i ((framesL b).getD i default) x = hitL (framesL b) x := by
        by_cases h2 : (i : Int) = x.n
        · have h3 : x.n.toNat = i := by omega
          unfold hit1 hitL
          rw [decide_eq_true h2, decide_eq_true (show 0 ≤ x.n ∧ x.n < ((framesL b).length : Int) by omega), h3]
        · have h3 : x.n < 0 := by omega
          unfold hit1 hitL
          rw [decide_eq_false h2, decide_eq_false (show ¬ (0 ≤ x.n ∧ x.n < ((framesL b).length : Int)) by omega)]
          rfl
      rw [this]
      by_cases h4 : hitL (framesL b) x = true
      · rw [h4, if_pos rfl, if_pos rfl]
        have h5 : x.n.toNat = i := by
          unfold hit1 at this
          rw [h4] at this
          simp at this
          omega
        rw [h5]
      · rw [if_neg h4, if_neg h4])
    (packA [EV g cc l, boxA nb 3 [I64 ((0 : Nat) : Int)]]) ⟨Nat.zero_le _, rfl, .inr rfl⟩
  have hw2 : FnA Try.prog 68 [.s b, .p (cloRP 104 [PT nb 0, .cp (Sw.cells x), .cp [LAY g cc l.length ps], .cp [.s b]])] [EV g cc l, boxA nb 3 [I64 ((0 : Nat) : Int)]] (fun r cs' => r = .tup [] ∧ ∃ k : Nat, cs' = [EV g cc (doL l x), boxA nb 3 [I64 (k : Nat)]]) := by
    refine FnA.unpackRes (FnA.unpackArg (hw.mono ?_))
    rintro r c ⟨rfl, A', rfl, ⟨h1, rfl, h2⟩ | ⟨k, rfl⟩⟩
    · refine ⟨_, ⟨rfl, (framesL b).length, rfl⟩, ?_⟩
      have h4 : hitL (framesL b) x = false := by
        unfold hitL
        rw [decide_eq_false (show ¬ (0 ≤ x.n ∧ x.n < ((framesL b).length : Int)) by omega)]
        rfl
      rw [hdo, h4, if_neg (by decide)]
    · exact ⟨_, ⟨rfl, k, rfl⟩, rfl⟩
  refine O_callA [1, 0] hw2 (by rfl) (by rfl) (by rfl) (by rfl) (by rfl) ?_
  rintro r cs' ⟨rfl, k, rfl⟩
  repeat (first | refine sc rfl ?_ | refine so rfl ?_ | refine sb rfl ?_)
  exact ⟨_, [_], _, rfl, .refl _, rfl, rfl, rfl⟩
end Go.Proofs

/- Scripts with other bodies, walked. -/
set_option linter.unusedSimpArgs false
set_option linter.unusedVariables false
set_option maxRecDepth 100000
namespace Go.Proofs
open Go.Sy Go.Lib

theorem Clone_A (l : List Ev) (hl : l.length ≤ 1000000) :
    FnA Try.prog 72 [SL 4 Ev.cells l] [] (fun r cs' => (∃ g cc, r = .v (HD g l.length cc) ∧ cs' = [EV g cc l]) ∨ (l = [] ∧ r = .v (.slice none 0 0) ∧ cs' = [])) := by
  refine FnA.intro Try.tabOK Try.wide_ Try.func72 rfl (by decide) rfl (fun X => ?_)
  repeat (first | refine sc rfl ?_ | refine so rfl ?_ | refine sb rfl ?_)
  refine O_nilsl Try.underlying49 rfl rfl rfl (fun b hb => ?_)
  repeat (first | refine sc rfl ?_ | refine so rfl ?_ | refine sb rfl ?_)
  refine C_if rfl (fun h => ?_) (fun h => ?_)
  · repeat (first | refine sc rfl ?_ | refine so rfl ?_ | refine sb rfl ?_)
    exact ⟨_, [], _, rfl, .refl _, rfl, .inr ⟨List.eq_nil_of_length_eq_zero (hb h), rfl, rfl⟩⟩
  · repeat (first | refine sc rfl ?_ | refine so rfl ?_ | refine sb rfl ?_)
    refine O_empty (fun _ => []) rfl rfl rfl rfl rfl ?_
    repeat (first | refine sc rfl ?_ | refine so rfl ?_ | refine sb rfl ?_)
    refine O_append (by_ := 40) (m := 0) (m2 := l.length) (m3 := l.length) (row3 := fun i => Ev.cells (l.getD i default)) (s2 := []) rfl rfl rfl rfl rfl (src_sl rfl (fun i _ => rfl)) rfl trivial rfl rfl (by omega) (by simp only [maxLen]; omega) (by omega) (fun i hi => ?_) ?_
    · unfold appRow
      rw [if_neg (by omega), Nat.sub_zero]
    refine O_absv 7 rfl rfl (fun h0 => ?_) (fun g cc => ?_)
    · repeat (first | refine sc rfl ?_ | refine so rfl ?_ | refine sb rfl ?_)
      exact ⟨_, [], _, rfl, .refl _, rfl, .inr ⟨List.eq_nil_of_length_eq_zero h0, rfl, rfl⟩⟩
    · repeat (first | refine sc rfl ?_ | refine so rfl ?_ | refine sb rfl ?_)
      exact ⟨_, [_], _, rfl, .refl _, rfl, .inl ⟨g, cc, rfl, rfl⟩⟩

theorem do_nil (x : Sw) : FnP Try.prog 73 [.v (.slice none 0 0), .agg (Sw.cells x)] (· = .tup []) := by
  refine FnP.intro Try.tabOK Try.wide_ Try.func73 rfl (by decide) rfl (fun X => ?_)
  repeat (first | refine sc rfl ?_ | refine so rfl ?_ | refine sb rfl ?_)
  have hs : FnP Try.prog 67 [.v (.slice none 0 0), I64 x.c] (· = .tup [.s [], .p (cloRP 100 [.cp [SL 1 INT []], .cp [SL 4 Ev.cells []]])]) :=
    (stream_I [] x.c (by simp) (by simp [strm, places])).argConv (fun G c h => by
      simp only [RepIT] at h ⊢
      obtain ⟨z, zs, e1, h1, z2, zs2, e2, h2, h3⟩ := h
      exact ⟨z, zs, e1, repI_nil h1, z2, zs2, e2, h2, h3⟩)
  refine O_call hs (by rfl) (by rfl) (by rfl) (by rfl) (fun r hr => ?_)
  subst hr
  repeat (first | refine sc rfl ?_ | refine so rfl ?_ | refine sb rfl ?_)
  refine O_absb 6 rfl rfl rfl (fun nb => ?_)
  refine O_le _ (Le.freezebox 3 rfl rfl rfl) ?_
  refine O_le _ (Le.freezebox 5 rfl rfl rfl) ?_
  refine O_le _ (Le.freezebox 4 rfl rfl rfl) ?_
  refine O_makeFunc rfl rfl rfl rfl ?_
  have hw := walk_A [] (by simp) 104 [PT nb 0, .cp (Sw.cells x), .cp [.p (cloRP 100 [.cp [SL 1 INT []], .cp [SL 4 Ev.cells []]])], .cp [.s []]] (fun i A => A = packA []) (fun _ => False)
    (fun i A hi _ => by simp [framesL, frs] at hi) (packA []) rfl
  have hw2 := (FnA.unpackArg hw).toP
  refine O_call hw2 (by rfl) (by rfl) (by rfl) (by rfl) ?_
  rintro r ⟨cs, rfl, _⟩
  repeat (first | refine sc rfl ?_ | refine so rfl ?_ | refine sb rfl ?_)
  exact ⟨_, rfl, rfl, rfl⟩
end Go.Proofs

/- What a swap leaves as it was; Bodies, walked. -/
set_option linter.unusedSimpArgs false
set_option linter.unusedVariables false
set_option maxRecDepth 100000
namespace Go.Proofs
open Go.Sy Go.Lib

/-- All of an event but its bytes. -/
def shp1 (e : Ev) : Int × Int × Int × Nat := (e.k, e.c, e.u, e.b.length)
def shp (l : List Ev) : List (Int × Int × Int × Nat) := l.map shp1
def tot (l : List Ev) : Nat := (l.map (fun e => e.b.length)).sum

theorem shp_len {l m : List Ev} (h : shp l = shp m) : l.length = m.length := by
  have := congrArg List.length h
  simpa [shp] using this
theorem shp_get {l m : List Ev} (h : shp l = shp m) (i : Nat) : shp1 (l.getD i default) = shp1 (m.getD i default) := by
  have h1 : ∀ q : List Ev, (shp q)[i]? = (q[i]?).map shp1 := fun q => by simp [shp]
  have h2 := congrArg (fun q => q[i]?) h
  simp only [h1] at h2
  cases hl : l[i]? with
  | none =>
    rw [hl] at h2
    cases hm : m[i]? with
    | none => simp [List.getD, hl, hm]
    | some y => rw [hm] at h2; cases h2
  | some x =>
    rw [hl] at h2
    cases hm : m[i]? with
    | none => rw [hm] at h2; cases h2
    | some y =>
      rw [hm] at h2
      simpa [List.getD, hl, hm] using h2
theorem shp_tot {l m : List Ev} (h : shp l = shp m) : tot l = tot m := by
  have h1 : ∀ q : List Ev, q.map (fun e => e.b.length) = (shp q).map (fun x => x.2.2.2) := fun q => by simp [shp, shp1]
  unfold tot
  rw [h1, h1, h]
theorem shp_opn {l m : List Ev} (h : shp l = shp m) (i : Nat) : opn l i = opn m i := by
  have h1 : ∀ q : List Ev, opn q i = ((shp q).take i).countP (fun x => x.1 == 1) := fun q => by
    unfold opn shp
    rw [← List.map_take, List.countP_map]
    rfl
  rw [h1, h1, h]
theorem shp_hears {l m : List Ev} (h : shp l = shp m) (i : Nat) (c : Int) : hears l i c = hears m i c := by
  have h1 := shp_get h i
  simp only [shp1, Prod.mk.injEq] at h1
  unfold hears
  rw [h1.1, h1.2.1, shp_opn h]
theorem shp_places {l m : List Ev} (h : shp l = shp m) (c : Int) (i : Nat) : places l c i = places m c i := by
  unfold places
  refine List.filter_congr (fun j _ => ?_)
  exact shp_hears h j c

theorem strm_le (l : List Ev) (c : Int) : ∀ i, i ≤ l.length → (strm l (places l c i)).length ≤ ((l.take i).map (fun e => e.b.length)).sum
  | 0, _ => by simp [strm, places]
  | i + 1, hi => by
    have ih := strm_le l c i (by omega)
    rw [places_succ, List.take_add_one, List.map_append, List.sum_append]
    have h2 : ((l[i]?.toList).map (fun e : Ev => e.b.length)).sum = (l.getD i default).b.length := by
      simp [List.getD, List.getElem?_eq_getElem (show i < l.length by omega)]
    rw [h2]
    split
    · rw [strm_snoc, List.length_append]; omega
    · rw [List.append_nil]; omega
theorem strm_tot (l : List Ev) (c : Int) : (strm l (places l c l.length)).length ≤ tot l := by
  have := strm_le l c l.length (Nat.le_refl _)
  rwa [List.take_length] at this

theorem setB_shp {l : List Ev} {i : Nat} {b : List UInt8} (hi : i < l.length) (hb : b.length = (l.getD i default).b.length) : shp (setB l i b) = shp l := by
  unfold shp
  apply List.ext_getElem
  · simp [setB_len]
  · intro j h1 h2
    simp only [List.length_map] at h1 h2
    rw [List.getElem_map, List.getElem_map]
    have e1 : (setB l i b)[j]'h1 = (setB l i b).getD j default := by simp [List.getD, List.getElem?_eq_getElem h1]
    have e2 : l[j]'h2 = l.getD j default := by simp [List.getD, List.getElem?_eq_getElem h2]
    rw [e1, e2, setB_getD _ _ _ _ hi]
    split
    · rename_i h; subst h; simp [shp1, hb]
    · rfl

theorem strm_shp {l m : List Ev} (h : shp l = shp m) (ps : List Nat) : (strm l ps).length = (strm m ps).length := by
  unfold strm
  rw [List.length_flatMap, List.length_flatMap]
  congr 1
  refine List.map_congr_left (fun i _ => ?_)
  have := shp_get h i
  simp only [shp1, Prod.mk.injEq] at this
  exact this.2.2.2

theorem layL_shp : ∀ (ps : List Nat) (l : List Ev) (b : List UInt8), (∀ i ∈ ps, i < l.length) → (strm l ps).length ≤ b.length → shp (layL ps l b) = shp l
  | [], l, b, _, _ => rfl
  | i :: ps, l, b, hi, hb => by
    have h0 := hi i (List.mem_cons_self ..)
    have h1 : (strm l (i :: ps)).length = (l.getD i default).b.length + (strm l ps).length := by simp [strm]
    rw [h1] at hb
    have hs := setB_shp (l := l) (i := i) (b := b.take (l.getD i default).b.length) h0 (by rw [List.length_take]; omega)
    rw [layL, layL_shp ps _ _ (fun j hj => by rw [setB_len]; exact hi j (List.mem_cons_of_mem _ hj)) (by rw [strm_shp hs, List.length_drop]; omega), hs]

theorem hitL_fit {b : List UInt8} {x : Sw} (h : hitL (framesL b) x = true) : x.n.toNat < (framesL b).length ∧ offs (framesL b) x.n.toNat + 4 + x.b.length ≤ b.length := by
  unfold hitL at h
  simp only [Bool.and_eq_true, decide_eq_true_eq] at h
  obtain ⟨⟨h1, _⟩, h2⟩ := h
  have h3 : x.n.toNat < (framesL b).length := by omega
  have := fr_fit h3
  exact ⟨h3, by omega⟩

theorem doL_shp (l : List Ev) (x : Sw) : shp (doL l x) = shp l := by
  unfold doL
  split
  · rename_i h
    unfold frC at h ⊢
    refine layL_shp _ _ _ (fun i hi => (places_mem hi).1) ?_
    rw [swapB_len _ _ _ (hitL_fit h).2]
    exact Nat.le_refl _
  · rfl

def bodies (l : List Ev) (r : List Sw) : List Ev := r.foldl doL l
theorem bodies_shp : ∀ (r : List Sw) (l : List Ev), shp (bodies l r) = shp l
  | [], l => rfl
  | x :: r, l => (bodies_shp r (doL l x)).trans (doL_shp l x)
theorem bodies_snoc (l : List Ev) (r : List Sw) (x : Sw) : bodies l (r ++ [x]) = doL (bodies l r) x := by simp [bodies]
theorem take_succS (r : List Sw) (k : Nat) (h : k < r.length) : r.take (k + 1) = r.take k ++ [r.getD k default] := by
  rw [List.take_add_one]
  simp [List.getD, List.getElem?_eq_getElem h]

theorem bodies_empty (r : List Sw) : bodies [] r = [] := by
  have := shp_len (bodies_shp r [])
  exact List.eq_nil_of_length_eq_zero (by simpa using this)

theorem Bodies_I (l : List Ev) (r : List Sw) (hl : l.length ≤ 1000000) (hr : r.length ≤ 1000000) (ht : tot l ≤ 100000000) : FnP Try.prog 29 [SL 4 Ev.cells l, SL 3 Sw.cells r] (· = SL 4 Ev.cells (bodies l r)) := by
  refine FnP.intro Try.tabOK Try.wide_ Try.func29 rfl (by decide) rfl (fun X => ?_)
  repeat (first | refine sc rfl ?_ | refine so rfl ?_ | refine sb rfl ?_)
  refine O_callA [] (Clone_A l hl) (by rfl) (by rfl) (by rfl) (by rfl) (by rfl) ?_
  rintro rr cs' (⟨g, cc, rfl, rfl⟩ | ⟨rfl, rfl, rfl⟩)
  · repeat (first | refine sc rfl ?_ | refine so rfl ?_ | refine sb rfl ?_)
    refine C_loop (fun k : Nat => ⟨[(5, .v (HD g l.length cc)), (10, SL 3 Sw.cells r), (11, I64 (r.length : Nat)), (12, I64 (k : Nat))], [.abs (vecA (HD g l.length cc) 62 4 l.length (fun i => Ev.cells ((bodies l (r.take k)).getD i default)))]⟩) (fun k => k ≤ r.length) (fun k => r.length - k) 0 (Nat.zero_le _)
      (Le.sub [1000000] ⟨rfl, rfl, rfl, rfl, trivial⟩ rfl) ?_
    intro k hk
    have hsh := bodies_shp (r.take k) l
    have hln := shp_len hsh
    repeat (first | refine sc rfl ?_ | refine so rfl ?_ | refine sb rfl ?_ | refine C_scope ?_)
    refine C_if rfl (fun h1 => ?_) (fun h1 => ?_) <;> simp only [decide_eq_true_eq, decide_eq_false_iff_not] at h1
    · repeat (first | refine sc rfl ?_ | refine so rfl ?_ | refine sb rfl ?_ | refine ⟨by omega, ?_⟩ | refine C_scope ?_)
      have hdo := do_A g cc (bodies l (r.take k)) (r.getD k default) (by omega) (by
        have := strm_tot (bodies l (r.take k)) (r.getD k default).c
        have := shp_tot hsh
        omega)
      rw [hln, EV, hln] at hdo
      refine O_callA [1] hdo (by rfl) (by rfl) (by rfl) (by rfl) (by rfl) ?_
      rintro rr cs' ⟨rfl, rfl⟩
      repeat (first | refine sc rfl ?_ | refine so rfl ?_ | refine sb rfl ?_ | refine C_scope ?_)
      rw [w64 (x := (k : Int) + 1) (by omega) (by omega)]
      refine ⟨k + 1, by omega, by omega, Le.sub [1000000] ⟨rfl, rfl, rfl, rfl, trivial⟩ ?_⟩
      rw [take_succS r k (by omega), bodies_snoc, EV, doL_len, hln]
      rfl
    · obtain rfl : k = r.length := by omega
      rw [List.take_length] at *
      refine C_le _ (Le.freezeh 5 0 rfl rfl) ?_
      repeat (first | refine sc rfl ?_ | refine so rfl ?_ | refine sb rfl ?_ | refine C_scope ?_)
      refine ⟨_, rfl, rfl, ?_⟩
      rw [SL, hln]
  · repeat (first | refine sc rfl ?_ | refine so rfl ?_ | refine sb rfl ?_)
    refine C_loop (fun k : Nat => ⟨[(5, .v (.slice none 0 0)), (10, SL 3 Sw.cells r), (11, I64 (r.length : Nat)), (12, I64 (k : Nat))], []⟩) (fun k => k ≤ r.length) (fun k => r.length - k) 0 (Nat.zero_le _)
      (Le.sub [] ⟨rfl, rfl, rfl, rfl, trivial⟩ rfl) ?_
    intro k hk
    repeat (first | refine sc rfl ?_ | refine so rfl ?_ | refine sb rfl ?_ | refine C_scope ?_)
    refine C_if rfl (fun h1 => ?_) (fun h1 => ?_) <;> simp only [decide_eq_true_eq, decide_eq_false_iff_not] at h1
    · repeat (first | refine sc rfl ?_ | refine so rfl ?_ | refine sb rfl ?_ | refine ⟨by omega, ?_⟩ | refine C_scope ?_)
      refine O_call (do_nil (r.getD k default)) (by rfl) (by rfl) (by rfl) (by rfl) (fun rr hr => ?_)
      subst hr
      repeat (first | refine sc rfl ?_ | refine so rfl ?_ | refine sb rfl ?_ | refine C_scope ?_)
      rw [w64 (x := (k : Int) + 1) (by omega) (by omega)]
      exact ⟨k + 1, by omega, by omega, Le.sub [] ⟨rfl, rfl, rfl, rfl, trivial⟩ rfl⟩
    · refine C_le _ ((Le.addnil 62 4 (fun i => Ev.cells (([] : List Ev).getD i default))).trans (Le.freezeh 5 0 rfl rfl)) ?_
      repeat (first | refine sc rfl ?_ | refine so rfl ?_ | refine sb rfl ?_ | refine C_scope ?_)
      refine ⟨_, rfl, rfl, ?_⟩
      rw [bodies_empty]
      rfl
end Go.Proofs
