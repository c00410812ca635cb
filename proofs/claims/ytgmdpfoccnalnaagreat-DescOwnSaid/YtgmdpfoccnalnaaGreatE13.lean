/- Contracts of parse: declarations. -/
import Derived.Test.YtgmdpfoccnalnaaGreatE12
import Derived.Test.YtgmdpfoccnalnaaGreatE4
import Derived.Test.YtgmdpfoccnalnaaGreatE7
import Derived.Test.YtgmdpfoccnalnaaGreatE9
import Derived.Test.YtgmdpfoccnalnaaGreatE10
import Derived.Test.YtgmdpfoccnalnaaGreatE11
import Derived.Test.YtgmdpfoccnalnaaGreatE6
import Derived.Laws.StructEq
set_option linter.unusedSimpArgs false
set_option linter.unusedVariables false
set_option maxRecDepth 100000
namespace Go.Proofs
open Go.Sy Go.Lib

section
variable {ts : List Tok}
theorem next_ge (p : PS) : p.i ≤ p.next.i := Nat.le_succ _
theorem may_ge (s : List UInt8) (p : PS) : p.i ≤ (mayP ts s p).i := by unfold mayP; split; exact next_ge p; exact Nat.le_refl _
theorem need_ge (s : List UInt8) (p : PS) : p.i ≤ (needF ts s p).i := by unfold needF; split; exact next_ge p; rw [failF_i]; exact Nat.le_refl _
theorem name_ge (p : PS) : p.i ≤ (nameP ts p).i := by
  unfold nameP
  have hi : (nmB ts p).i = p.i := by unfold nmB; split; exact failF_i ts 5 p; rfl
  split
  · omega
  · show p.i ≤ (nmB ts p).i + 1; omega
theorem num_ge (p : PS) : p.i ≤ (numP ts p).i := by
  unfold numP
  have hi : (numB ts p).i = p.i := by unfold numB; split; exact failF_i ts 5 p; rfl
  split
  · omega
  · show p.i ≤ (numB ts p).i + 1; omega
theorem base_ge {rec : Int → PS → Ty × PS} {deep : Int} (hr : ∀ p : PS, p.i ≤ (rec (deep + 1) p).2.i) (p : PS) : p.i ≤ (baseF ts rec deep p).2.i := by
  unfold baseF
  split
  · exact next_ge p
  · split
    · exact Nat.le_trans (next_ge p) (Nat.le_trans (need_ge [60] _) (Nat.le_trans (hr _) (need_ge _ _)))
    · split
      · exact Nat.le_trans (next_ge p) (Nat.le_trans (need_ge [60] _) (Nat.le_trans (hr _) (Nat.le_trans (need_ge _ _) (Nat.le_trans (hr _) (need_ge _ _)))))
      · exact name_ge p
theorem typ_ge : ∀ (n : Nat) (deep : Int) (p : PS), p.i ≤ (typF ts n deep p).2.i
  | 0, _, p => Nat.le_refl _
  | n + 1, deep, p => by
    have hd : (dpP ts deep p).i = p.i := by unfold dpP; split; exact failF_i ts 10 p; rfl
    have hb := base_ge (ts := ts) (rec := typF ts n) (deep := deep) (fun q => typ_ge n (deep + 1) q) (dpP ts deep p)
    unfold typF
    split
    · show p.i ≤ (dpP ts deep p).i; omega
    · split
      · show p.i ≤ (baseF ts (typF ts n) deep (dpP ts deep p)).2.i + 1; omega
      · omega
theorem field_ge (p : PS) (d : Dcl) : p.i ≤ (fieldR ts p d).2.i :=
  Nat.le_trans (num_ge p) (Nat.le_trans (name_ge _) (Nat.le_trans (need_ge [58] _) (typ_ge 10 0 _)))
theorem enum_ge (p : PS) (d : Dcl) : p.i ≤ (enumR ts p d).2.i := Nat.le_trans (num_ge p) (name_ge _)
theorem meth_ge (p : PS) (d : Dcl) : p.i ≤ (methR ts p d).2.i :=
  Nat.le_trans (may_ge _ p) (Nat.le_trans (num_ge _) (Nat.le_trans (name_ge _) (Nat.le_trans (need_ge _ _) (Nat.le_trans (name_ge _) (Nat.le_trans (need_ge _ _) (Nat.le_trans (need_ge _ _) (name_ge _)))))))
theorem rows_ge {R : PS → Dcl → Dcl × PS} (hge : ∀ (p : PS) (d : Dcl), p.i ≤ (R p d).2.i) : ∀ (n k : Nat) (p : PS) (d : Dcl), p.i ≤ (rowsF ts R n k p d).2.i
  | 0, _, p, d => Nat.le_refl _
  | n + 1, k, p, d => by
    unfold rowsF
    split
    · split
      · exact next_ge p
      · exact Nat.le_trans (body_i ts hge).1 (rows_ge hge n (k + 1) _ _)
    · exact Nat.le_refl _
variable (hT : TsOK ts)
include hT in
theorem field_lt (p : PS) (d : Dcl) (hp : p.i < ts.length) : (fieldR ts p d).2.i < ts.length := typ_lt hT 10 0 _ (need_lt hT (name_lt hT (num_lt hT hp)) _)
include hT in
theorem enum_lt (p : PS) (d : Dcl) (hp : p.i < ts.length) : (enumR ts p d).2.i < ts.length := name_lt hT (num_lt hT hp)
include hT in
theorem meth_lt (p : PS) (d : Dcl) (hp : p.i < ts.length) : (methR ts p d).2.i < ts.length :=
  name_lt hT (need_lt hT (need_lt hT (name_lt hT (need_lt hT (name_lt hT (num_lt hT (may_lt hT hp _))) _)) _) _)
include hT in
theorem body_lt {R : PS → Dcl → Dcl × PS} {k : Nat} {p : PS} {d : Dcl} (hlt : ∀ (p : PS) (d : Dcl), p.i < ts.length → (R p d).2.i < ts.length) (hp : p.i < ts.length) : (bodyF ts R k p d).2.i < ts.length := by
  unfold bodyF
  simp only []
  have hi : (if k = 16 ∧ (nowF ts p).kind ≠ 4 then failF ts 3 p else p).i < ts.length := by split; rw [failF_i]; exact hp; exact hp
  generalize (if k = 16 ∧ (nowF ts p).kind ≠ 4 then failF ts 3 p else p) = p1 at *
  split
  · exact need_lt hT (hlt _ _ hi) _
  · exact hi
include hT in
theorem rows_lt {R : PS → Dcl → Dcl × PS} (hlt : ∀ (p : PS) (d : Dcl), p.i < ts.length → (R p d).2.i < ts.length) : ∀ (n k : Nat) (p : PS) (d : Dcl), p.i < ts.length → (rowsF ts R n k p d).2.i < ts.length
  | 0, _, p, d, hp => hp
  | n + 1, k, p, d, hp => by
    unfold rowsF
    split
    · split
      · rename_i h; exact next_lt hT hp h
      · exact rows_lt hlt n (k + 1) _ _ (body_lt hT hlt hp)
    · exact hp
end

def wStruct : List UInt8 := [115, 116, 114, 117, 99, 116]
def wUnion : List UInt8 := [117, 110, 105, 111, 110]
def wEnum : List UInt8 := [101, 110, 117, 109]
def wService : List UInt8 := [115, 101, 114, 118, 105, 99, 101]
/-- Which kind, which rows, and where the parser is behind the first word. -/
def headF (ts : List Tok) (p : PS) : Int × (PS → Dcl → Dcl × PS) × PS :=
  if mayF ts [115, 116, 114, 117, 99, 116] p then (1, fieldR ts, p.next) else if mayF ts [117, 110, 105, 111, 110] p then (2, fieldR ts, p.next) else
  if mayF ts [101, 110, 117, 109] p then (3, enumR ts, p.next) else if mayF ts [115, 101, 114, 118, 105, 99, 101] p then (4, methR ts, p.next) else (0, fieldR ts, failF ts 5 p)
def declF (ts : List Tok) (p : PS) : Dcl × PS :=
  rowsF ts (headF ts p).2.1 (ts.length + 1) 0 (needF ts [123] (nameP ts (headF ts p).2.2)) ⟨(headF ts p).1, nameV ts (headF ts p).2.2, [], [], (nowF ts p).at_⟩

section
variable (m : Int) (b : Nat) (ts : List Tok) (hT : TsOK ts)
include hT in
theorem fieldC (bd : Nat) : RowC m b ts bd 183 [.cp [PT b 0], PT bd 0] (fieldR ts) :=
  ⟨fun p d hp => field_lt hT p d hp, field_ge, fun p d => by simp [fieldR], fun p d hf hm hp h1 h2 => (field_A m b ts hT p hp bd d hf hm h1).mono (fun r cs' ⟨h, hf', h'⟩ => ⟨h, hf', hm, h'⟩)⟩
include hT in
theorem enumC (bd : Nat) : RowC m b ts bd 189 [PT bd 0, .cp [PT b 0]] (enumR ts) :=
  ⟨fun p d hp => enum_lt hT p d hp, enum_ge, fun p d => by simp [enumR], fun p d hf hm hp h1 h2 => (enum_A m b ts hT p hp bd d hf hm h1).mono (fun r cs' ⟨h, hf', h'⟩ => ⟨h, hf', hm, h'⟩)⟩
include hT in
theorem methC (bd : Nat) : RowC m b ts bd 190 [PT bd 0, .cp [PT b 0]] (methR ts) :=
  ⟨fun p d hp => meth_lt hT p d hp, meth_ge, fun p d => by simp [methR], fun p d hf hm hp h1 h2 => (service_A m b ts hT p hp bd d hf hm h2).mono (fun r cs' ⟨h, hm', h'⟩ => ⟨h, hf, hm', h'⟩)⟩

include hT in
theorem decl_A (p : PS) (hp : p.i < ts.length) : FnA Tryz.prog 113 [PT b 0] [psA m b ts p] (fun r cs' => r = .agg (Dcl.c (declF ts p).1) ∧ cs' = [psA m b ts (declF ts p).2]) := by
  refine FnA.intro Tryz.tabOK Tryz.wide_ Tryz.func113 rfl (by decide) rfl (fun X => ?_)
  have hlen := hT.len
  repeat (first | refine O_le _ (Le.freezebox 1 rfl rfl rfl) ?_ | refine sc rfl ?_ | refine so rfl ?_ | refine sb rfl ?_)
  first
    | refine O_callA [0] (now_A m b ts hT p hp) (by rfl) (by rfl) (by rfl) (by rfl) (by rfl) ?_
    | refine O_callA [1] (now_A m b ts hT p hp) (by rfl) (by rfl) (by rfl) (by rfl) (by rfl) ?_
    | refine O_callA [2] (now_A m b ts hT p hp) (by rfl) (by rfl) (by rfl) (by rfl) (by rfl) ?_
    | refine O_callA [3] (now_A m b ts hT p hp) (by rfl) (by rfl) (by rfl) (by rfl) (by rfl) ?_
    | refine O_callA [4] (now_A m b ts hT p hp) (by rfl) (by rfl) (by rfl) (by rfl) (by rfl) ?_
  rintro r cs' ⟨rfl, rfl⟩
  repeat (first | refine sc rfl ?_ | refine so rfl ?_ | refine sb rfl ?_)
  refine O_Xd (X_field Tryz.underlying222 rfl rfl rfl rfl rfl rfl rfl) ?_
  repeat (first | refine sc rfl ?_ | refine so rfl ?_ | refine sb rfl ?_)
  refine O_absb 3 rfl rfl rfl (fun bd => ?_)
  refine O_makeFunc rfl rfl rfl rfl ?_
  refine O_le _ (Le.addVec 65 5 (fun i => Fld.c (([] : List Fld).getD i default))) ?_
  refine O_le _ (Le.addVec 92 5 (fun i => Mth.c (([] : List Mth).getD i default))) ?_
  iterate 8 (first | refine sc rfl ?_ | refine so rfl ?_ | refine sb rfl ?_)
  refine C_joinE (α := FuncId × List AV × (PS → Dcl → Dcl × PS) × Int × PS) (fun q => ⟨[(1, .cp [PT b 0]), (2, .bp 2 0), (3, PT bd 0), (5, .p (cloRP q.1 q.2.1))], [.abs (psA m b ts q.2.2.2.2), .abs (dA bd ⟨q.2.2.2.1, [], [], [], (nowF ts p).at_⟩ (.slice none 0 0) (.slice none 0 0)), .abs (fldA (.slice none 0 0) []), .abs (mthA (.slice none 0 0) []), .box 2 60 [I64 0, .s [], .v (.slice none 0 0), .v (.slice none 0 0), I64 0]]⟩)
    (fun q => RowC m b ts bd q.1 q.2.1 q.2.2.1 ∧ headF ts p = (q.2.2.2.1, q.2.2.1, q.2.2.2.2) ∧ q.2.2.2.2.i < ts.length) ?_ ?_
  · skip
    repeat (first | refine sc rfl ?_ | refine so rfl ?_ | refine sb rfl ?_)
    first
      | refine O_callA [0] (may_A m b ts hT p hp [115, 116, 114, 117, 99, 116]) (by rfl) (by rfl) (by rfl) (by rfl) (by rfl) ?_
      | refine O_callA [1] (may_A m b ts hT p hp [115, 116, 114, 117, 99, 116]) (by rfl) (by rfl) (by rfl) (by rfl) (by rfl) ?_
      | refine O_callA [2] (may_A m b ts hT p hp [115, 116, 114, 117, 99, 116]) (by rfl) (by rfl) (by rfl) (by rfl) (by rfl) ?_
      | refine O_callA [3] (may_A m b ts hT p hp [115, 116, 114, 117, 99, 116]) (by rfl) (by rfl) (by rfl) (by rfl) (by rfl) ?_
      | refine O_callA [4] (may_A m b ts hT p hp [115, 116, 114, 117, 99, 116]) (by rfl) (by rfl) (by rfl) (by rfl) (by rfl) ?_
    rintro r cs' ⟨rfl, rfl⟩
    unfold mayP
    repeat (first | refine sc rfl ?_ | refine so rfl ?_ | refine sb rfl ?_)
    cases ha : mayF ts [115, 116, 114, 117, 99, 116] p with
    | true =>
      refine C_true rfl rfl ?_
      simp only [if_true]
      repeat (first | refine sc rfl ?_ | refine so rfl ?_ | refine sb rfl ?_)
      refine O_Xn (X_storeP 3 (A := dA bd ⟨0, [], [], [], (nowF ts p).at_⟩ (.slice none 0 0) (.slice none 0 0)) (writes_box (by show 0 < 5; decide)) rfl rfl rfl rfl rfl rfl rfl) ?_
      repeat (first | refine sc rfl ?_ | refine so rfl ?_ | refine sb rfl ?_)
      exact ⟨(183, [.cp [PT b 0], PT bd 0], fieldR ts, 1, p.next), ⟨fieldC m b ts hT bd, by unfold headF; simp only [ha, Bool.false_eq_true, if_false, if_true], next_lt hT hp ha⟩, Le.pick [1, 0, 1, 0, 0] ⟨rfl, rfl, rfl, rfl, trivial⟩ rfl⟩
    | false =>
    refine C_false rfl rfl ?_
    simp only [Bool.false_eq_true, if_false]
    repeat (first | refine sc rfl ?_ | refine so rfl ?_ | refine sb rfl ?_)
    first
      | refine O_callA [0] (may_A m b ts hT p hp [117, 110, 105, 111, 110]) (by rfl) (by rfl) (by rfl) (by rfl) (by rfl) ?_
      | refine O_callA [1] (may_A m b ts hT p hp [117, 110, 105, 111, 110]) (by rfl) (by rfl) (by rfl) (by rfl) (by rfl) ?_
      | refine O_callA [2] (may_A m b ts hT p hp [117, 110, 105, 111, 110]) (by rfl) (by rfl) (by rfl) (by rfl) (by rfl) ?_
      | refine O_callA [3] (may_A m b ts hT p hp [117, 110, 105, 111, 110]) (by rfl) (by rfl) (by rfl) (by rfl) (by rfl) ?_
      | refine O_callA [4] (may_A m b ts hT p hp [117, 110, 105, 111, 110]) (by rfl) (by rfl) (by rfl) (by rfl) (by rfl) ?_
    rintro r cs' ⟨rfl, rfl⟩
    unfold mayP
    repeat (first | refine sc rfl ?_ | refine so rfl ?_ | refine sb rfl ?_)
    cases hb : mayF ts [117, 110, 105, 111, 110] p with
    | true =>
      refine C_true rfl rfl ?_
      simp only [if_true]
      repeat (first | refine sc rfl ?_ | refine so rfl ?_ | refine sb rfl ?_)
      refine O_Xn (X_storeP 3 (A := dA bd ⟨0, [], [], [], (nowF ts p).at_⟩ (.slice none 0 0) (.slice none 0 0)) (writes_box (by show 0 < 5; decide)) rfl rfl rfl rfl rfl rfl rfl) ?_
      repeat (first | refine sc rfl ?_ | refine so rfl ?_ | refine sb rfl ?_)
      exact ⟨(183, [.cp [PT b 0], PT bd 0], fieldR ts, 2, p.next), ⟨fieldC m b ts hT bd, by unfold headF; simp only [ha, hb, Bool.false_eq_true, if_false, if_true], next_lt hT hp hb⟩, Le.pick [1, 0, 1, 0, 0] ⟨rfl, rfl, rfl, rfl, trivial⟩ rfl⟩
    | false =>
    refine C_false rfl rfl ?_
    simp only [Bool.false_eq_true, if_false]
    repeat (first | refine sc rfl ?_ | refine so rfl ?_ | refine sb rfl ?_)
    first
      | refine O_callA [0] (may_A m b ts hT p hp [101, 110, 117, 109]) (by rfl) (by rfl) (by rfl) (by rfl) (by rfl) ?_
      | refine O_callA [1] (may_A m b ts hT p hp [101, 110, 117, 109]) (by rfl) (by rfl) (by rfl) (by rfl) (by rfl) ?_
      | refine O_callA [2] (may_A m b ts hT p hp [101, 110, 117, 109]) (by rfl) (by rfl) (by rfl) (by rfl) (by rfl) ?_
      | refine O_callA [3] (may_A m b ts hT p hp [101, 110, 117, 109]) (by rfl) (by rfl) (by rfl) (by rfl) (by rfl) ?_
      | refine O_callA [4] (may_A m b ts hT p hp [101, 110, 117, 109]) (by rfl) (by rfl) (by rfl) (by rfl) (by rfl) ?_
    rintro r cs' ⟨rfl, rfl⟩
    unfold mayP
    repeat (first | refine sc rfl ?_ | refine so rfl ?_ | refine sb rfl ?_)
    cases hc : mayF ts [101, 110, 117, 109] p with
    | true =>
      refine C_true rfl rfl ?_
      simp only [if_true]
      repeat (first | refine sc rfl ?_ | refine so rfl ?_ | refine sb rfl ?_)
      refine O_Xn (X_storeP 3 (A := dA bd ⟨0, [], [], [], (nowF ts p).at_⟩ (.slice none 0 0) (.slice none 0 0)) (writes_box (by show 0 < 5; decide)) rfl rfl rfl rfl rfl rfl rfl) ?_
      repeat (first | refine sc rfl ?_ | refine so rfl ?_ | refine sb rfl ?_)
      refine O_makeFunc rfl rfl rfl rfl ?_
      repeat (first | refine sc rfl ?_ | refine so rfl ?_ | refine sb rfl ?_)
      exact ⟨(189, [PT bd 0, .cp [PT b 0]], enumR ts, 3, p.next), ⟨enumC m b ts hT bd, by unfold headF; simp only [ha, hb, hc, Bool.false_eq_true, if_false, if_true], next_lt hT hp hc⟩, Le.pick [1, 0, 1, 0, 0] ⟨rfl, rfl, rfl, rfl, trivial⟩ rfl⟩
    | false =>
    refine C_false rfl rfl ?_
    simp only [Bool.false_eq_true, if_false]
    repeat (first | refine sc rfl ?_ | refine so rfl ?_ | refine sb rfl ?_)
    first
      | refine O_callA [0] (may_A m b ts hT p hp [115, 101, 114, 118, 105, 99, 101]) (by rfl) (by rfl) (by rfl) (by rfl) (by rfl) ?_
      | refine O_callA [1] (may_A m b ts hT p hp [115, 101, 114, 118, 105, 99, 101]) (by rfl) (by rfl) (by rfl) (by rfl) (by rfl) ?_
      | refine O_callA [2] (may_A m b ts hT p hp [115, 101, 114, 118, 105, 99, 101]) (by rfl) (by rfl) (by rfl) (by rfl) (by rfl) ?_
      | refine O_callA [3] (may_A m b ts hT p hp [115, 101, 114, 118, 105, 99, 101]) (by rfl) (by rfl) (by rfl) (by rfl) (by rfl) ?_
      | refine O_callA [4] (may_A m b ts hT p hp [115, 101, 114, 118, 105, 99, 101]) (by rfl) (by rfl) (by rfl) (by rfl) (by rfl) ?_
    rintro r cs' ⟨rfl, rfl⟩
    unfold mayP
    repeat (first | refine sc rfl ?_ | refine so rfl ?_ | refine sb rfl ?_)
    cases hd : mayF ts [115, 101, 114, 118, 105, 99, 101] p with
    | true =>
      refine C_true rfl rfl ?_
      simp only [if_true]
      repeat (first | refine sc rfl ?_ | refine so rfl ?_ | refine sb rfl ?_)
      refine O_Xn (X_storeP 3 (A := dA bd ⟨0, [], [], [], (nowF ts p).at_⟩ (.slice none 0 0) (.slice none 0 0)) (writes_box (by show 0 < 5; decide)) rfl rfl rfl rfl rfl rfl rfl) ?_
      repeat (first | refine sc rfl ?_ | refine so rfl ?_ | refine sb rfl ?_)
      refine O_makeFunc rfl rfl rfl rfl ?_
      repeat (first | refine sc rfl ?_ | refine so rfl ?_ | refine sb rfl ?_)
      exact ⟨(190, [PT bd 0, .cp [PT b 0]], methR ts, 4, p.next), ⟨methC m b ts hT bd, by unfold headF; simp only [ha, hb, hc, hd, Bool.false_eq_true, if_false, if_true], next_lt hT hp hd⟩, Le.pick [1, 0, 1, 0, 0] ⟨rfl, rfl, rfl, rfl, trivial⟩ rfl⟩
    | false =>
    refine C_false rfl rfl ?_
    simp only [Bool.false_eq_true, if_false]
    repeat (first | refine sc rfl ?_ | refine so rfl ?_ | refine sb rfl ?_)
    first
      | refine O_callA [0] (fail_A m b ts hT p hp 5) (by rfl) (by rfl) (by rfl) (by rfl) (by rfl) ?_
      | refine O_callA [1] (fail_A m b ts hT p hp 5) (by rfl) (by rfl) (by rfl) (by rfl) (by rfl) ?_
      | refine O_callA [2] (fail_A m b ts hT p hp 5) (by rfl) (by rfl) (by rfl) (by rfl) (by rfl) ?_
      | refine O_callA [3] (fail_A m b ts hT p hp 5) (by rfl) (by rfl) (by rfl) (by rfl) (by rfl) ?_
      | refine O_callA [4] (fail_A m b ts hT p hp 5) (by rfl) (by rfl) (by rfl) (by rfl) (by rfl) ?_
    rintro r cs' ⟨rfl, rfl⟩
    repeat (first | refine sc rfl ?_ | refine so rfl ?_ | refine sb rfl ?_)
    exact ⟨(183, [.cp [PT b 0], PT bd 0], fieldR ts, 0, failF ts 5 p), ⟨fieldC m b ts hT bd, by unfold headF; simp only [ha, hb, hc, hd, Bool.false_eq_true, if_false], by show (failF ts 5 p).i < _; rw [failF_i]; exact hp⟩, Le.pick [0, 2, 1, 0, 0] ⟨rfl, rfl, rfl, rfl, trivial⟩ rfl⟩
  · rintro ⟨f, caps, R, k, p1⟩ s ⟨hR, hH, h1⟩ hs
    simp only [] at hR hH h1 hs
    refine C_le _ hs ?_
    have hD : declF ts p = rowsF ts R (ts.length + 1) 0 (needF ts [123] (nameP ts p1)) ⟨k, nameV ts p1, [], [], (nowF ts p).at_⟩ := by unfold declF; rw [hH]
    have l2 := name_lt hT h1
    repeat (first | refine sc rfl ?_ | refine so rfl ?_ | refine sb rfl ?_)
    first
      | refine O_callA [0] (name_A m b ts hT p1 h1) (by rfl) (by rfl) (by rfl) (by rfl) (by rfl) ?_
      | refine O_callA [1] (name_A m b ts hT p1 h1) (by rfl) (by rfl) (by rfl) (by rfl) (by rfl) ?_
      | refine O_callA [2] (name_A m b ts hT p1 h1) (by rfl) (by rfl) (by rfl) (by rfl) (by rfl) ?_
      | refine O_callA [3] (name_A m b ts hT p1 h1) (by rfl) (by rfl) (by rfl) (by rfl) (by rfl) ?_
      | refine O_callA [4] (name_A m b ts hT p1 h1) (by rfl) (by rfl) (by rfl) (by rfl) (by rfl) ?_
    rintro r cs' ⟨rfl, rfl⟩
    repeat (first | refine sc rfl ?_ | refine so rfl ?_ | refine sb rfl ?_)
    refine O_Xn (X_storeP 1 (A := dA bd ⟨k, [], [], [], (nowF ts p).at_⟩ (.slice none 0 0) (.slice none 0 0)) (writes_box (by show 1 < 5; decide)) rfl rfl rfl rfl rfl rfl rfl) ?_
    repeat (first | refine sc rfl ?_ | refine so rfl ?_ | refine sb rfl ?_)
    refine O_callA [1, 0, 0, 0] (rows_A m b ts hT bd hR (nameP ts p1) l2 ⟨k, nameV ts p1, [], [], (nowF ts p).at_⟩ (.slice none 0 0) (.slice none 0 0) ⟨rfl, rfl⟩) (by rfl) (by rfl) (by rfl) (by rfl) (by rfl) ?_
    rintro r cs' ⟨rfl, hf', hm', rfl⟩
    rw [← hD]
    generalize declF ts p = x at *
    obtain ⟨d, p3⟩ := x
    simp only []
    refine O_le _ (Le.frVec 2 (fun i => Fld.c (d.fields.getD i default)) rfl (fun i hi => rfl)) ?_
    refine O_le _ (Le.cellA 2 0 2 rfl rfl) ?_
    refine O_le _ (Le.frVec 2 (fun i => Mth.c (d.methods.getD i default)) rfl (fun i hi => rfl)) ?_
    refine O_le _ (Le.cellA 1 0 3 rfl rfl) ?_
    repeat (first | refine sc rfl ?_ | refine so rfl ?_ | refine sb rfl ?_)
    refine O_loadP 0 (A := boxA bd 60 (Dcl.c d)) (reads_box 0) rfl rfl rfl rfl rfl rfl ?_
    repeat (first | refine sc rfl ?_ | refine so rfl ?_ | refine sb rfl ?_)
    exact ⟨_, [psA m b ts p3], _, rfl, pickA_perm (is := [2]) (As := [_]) rfl, rfl, rfl, rfl⟩
end
end Go.Proofs

/- The symbolic walk, part 57: method values. -/
set_option linter.unusedSimpArgs false
set_option linter.unusedVariables false
namespace Go.Sy
open Go.RowKit

/-- A function with its first arguments. -/
def bndRP (f : FuncId) (fs : List AV) : RP :=
  { R := fun G y => ∃ vs : Array Value, y = .func (.func f) vs #[] ∧ RepIT G fs vs.toList
    mono := by
      rintro G H h v ⟨vs, e, r⟩
      exact ⟨vs, e, RepIT.mono h fs r⟩
    one := by
      rintro G v ⟨vs, e, r⟩
      subst e; rfl }

section
variable {P : Program} {T : Tab} {X : Ctx P T} {n : Nat} {e : Env} {st : St} {a : Act} {w : World} {ops : Array Oper} {K : St → Prop}

theorem O_makeBound {f : FuncId} {fs : Array Operand} {favs : List AV} {d : Nat} {ty : TypeId} {pos : String} {aft : Array Edge} {gd : Option (Nat × Bool)} {rest : List Oper} {s : List (Nat × AV)} {c : List Ch}
    (hg : guardA ops ⟨s, c⟩ ⟨some d, .makeFunc (.func f) fs #[], ty, pos, aft, gd⟩ = some true) (ha : opds s fs.toList = some favs) (himm : AV.imm.immL favs = true) (hd : Nat.blt d n = true)
    (kk : SymO X n ops rest ⟨(d, .p (bndRP f favs)) :: s, c⟩ K) : SymO X n ops (⟨some d, .makeFunc (.func f) fs #[], ty, pos, aft, gd⟩ :: rest) ⟨s, c⟩ K := by
  intro e a w Q r hq
  unfold wpList
  rw [if_pos (guardA_sound r hg)]
  refine .inl ?_
  have h1 := RepT.toI favs himm (opds_sound r ha)
  have hrun : (execOp a.eval ⟨some d, .makeFunc (.func f) fs #[], ty, pos, aft, gd⟩).run P w = .ok (.value (.func (.func f) (fs.map a.eval) #[])) w := by
    simp [execOp, Instr.makeFunc]
  unfold Oper.wp
  rw [hrun]
  exact kk _ _ _ Q (r.put hd (by simp only [Rep]; exact ⟨_, rfl, by rw [map_eval]; exact h1⟩)) hq

theorem run_callBound {f : FuncId} (hc : Callable P f) {dst : Option Tmp} {x : Operand} {args : Array Operand} {tys : Array TypeId} {ty : TypeId} {pos : String} {aft : Array Edge} {gd : Option (Nat × Bool)} (ρ : Operand → Value)
    {vs : Array Value} (hρ : ρ x = .func (.func f) vs #[]) (w : World) :
    (execOp ρ ⟨dst, .call ⟨.value x, args, tys⟩, ty, pos, aft, gd⟩).run P w = .ok (.enter f (vs ++ args.map ρ)) w := by
  obtain ⟨fn, h1, h2, h3⟩ := hc
  simp only [execOp, resolve, hρ, Deferred.ofValue, Sem.run_bind, Sem.run_pure, Result.andThen_ok, invoke]
  have h4 : ¬ fn.body = none := by intro h; simp [h] at h2
  have h5 : ¬ fn.name = "runtime.NumGoroutine" := by simpa using h3
  simp [callFunc, h1, h4, h5]

/-- A call of a method value that may change memory at known addresses. -/
theorem O_callBound (is : List Nat) {f : FuncId} {xo : Operand} {fs : List AV} {dst : Nat} {args : Array Operand} {tys : Array TypeId} {ty : TypeId} {pos : String} {aft : Array Edge} {gd : Option (Nat × Bool)} {rest : List Oper} {avs : List AV} {cs : List Abs} {cr : List Ch} {post : AV → List Abs → Prop}
    {s : List (Nat × AV)} {c : List Ch} (hf : FnA P f (fs ++ avs) cs post) (hxo : opd s xo = some (.p (bndRP f fs)))
    (hg : guardA ops ⟨s, c⟩ ⟨some dst, .call ⟨.value xo, args, tys⟩, ty, pos, aft, gd⟩ = some true) (ha : opds s args.toList = some avs) (himm : AV.imm.immL avs = true)
    (hp : pickA is c = some (cs, cr)) (hd : Nat.blt dst n = true)
    (k : ∀ r cs', post r cs' → SymO X n ops rest ⟨(dst, r) :: s, cs'.map Ch.abs ++ cr⟩ K) :
    SymO X n ops (⟨some dst, .call ⟨.value xo, args, tys⟩, ty, pos, aft, gd⟩ :: rest) ⟨s, c⟩ K := by
  intro e a w Q r hq
  unfold wpList
  rw [if_pos (guardA_sound r hg)]
  refine .inl ?_
  unfold Oper.wp
  have hx := Rep.toI (.p (bndRP f fs)) rfl (opd_sound r hxo)
  simp only [RepI] at hx
  obtain ⟨vs, hfv, hvs⟩ := hx
  rw [run_callBound hf.1 a.eval hfv w, Oper.upon_enter]
  have h1 := RepIT.app hvs (RepT.toI avs himm (opds_sound r ha))
  have harr : vs ++ args.map a.eval = (vs.toList ++ args.toList.map a.eval).toArray := by
    apply Array.ext'; simp
  rw [harr]
  refine (call_after (ops := ops) (Q := Q) hf r h1 (pickA_perm hp) hd k hq).mono ?_
  rintro en w' ⟨cv, rfl, h⟩
  exact h
end
end Go.Sy

/- The symbolic walk, part 58: the length of a slice whose header is a value. -/
set_option linter.unusedSimpArgs false
set_option linter.unusedVariables false
namespace Go.Sy
open Go.RowKit

section
variable {P : Program} {T : Tab} {X : Ctx P T} {n : Nat} {e : Env} {st : St} {a : Act} {w : World} {ops : Array Oper} {K : St → Prop}

theorem X_lenV (q : Nat) {p : Pl} {t tt el sz0 b0 : Nat} {ag0 : Bool} {z0 : List Value} {x : Operand} {h : Value} {m esz : Nat} {row : Nat → List AV} {d : Option Nat} {ty : TypeId} {pos : String} {aft : Array Edge} {gd : Option (Nat × Bool)} {j : Nat} {Si : List (Nat × AV)} {c cr : List Ch}
    (hT : T t = some ⟨sz0, b0, ag0, z0, .slice el⟩) (hg : guardA ops ⟨Si, c⟩ ⟨d, .call ⟨.builtin .len, #[x], #[t]⟩, ty, pos, aft, gd⟩ = some true) (hx : opd Si x = some (.v h)) (hp : nthA q c = some (vecA h tt esz m row, cr)) (hd : dstOK n d = true) :
    StepX X n ops p Si c c j ⟨d, .call ⟨.builtin .len, #[x], #[t]⟩, ty, pos, aft, gd⟩ (I64 (m : Nat)) :=
  StepX.val hg hd (fun e a w S r r' => by
    obtain ⟨⟨xs, g1, g2⟩, _⟩ := r.heap.nth hp
    have hh : ∃ aa cc, h = .slice aa m cc := by
      rcases g1.2 with ⟨hnil, hm⟩ | ⟨g, cap, cur, hsl, _⟩
      · exact ⟨none, 0, by rw [hnil, hm]⟩
      · exact ⟨_, _, hsl⟩
    obtain ⟨aa, cc, rfl⟩ := hh
    have hs : still T ⟨Si, c⟩ (.call ⟨.builtin .len, #[x], #[t]⟩) = some (I64 (m : Nat)) := by
      simp [still, hT, hx]
    obtain ⟨v, h2, h1⟩ := still_sound (o := ⟨d, .call ⟨.builtin .len, #[x], #[t]⟩, ty, pos, aft, gd⟩) r' hs
    exact ⟨v, w, e, h1 w (SameAs.refl w), r, h2⟩)
end
end Go.Sy

/- Contracts of parse: Parse; of desc: Read. -/
set_option linter.unusedSimpArgs false
set_option linter.unusedVariables false
set_option maxRecDepth 100000
namespace Go.Proofs
open Go.Sy Go.Lib

theorem mem_getD {α : Type} [Inhabited α] {l : List α} {i : Nat} (h : i < l.length) : l.getD i default ∈ l := by
  rw [getD_at h]; exact List.getElem_mem h
/-! ### The lexer's tokens end by an end -/
theorem oneF_txt {s : List UInt8} {i : Nat} (hs : s.length ≤ 1024) : ∀ t ∈ (oneF s i).2.2, t.text.length ≤ 1024 := by
  have htw : ∀ p : UInt8 → Bool, ((s.drop i).takeWhile p).length ≤ 1024 := fun p => Nat.le_trans (List.takeWhile_sublist p).length_le (by rw [List.length_drop]; omega)
  unfold oneF
  simp only []
  intro t ht
  split at ht
  · unfold wordF at ht
    simp only [] at ht
    split at ht
    · cases ht
    · simp only [List.mem_singleton] at ht; subst ht; exact htw _
  · split at ht
    · unfold nmbF at ht
      simp only [] at ht
      split at ht
      · cases ht
      · split at ht
        · cases ht
        · simp only [List.mem_singleton] at ht; subst ht; exact htw _
    · split at ht
      · split at ht <;> cases ht
      · split at ht
        · cases ht
        · split at ht
          · cases ht
          · simp only [List.mem_singleton] at ht; subst ht; simp

theorem lexF_ok {s : List UInt8} (hs : s.length ≤ 1024) : ∀ (n i : Nat) (ts : List Tok) (at_ : Int) (T : List Tok), s.length - i < n → i ≤ s.length → ts.length ≤ i → (∀ t ∈ ts, t.text.length ≤ 1024) → lexF s n i ts = (0, at_, T) →
    ∃ pre, T = pre ++ [⟨4, [], 0, (s.length : Nat)⟩] ∧ pre.length ≤ s.length ∧ ∀ t ∈ pre, t.text.length ≤ 1024
  | 0, i, ts, at_, T, h, _, _, _, _ => by omega
  | n + 1, i, ts, at_, T, hn, hi, hl, ht, h => by
    simp only [lexF] at h
    by_cases hil : i < s.length
    · rw [if_pos hil] at h
      by_cases h0 : (oneF s i).1 = 0
      · rw [if_pos h0] at h
        have hok := oneF_ok hil h0
        refine lexF_ok hs n _ _ at_ T (by omega) hok.2.1 (by rw [List.length_append]; omega) (fun t hm => ?_) h
        rcases List.mem_append.1 hm with hm | hm
        · exact ht t hm
        · exact oneF_txt hs t hm
      · rw [if_neg h0] at h
        simp only [Prod.mk.injEq] at h
        exact absurd h.1 h0
    · rw [if_neg hil] at h
      simp only [Prod.mk.injEq] at h
      exact ⟨ts, h.2.2.symm, by omega, ht⟩

theorem tokF_ok {s : List UInt8} (h : (tokF s).1 = 0) : TsOK (tokF s).2.2 ∧ 0 < (tokF s).2.2.length := by
  unfold tokF at h ⊢
  split at h
  · cases h
  · rename_i hs
    rw [if_neg hs]
    have hs' : s.length ≤ 1024 := by omega
    obtain ⟨pre, h1, h2, h3⟩ := lexF_ok hs' (s.length + 1) 0 [] (lexF s (s.length + 1) 0 []).2.1 (lexF s (s.length + 1) 0 []).2.2 (by omega) (Nat.zero_le _) (Nat.le_refl _) (fun t ht => absurd ht (by simp)) (by rw [← h])
    rw [h1]
    refine ⟨⟨by rw [List.length_append, List.length_singleton]; omega, fun i hi hk => ?_, fun i hi => ?_⟩, by simp⟩
    · rw [List.length_append, List.length_singleton] at hi ⊢
      rcases Nat.lt_or_ge i pre.length with hlt | hge
      · omega
      · exfalso
        have hie : i = pre.length := by omega
        subst hie
        rw [List.getD_eq_getElem?_getD, List.getElem?_append_right (Nat.le_refl _), Nat.sub_self] at hk
        simp at hk
    · have := mem_getD hi
      rcases List.mem_append.1 this with hm | hm
      · exact h3 _ hm
      · simp only [List.mem_singleton] at hm; rw [hm]; simp

/-! ### Parse -/
def parF (ts : List Tok) : Nat → PS → List Dcl → List Dcl × PS
  | 0, p, out => (out, p)
  | n + 1, p, out => if p.err = 0 ∧ (nowF ts p).kind ≠ 4 then (if out.length = 16 then (out, failF ts 3 p) else parF ts n (declF ts p).2 (out ++ [(declF ts p).1])) else (out, p)
/-- What a text is read as. -/
def parseF (s : List UInt8) : List Dcl × Int × Int :=
  if (tokF s).1 ≠ 0 then ([], (tokF s).1, (tokF s).2.1) else
  ((parF (tokF s).2.2 ((tokF s).2.2.length + 1) ⟨0, 0, 0⟩ []).1, (parF (tokF s).2.2 ((tokF s).2.2.length + 1) ⟨0, 0, 0⟩ []).2.err, (parF (tokF s).2.2 ((tokF s).2.2.length + 1) ⟨0, 0, 0⟩ []).2.fat)
/-- What Parse gives. -/
def ParP (s : List UInt8) (r : AV) : Prop :=
  ((parseF s).2.1 ≠ 0 ∧ r = .tup [.v (.slice none 0 0), .agg [I64 (parseF s).2.1, I64 (parseF s).2.2]]) ∨ ((parseF s).2.1 = 0 ∧ r = .tup [SL 5 Dcl.c (parseF s).1, .agg [I64 0, I64 0]])

/-- What is known of a number of the library. -/
def glbA (m : Int) : Abs where
  bs := []
  ok := fun G w => G 0 0 = some (.int .i64 m)
  keep := fun hG _ h => hG.1 _ _ _ h

theorem head_adv {ts : List Tok} (p : PS) : p.i ≤ (headF ts p).2.2.i ∧ ((headF ts p).2.2.err = 0 → p.i + 1 ≤ (headF ts p).2.2.i) := by
  unfold headF
  repeat' split
  all_goals first
    | exact ⟨Nat.le_succ _, fun _ => Nat.le_refl _⟩
    | exact ⟨by show p.i ≤ (failF ts 5 p).i; rw [failF_i]; exact Nat.le_refl _, fun h => absurd h (failF_err ts (by decide) p)⟩
theorem failF_keep {ts : List Tok} {e : Int} {p : PS} (h : p.err ≠ 0) : failF ts e p = p := by unfold failF; rw [if_neg h]
theorem need_keep {ts : List Tok} {s : List UInt8} {p : PS} (h : p.err ≠ 0) : (needF ts s p).err ≠ 0 := by
  have hm : mayF ts s p = false := by unfold mayF; rw [show (p.err == 0) = false by simpa using h]; rfl
  unfold needF
  rw [hm, if_neg (by decide), failF_keep h]; exact h
theorem name_keep {ts : List Tok} {p : PS} (h : p.err ≠ 0) : (nameP ts p).err ≠ 0 := by
  have hb : (nmB ts p).err ≠ 0 := by
    unfold nmB; split
    · rw [failF_keep h]; exact h
    · exact h
  unfold nameP
  rw [if_pos hb]; exact hb
theorem rows_keep {ts : List Tok} {R : PS → Dcl → Dcl × PS} {n k : Nat} {p : PS} {d : Dcl} (h : p.err ≠ 0) : (rowsF ts R n k p d).2.err ≠ 0 := by
  cases n with
  | zero => exact h
  | succ n => unfold rowsF; rw [if_neg h]; exact h
theorem headR {ts : List Tok} (p : PS) : ∀ (q : PS) (d : Dcl), q.i ≤ ((headF ts p).2.1 q d).2.i := by
  intro q d
  unfold headF
  repeat' split
  all_goals first
    | exact field_ge q d
    | exact enum_ge q d
    | exact meth_ge q d
theorem decl_adv {ts : List Tok} (p : PS) (h : (declF ts p).2.err = 0) : p.i + 1 ≤ (declF ts p).2.i := by
  have ha := head_adv (ts := ts) p
  by_cases h0 : (headF ts p).2.2.err = 0
  · have h1 := ha.2 h0
    refine Nat.le_trans h1 ?_
    exact Nat.le_trans (name_ge _) (Nat.le_trans (need_ge [123] _) (rows_ge (headR p) _ _ _ _))
  · exact absurd h (rows_keep (need_keep (name_keep h0)))
theorem headRlt {ts : List Tok} (hT : TsOK ts) (p : PS) : ∀ (q : PS) (d : Dcl), q.i < ts.length → ((headF ts p).2.1 q d).2.i < ts.length := by
  intro q d hq
  unfold headF
  repeat' split
  all_goals first
    | exact field_lt hT q d hq
    | exact enum_lt hT q d hq
    | exact meth_lt hT q d hq
theorem head_lt {ts : List Tok} (hT : TsOK ts) {p : PS} (hp : p.i < ts.length) : (headF ts p).2.2.i < ts.length := by
  unfold headF
  split
  · exact next_lt hT hp (by assumption)
  · split
    · exact next_lt hT hp (by assumption)
    · split
      · exact next_lt hT hp (by assumption)
      · split
        · exact next_lt hT hp (by assumption)
        · show (failF ts 5 p).i < _; rw [failF_i]; exact hp
theorem decl_lt {ts : List Tok} (hT : TsOK ts) {p : PS} (hp : p.i < ts.length) : (declF ts p).2.i < ts.length :=
  rows_lt hT (headRlt hT p) _ _ _ _ (need_lt hT (name_lt hT (head_lt hT hp)) _)
abbrev outA (h : Value) (out : List Dcl) : Abs := vecA h 60 5 out.length (fun i => Dcl.c (out.getD i default))

theorem Parse_A (m : Int) (s : List UInt8) : FnA Tryz.prog 67 [.s s] [glbA m] (fun r cs' => ParP s r ∧ cs' = [glbA m]) := by
  refine FnA.intro Tryz.tabOK Tryz.wide_ Tryz.func67 rfl (by decide) rfl (fun X => ?_)
  repeat (first | refine sc rfl ?_ | refine so rfl ?_ | refine sb rfl ?_)
  refine O_call (Tokens_c s) (by rfl) (by rfl) (by rfl) (by rfl) (fun r hr => ?_)
  rcases hr with ⟨h0, rfl⟩ | ⟨h0, rfl⟩
  · repeat (first | refine sc rfl ?_ | refine so rfl ?_ | refine sb rfl ?_)
    refine C_true rfl (by simp [h0]) ?_
    repeat (first | refine sc rfl ?_ | refine so rfl ?_ | refine sb rfl ?_)
    refine C_drawU 20 2 rfl (by kernel_rfl) (by kernel_rfl) (by kernel_rfl) ?_
    repeat (first | refine sd rfl ?_ | refine sdb rfl ?_ | refine sds rfl ?_)
    repeat (first | refine sc rfl ?_ | refine so rfl ?_ | refine sb rfl ?_)
    have e : parseF s = ([], (tokF s).1, (tokF s).2.1) := by unfold parseF; rw [if_pos h0]
    exact ⟨_, [glbA m], _, rfl, pickA_perm (is := [2]) (As := [_]) rfl, rfl, .inl ⟨by rw [e]; exact h0, by rw [e]; rfl⟩, rfl⟩
  · obtain ⟨hT, hpos⟩ := tokF_ok h0
    have hP : parseF s = ((parF (tokF s).2.2 ((tokF s).2.2.length + 1) ⟨0, 0, 0⟩ []).1, (parF (tokF s).2.2 ((tokF s).2.2.length + 1) ⟨0, 0, 0⟩ []).2.err, (parF (tokF s).2.2 ((tokF s).2.2.length + 1) ⟨0, 0, 0⟩ []).2.fat) := by unfold parseF; rw [if_neg (fun h => h h0)]
    generalize (tokF s).2.2 = ts at *
    repeat (first | refine sc rfl ?_ | refine so rfl ?_ | refine sb rfl ?_)
    refine C_false rfl rfl ?_
    iterate 9 (first | refine sc rfl ?_ | refine so rfl ?_ | refine sb rfl ?_)
    refine C_absb 6 rfl rfl rfl (fun b => ?_)
    refine C_le _ (Le.absPerm (As := [boxA b 219 (PS.c ts ⟨0, 0, 0⟩), glbA m]) (As' := [psA m b ts ⟨0, 0, 0⟩]) (pickA_perm (is := [0, 2]) rfl) (by simp [blocks, psA, boxA, glbA]) (fun G w h A hA => ?_)) ?_
    · simp only [List.mem_singleton] at hA
      subst hA
      exact ⟨h _ (by simp), h (glbA m) (by simp)⟩
    generalize hFF : parF ts (ts.length + 1) ⟨0, 0, 0⟩ [] = F at *
    repeat (first | refine sc rfl ?_ | refine so rfl ?_ | refine sb rfl ?_)
    refine O_makeBound rfl rfl rfl rfl ?_
    refine O_le _ (Le.addVec 60 5 (fun i => Dcl.c (([] : List Dcl).getD i default))) ?_
    iterate 7 (first | refine sc rfl ?_ | refine so rfl ?_ | refine sb rfl ?_)
    refine C_joinE (α := PS × List Dcl × Value) (fun q => ⟨[(3, .bp 3 0), (6, PT b 0), (8, .v q.2.2)], [.abs (psA m b ts q.1), .abs (outA q.2.2 q.2.1), .box 3 50 [I64 0, I64 0]]⟩) (fun q => F = (q.2.1, q.1)) ?_ ?_
    · repeat (first | refine sc rfl ?_ | refine so rfl ?_ | refine sb rfl ?_)
      refine C_loop (fun q : PS × List Dcl × Value => ⟨[(3, .bp 3 0), (6, PT b 0), (7, .p (bndRP 113 [PT b 0])), (8, .v q.2.2)], [.abs (psA m b ts q.1), .abs (outA q.2.2 q.2.1), .box 3 50 [I64 0, I64 0]]⟩)
        (fun q => q.1.i < ts.length ∧ q.2.1.length ≤ 16 ∧ ∃ n, (q.1.err = 0 → ts.length - q.1.i < n) ∧ parF ts n q.1 q.2.1 = F) (fun q => if q.1.err = 0 then ts.length - q.1.i + 1 else 0) (⟨0, 0, 0⟩, [], .slice none 0 0) ⟨hpos, Nat.zero_le _, ts.length + 1, fun _ => by simp only []; omega, hFF⟩ (Le.pick [1, 0, 1] ⟨rfl, rfl, rfl, rfl, trivial⟩ rfl) ?_
      rintro ⟨p, out, h⟩ ⟨g1, g2, n, g6, g7⟩
      simp only [] at g1 g2 g6 g7
      repeat (first | refine sc rfl ?_ | refine so rfl ?_ | refine sb rfl ?_)
      first
        | refine O_callA [0] (well_A m b ts p) (by rfl) (by rfl) (by rfl) (by rfl) (by rfl) ?_
        | refine O_callA [1] (well_A m b ts p) (by rfl) (by rfl) (by rfl) (by rfl) (by rfl) ?_
        | refine O_callA [2] (well_A m b ts p) (by rfl) (by rfl) (by rfl) (by rfl) (by rfl) ?_
        | refine O_callA [3] (well_A m b ts p) (by rfl) (by rfl) (by rfl) (by rfl) (by rfl) ?_
        | refine O_callA [4] (well_A m b ts p) (by rfl) (by rfl) (by rfl) (by rfl) (by rfl) ?_
      rintro r cs' ⟨rfl, rfl⟩
      repeat (first | refine sc rfl ?_ | refine so rfl ?_ | refine sb rfl ?_)
      cases hw : p.err == 0 with
      | false =>
        have hw' : p.err ≠ 0 := by simpa using hw
        have hF : F = (out, p) := by
          rw [← g7]
          cases n with
          | zero => rfl
          | succ n => simp only [parF]; rw [if_neg (fun h => hw' h.1)]
        repeat (first | refine sc rfl ?_ | refine so rfl ?_ | refine sb rfl ?_)
        refine C_false rfl rfl ?_
        repeat (first | refine sc rfl ?_ | refine so rfl ?_ | refine sb rfl ?_)
        exact ⟨(p, out, h), hF, Le.pick [0, 0, 0] ⟨rfl, rfl, rfl, trivial⟩ rfl⟩
      | true =>
      have hw' : p.err = 0 := by simpa using hw
      obtain ⟨n, rfl⟩ : ∃ n', n = n' + 1 := ⟨n - 1, by have := g6 hw'; omega⟩
      have g6' := g6 hw'
      simp only [parF] at g7
      repeat (first | refine sc rfl ?_ | refine so rfl ?_ | refine sb rfl ?_)
      first
        | refine O_callA [0] (now_A m b ts hT p g1) (by rfl) (by rfl) (by rfl) (by rfl) (by rfl) ?_
        | refine O_callA [1] (now_A m b ts hT p g1) (by rfl) (by rfl) (by rfl) (by rfl) (by rfl) ?_
        | refine O_callA [2] (now_A m b ts hT p g1) (by rfl) (by rfl) (by rfl) (by rfl) (by rfl) ?_
        | refine O_callA [3] (now_A m b ts hT p g1) (by rfl) (by rfl) (by rfl) (by rfl) (by rfl) ?_
        | refine O_callA [4] (now_A m b ts hT p g1) (by rfl) (by rfl) (by rfl) (by rfl) (by rfl) ?_
      rintro r cs' ⟨rfl, rfl⟩
      repeat (first | refine sc rfl ?_ | refine so rfl ?_ | refine sb rfl ?_)
      refine O_Xd (X_field Tryz.underlying222 rfl rfl rfl rfl rfl rfl rfl) ?_
      repeat (first | refine sc rfl ?_ | refine so rfl ?_ | refine sb rfl ?_)
      refine C_if rfl (fun c1 => ?_) (fun c1 => ?_) <;> simp only [decide_eq_true_eq, decide_eq_false_iff_not, Bool.not_eq_true', Bool.not_eq_false', beq_iff_eq, beq_eq_false_iff_ne, bne_iff_ne, ne_eq, bne_eq_false_iff_eq, Decidable.not_not] at c1
      rotate_left
      · rw [if_neg (fun h => h.2 c1)] at g7
        repeat (first | refine sc rfl ?_ | refine so rfl ?_ | refine sb rfl ?_)
        exact ⟨(p, out, h), g7.symm, Le.pick [0, 0, 0] ⟨rfl, rfl, rfl, trivial⟩ rfl⟩
      rw [if_pos ⟨hw', c1⟩] at g7
      repeat (first | refine sc rfl ?_ | refine so rfl ?_ | refine sb rfl ?_)
      refine O_Xd (X_lenV (d := some 32) 1 rfl rfl rfl rfl rfl) ?_
      repeat (first | refine sc rfl ?_ | refine so rfl ?_ | refine sb rfl ?_)
      refine C_if rfl (fun c2 => ?_) (fun c2 => ?_) <;> simp only [decide_eq_true_eq, decide_eq_false_iff_not, Bool.not_eq_true', Bool.not_eq_false', beq_iff_eq, beq_eq_false_iff_ne, bne_iff_ne, ne_eq, bne_eq_false_iff_eq, Decidable.not_not] at c2
      · rw [if_pos (by omega)] at g7
        repeat (first | refine sc rfl ?_ | refine so rfl ?_ | refine sb rfl ?_)
        first
          | refine O_callA [0] (fail_A m b ts hT p g1 3) (by rfl) (by rfl) (by rfl) (by rfl) (by rfl) ?_
          | refine O_callA [1] (fail_A m b ts hT p g1 3) (by rfl) (by rfl) (by rfl) (by rfl) (by rfl) ?_
          | refine O_callA [2] (fail_A m b ts hT p g1 3) (by rfl) (by rfl) (by rfl) (by rfl) (by rfl) ?_
          | refine O_callA [3] (fail_A m b ts hT p g1 3) (by rfl) (by rfl) (by rfl) (by rfl) (by rfl) ?_
          | refine O_callA [4] (fail_A m b ts hT p g1 3) (by rfl) (by rfl) (by rfl) (by rfl) (by rfl) ?_
        rintro r cs' ⟨rfl, rfl⟩
        repeat (first | refine sc rfl ?_ | refine so rfl ?_ | refine sb rfl ?_)
        exact ⟨(failF ts 3 p, out, h), g7.symm, Le.pick [0, 0, 0] ⟨rfl, rfl, rfl, trivial⟩ rfl⟩
      rw [if_neg (by omega)] at g7
      have hdl := decl_lt hT g1
      have hda := decl_adv (ts := ts) p
      repeat (first | refine sc rfl ?_ | refine so rfl ?_ | refine sb rfl ?_)
      refine O_callBound [0] (avs := []) (decl_A m b ts hT p g1) rfl rfl rfl rfl rfl rfl ?_
      rintro r cs' ⟨rfl, rfl⟩
      repeat (first | refine sc rfl ?_ | refine so rfl ?_ | refine sb rfl ?_)
      refine O_le _ (Le.freeze 39 rfl rfl) ?_
      refine O_appendV 1 (m2 := 1) (m3 := out.length + 1) (row3 := fun i => Dcl.c ((out ++ [(declF ts p).1]).getD i default)) rfl rfl rfl rfl rfl rfl (fun i hi => ?_) rfl (by show (out.length + 1) * 80 ≤ 140737488355328; omega) (by show out.length + 1 ≤ maxLen; simp only [maxLen]; omega) rfl (fun i hi => ?_) (fun v' hv' => ?_)
      · show (chunkRow 5 (Dcl.c ((declF ts p).1)) i).length = 5
        have h0 : i = 0 := by have : i < 1 := hi; omega
        subst h0; rfl
      · unfold appRow
        by_cases hik : i < out.length
        · rw [if_pos hik]
          show Dcl.c (out.getD i default) = _
          rw [List.getD_eq_getElem?_getD, List.getD_eq_getElem?_getD, List.getElem?_append_left hik]
        · rw [if_neg hik]
          obtain rfl : i = out.length := by omega
          rw [Nat.sub_self, List.getD_eq_getElem?_getD, List.getElem?_append_right (Nat.le_refl _), Nat.sub_self]; rfl
      obtain ⟨g9, cc9, rfl⟩ := hv'.resolve_left (fun h => by omega)
      repeat (first | refine sc rfl ?_ | refine so rfl ?_ | refine sb rfl ?_)
      refine ⟨((declF ts p).2, out ++ [(declF ts p).1], HD g9 (out.length + 1) cc9), ⟨hdl, by simp only [List.length_append, List.length_singleton]; omega, n, fun h => by simp only [] at h ⊢; have := hda h; omega, g7⟩, ?_, ?_⟩
      · simp only [if_pos hw']
        split
        · rename_i h; have := hda h; omega
        · omega
      · have e : outA (HD g9 (out.length + 1) cc9) (out ++ [(declF ts p).1]) = vecA (HD g9 (out.length + 1) cc9) 60 5 (out.length + 1) (fun i => Dcl.c ((out ++ [(declF ts p).1]).getD i default)) := by rw [outA, List.length_append]; rfl
        simp only []
        rw [e]
        exact Le.pick [1, 0, 0] ⟨rfl, rfl, rfl, rfl, trivial⟩ rfl
    · rintro ⟨p, out, h⟩ st9 ⟨hF⟩ hs
      simp only [] at hs
      refine C_le _ hs ?_
      have hP2 : (parseF s).1 = out ∧ (parseF s).2.1 = p.err ∧ (parseF s).2.2 = p.fat := by rw [hP]; exact ⟨rfl, rfl, rfl⟩
      repeat (first | refine sc rfl ?_ | refine so rfl ?_ | refine sb rfl ?_)
      first
        | refine O_callA [0] (well_A m b ts p) (by rfl) (by rfl) (by rfl) (by rfl) (by rfl) ?_
        | refine O_callA [1] (well_A m b ts p) (by rfl) (by rfl) (by rfl) (by rfl) (by rfl) ?_
        | refine O_callA [2] (well_A m b ts p) (by rfl) (by rfl) (by rfl) (by rfl) (by rfl) ?_
        | refine O_callA [3] (well_A m b ts p) (by rfl) (by rfl) (by rfl) (by rfl) (by rfl) ?_
        | refine O_callA [4] (well_A m b ts p) (by rfl) (by rfl) (by rfl) (by rfl) (by rfl) ?_
      rintro r cs' ⟨rfl, rfl⟩
      repeat (first | refine sc rfl ?_ | refine so rfl ?_ | refine sb rfl ?_)
      refine C_if rfl (fun c1 => ?_) (fun c1 => ?_) <;> simp only [decide_eq_true_eq, decide_eq_false_iff_not, Bool.not_eq_true', Bool.not_eq_false', beq_iff_eq, beq_eq_false_iff_ne, bne_iff_ne, ne_eq, bne_eq_false_iff_eq, Decidable.not_not] at c1
      · repeat (first | refine sc rfl ?_ | refine so rfl ?_ | refine sb rfl ?_)
        refine C_le _ (Le.absPerm (As := [psA m b ts p]) (As' := [boxA b 219 (PS.c ts p), glbA m]) (pickA_perm (is := [0]) rfl) (by simp [blocks, psA, boxA, glbA]) (fun G w h A hA => ?_)) ?_
        · have := h (psA m b ts p) (by simp)
          simp only [List.mem_cons, List.not_mem_nil, or_false] at hA
          rcases hA with rfl | rfl
          · exact this.1
          · exact this.2
        refine C_drawU 20 5 rfl (by kernel_rfl) (by kernel_rfl) (by kernel_rfl) ?_
        repeat (first | refine sd rfl ?_ | refine sdb rfl ?_ | refine sds rfl ?_)
        refine D_X (.agg [I64 p.err, I64 p.fat]) (X_loadP 0 (reads_box 2) rfl rfl rfl rfl rfl rfl) ?_
        repeat (first | refine sd rfl ?_ | refine sdb rfl ?_ | refine sds rfl ?_)
        repeat (first | refine sc rfl ?_ | refine so rfl ?_ | refine sb rfl ?_)
        exact ⟨_, [glbA m], _, rfl, pickA_perm (is := [2]) (As := [_]) rfl, rfl, .inl ⟨by rw [hP2.2.1]; exact c1, by rw [hP2.2.1, hP2.2.2]; rfl⟩, rfl⟩
      · refine C_le _ (Le.frVec 1 (fun i => Dcl.c (out.getD i default)) rfl (fun i hi => rfl)) ?_
        refine C_le _ (Le.slotA 0 8 rfl rfl) ?_
        refine C_le _ (Le.absPerm (As := [psA m b ts p]) (As' := [boxA b 219 (PS.c ts p), glbA m]) (pickA_perm (is := [1]) rfl) (by simp [blocks, psA, boxA, glbA]) (fun G w h A hA => ?_)) ?_
        · have := h (psA m b ts p) (by simp)
          simp only [List.mem_cons, List.not_mem_nil, or_false] at hA
          rcases hA with rfl | rfl
          · exact this.1
          · exact this.2
        repeat (first | refine sc rfl ?_ | refine so rfl ?_ | refine sb rfl ?_)
        exact ⟨_, [glbA m], _, rfl, pickA_perm (is := [2]) (As := [_]) rfl, rfl, .inr ⟨by rw [hP2.2.1]; exact c1, by rw [hP2.1]; rfl⟩, rfl⟩
end Go.Proofs

/- Rows of a schema: plain law. -/
set_option linter.unusedSimpArgs false
set_option linter.unusedVariables false
set_option maxRecDepth 100000
namespace Go.Proofs
open Go.Sy Go.Lib

theorem mem_getDf {l : List Fld} {i : Nat} (h : i < l.length) : l.getD i default ∈ l := by
  rw [getD_at h]; exact List.getElem_mem h
theorem getD_mem {α : Type} [Inhabited α] {l : List α} {x : α} (h : x ∈ l) : ∃ i, i < l.length ∧ l.getD i default = x := by
  obtain ⟨i, hi, rfl⟩ := List.mem_iff_getElem.1 h
  exact ⟨i, hi, getD_at hi⟩
theorem nodup_tag {F : List Fld} (h : (F.map (·.tag)).Nodup) {i j : Nat} (hi : i < F.length) (hj : j < F.length) (e : (F.getD i default).tag = (F.getD j default).tag) : i = j := by
  rw [getD_at hi, getD_at hj] at e
  have := (List.getElem_inj (xs := F.map (·.tag)) (i := i) (j := j) (h₀ := by simpa using hi) (h₁ := by simpa using hj) h).1 (by simpa using e)
  exact this

theorem tagZ_iff {F : List Fld} (h : (F.map (·.tag)).Nodup) {t : Int} {i : Nat} : tagZ t F = some i ↔ i < F.length ∧ (F.getD i default).tag = t := by
  constructor
  · intro h0
    refine ⟨tagZ_lt h0, ?_⟩
    have key : ∀ {F : List Fld} {j : Nat}, tagZ t F = some j → (F.getD j default).tag = t := by
      intro F
      induction F with
      | nil => intro j h; simp [tagZ] at h
      | cons d l ih =>
        intro j h
        simp only [tagZ] at h
        split at h
        · cases h; simpa
        · obtain ⟨k, hk, rfl⟩ := Option.map_eq_some_iff.1 h
          simpa using ih hk
    exact key h0
  · rintro ⟨h1, h2⟩
    exact tagZ_first h1 (fun j hj e => by
      have := nodup_tag h (i := j) (j := i) (by omega) h1 (by rw [e, h2])
      omega) h2

theorem rowZ_iff {l : List Dcl} {nm : List UInt8} {F : List Fld} (hF : fldsL l nm = F) (h : (F.map (·.tag)).Nodup) {t : Int} {f : Fld} : rowZ l nm t = some f ↔ f ∈ F ∧ f.tag = t := by
  unfold rowZ
  rw [hF, Option.map_eq_some_iff]
  constructor
  · rintro ⟨j, h1, rfl⟩
    obtain ⟨h2, h3⟩ := (tagZ_iff h).1 h1
    exact ⟨mem_getDf h2, h3⟩
  · rintro ⟨h1, h2⟩
    obtain ⟨i, hi, rfl⟩ := getD_mem h1
    exact ⟨i, (tagZ_iff h).2 ⟨hi, h2⟩, rfl⟩

theorem one_tag {F : List Fld} (h : (F.map (·.tag)).Nodup) {x y : Fld} (hx : x ∈ F) (hy : y ∈ F) (e : x.tag = y.tag) : x = y := by
  obtain ⟨i, hi, rfl⟩ := getD_mem hx
  obtain ⟨j, hj, rfl⟩ := getD_mem hy
  rw [nodup_tag h hi hj e]

/-- Sorted rows: members, and the order is strict. -/
theorem SrtOf.facts {F R : List Fld} (h : SrtOf F R) (hn : (F.map (·.tag)).Nodup) : (∀ x, x ∈ R ↔ x ∈ F) ∧ ∀ i j, i < j → j < R.length → (R.getD i default).tag < (R.getD j default).tag := by
  obtain ⟨h1, ⟨p, r, h2, _⟩, h3⟩ := h
  refine ⟨fun x => ⟨fun hx => ?_, fun hx => ?_⟩, fun i j hij hj => ?_⟩
  · obtain ⟨i, hi, rfl⟩ := getD_mem hx
    obtain ⟨q1, _, _, _, q5⟩ := h2 i (Nat.zero_le _) (by omega)
    simp only [] at q5
    rw [q5]; exact mem_getDf q1.2
  · obtain ⟨i, hi, rfl⟩ := getD_mem hx
    obtain ⟨_, q2, q3, _, _⟩ := h2 i (Nat.zero_le _) hi
    obtain ⟨_, _, _, _, s5⟩ := h2 (r i) (Nat.zero_le _) q2.2
    simp only [] at s5
    rw [q3] at s5
    rw [← s5]; exact mem_getDf (by omega)
  · have hle := h3 i j (Nat.zero_le _) (by omega) (by omega)
    simp only [] at hle
    obtain ⟨a1, _, _, a4, a5⟩ := h2 i (Nat.zero_le _) (by omega)
    obtain ⟨b1, _, _, b4, b5⟩ := h2 j (Nat.zero_le _) (by omega)
    simp only [] at a5 b5
    rcases Int.lt_or_eq_of_le hle with hlt | he
    · exact hlt
    · rw [a5, b5] at he
      have := nodup_tag hn a1.2 b1.2 he
      have : i = j := by rw [← a4, ← b4, this]
      omega


theorem srt_eq : ∀ {A B : List Fld}, A.Pairwise (fun a b => a.tag < b.tag) → B.Pairwise (fun a b => a.tag < b.tag) → (∀ x, x ∈ A ↔ x ∈ B) → A = B
  | [], [], _, _, _ => rfl
  | [], b :: B, _, _, h => by have := (h b).2 (by simp); cases this
  | a :: A, [], _, _, h => by have := (h a).1 (by simp); cases this
  | a :: A, b :: B, hA, hB, h => by
    obtain ⟨a1, a2⟩ := List.pairwise_cons.1 hA
    obtain ⟨b1, b2⟩ := List.pairwise_cons.1 hB
    have e : a = b := by
      rcases List.mem_cons.1 ((h a).1 (by simp)) with h1 | h1
      · exact h1
      · rcases List.mem_cons.1 ((h b).2 (by simp)) with h2 | h2
        · exact h2.symm
        · have := b1 a h1
          have := a1 b h2
          omega
    subst e
    have : A = B := srt_eq a2 b2 (fun x => by
      constructor
      · intro hx
        rcases List.mem_cons.1 ((h x).1 (by simp [hx])) with h1 | h1
        · subst h1; have := a1 x hx; omega
        · exact h1
      · intro hx
        rcases List.mem_cons.1 ((h x).2 (by simp [hx])) with h1 | h1
        · subst h1; have := b1 x hx; omega
        · exact h1)
    rw [this]

theorem SrtOf.pw {F R : List Fld} (h : SrtOf F R) (hn : (F.map (·.tag)).Nodup) : R.Pairwise (fun a b => a.tag < b.tag) := by
  rw [List.pairwise_iff_getElem]
  intro i j hi hj hij
  have := (h.facts hn).2 i j hij hj
  rwa [getD_at hi, getD_at hj] at this
theorem SrtOf.uniq {F R R' : List Fld} (h : SrtOf F R) (h' : SrtOf F R') (hn : (F.map (·.tag)).Nodup) : R = R' :=
  srt_eq (h.pw hn) (h'.pw hn) (fun x => by rw [(h.facts hn).1, (h'.facts hn).1])
/-- Fields that stand in order are their own rows. -/
theorem SrtOf.self {F R : List Fld} (h : SrtOf F R) (hs : F.Pairwise (fun a b => a.tag < b.tag)) : R = F := by
  have hn : (F.map (·.tag)).Nodup := by
    rw [List.Nodup, List.pairwise_map]
    exact hs.imp (fun hab e => by omega)
  exact srt_eq (h.pw hn) hs (h.facts hn).1

/-- The rows that a schema has of a name. -/
noncomputable def rowsU (l : List Dcl) (nm : List UInt8) : List Fld := rowsL l (Classical.epsilon (RowsOK l)) nm
theorem rowsU_eq {l : List Dcl} (hW : WellL l) {Rs : List (List Fld)} (hR : RowsOK l Rs) (nm : List UInt8) : rowsL l Rs nm = rowsU l nm := by
  have hR' : RowsOK l (Classical.epsilon (RowsOK l)) := Classical.epsilon_spec ⟨Rs, hR⟩
  unfold rowsU rowsL
  cases hf : fndL nm l with
  | none => rfl
  | some j =>
    have hj := fndL_lt hf
    exact (hR.2 j hj).uniq (hR'.2 j hj) (List.nodup_append.1 (hW j hj).tags).1
end Go.Proofs

/- Contracts of desc: Read, of a text that is one; schemas in whatever state. -/
set_option linter.unusedSimpArgs false
set_option linter.unusedVariables false
set_option maxRecDepth 100000
namespace Go.Proofs
open Go.Sy Go.Lib

/-- One of a family, over the same blocks. -/
def exA {α : Type} (I : α → Prop) (A : α → Abs) (bs : List Nat) (hbs : ∀ q, (A q).bs = bs) : Abs where
  bs := bs
  ok := fun G w => ∃ q, I q ∧ (A q).ok G w
  keep := fun hG hb ⟨q, h1, h2⟩ => ⟨q, h1, (A q).keep hG (by rw [hbs]; exact hb) h2⟩

theorem FnA_ex {α : Type} {I : α → Prop} {A : α → Abs} {bs : List Nat} {hbs : ∀ q, (A q).bs = bs} {P : Program} {f : FuncId} {args : List AV} {φ : AV → Prop}
    (h : ∀ q, I q → FnA P f args [A q] (fun r cs' => φ r ∧ ∃ q', I q' ∧ cs' = [A q'])) (hc : Callable P f) : FnA P f args [exA I A bs hbs] (fun r cs' => φ r ∧ cs' = [exA I A bs hbs]) := by
  refine ⟨hc, fun G w cargs him hr hok => ?_⟩
  have hx : (exA I A bs hbs).ok G w := hok.1 _ (List.mem_singleton.2 rfl)
  obtain ⟨q, hq, hqo⟩ := hx
  have e1 : ∀ q, blocks [A q] = bs := fun q => by simp [blocks, hbs]
  have e2 : blocks [exA I A bs hbs] = bs := by simp [blocks, exA]
  have hok' : AbsOK G w [A q] := ⟨fun B hB => by simp only [List.mem_singleton] at hB; subst hB; exact hqo, by rw [e1, ← e2]; exact hok.2.1, by rw [e1, ← e2]; exact hok.2.2⟩
  refine ((h q hq).2 G w cargs him hr hok').mono ?_
  rintro en w' ⟨r, cr, cs', G', ⟨hφ, q', hq', rfl⟩, g1, g2, g3, g4, g5, g6, g7, g8⟩
  rw [e1] at g4 g7 g8
  refine ⟨r, cr, _, G', ⟨hφ, rfl⟩, g1, g2, g3, by rw [e2]; exact g4, g5, ⟨fun B hB => by simp only [List.mem_singleton] at hB; subst hB; exact ⟨q', hq', g6.1 _ (by simp)⟩, by rw [e2, ← e1 q']; exact g6.2.1, by rw [e2, ← e1 q']; exact g6.2.2⟩, ?_, ?_⟩
  · rw [e2]; intro b hb; rw [e1] at g7; exact g7 b hb
  · rw [e2]; exact g8

/-- A schema, raw or ready. -/
def dscS (b : Nat) (l : List Dcl) : Abs := exA (Rdy l) (dsc b l) [b] (fun q => by cases q <;> rfl)

theorem DKind_S (b : Nat) (l : List Dcl) (hP : Prep l) (nm : List UInt8) : FnA Tryz.prog 82 [PT b 0, .s nm] [dscS b l] (fun r cs' => r = I64 (kindL l nm) ∧ cs' = [dscS b l]) :=
  FnA_ex (φ := fun r => r = I64 (kindL l nm)) (fun q hq => (DKind_A b l hP q hq nm).mono (fun r cs' ⟨h1, Rs, h2, h3⟩ => ⟨h1, some Rs, fun _ h => by cases h; exact h2, h3⟩)) (DKind_A b l hP none (fun _ h => by cases h) nm).1
theorem DRows_S (b : Nat) (l : List Dcl) (hP : Prep l) (hW : WellL l) (nm : List UInt8) : FnA Tryz.prog 25 [PT b 0, .s nm] [dscS b l] (fun r cs' => r = SL 5 Fld.c (rowsU l nm) ∧ cs' = [dscS b l]) :=
  FnA_ex (φ := fun r => r = SL 5 Fld.c (rowsU l nm)) (fun q hq => (DRows_A b l hP q hq nm).mono (fun r cs' ⟨Rs, h1, h2, h3⟩ => ⟨by rw [h2, rowsU_eq hW h1], some Rs, fun _ h => by cases h; exact h1, h3⟩)) (DRows_A b l hP none (fun _ h => by cases h) nm).1

theorem decls_A (b : Nat) (l : List Dcl) (hl : FewL l) (q : Option (List (List Fld))) : FnA Tryz.prog 23 [PT b 0] [dsc b l q] (fun r cs' => r = SL 5 Dcl.c l ∧ cs' = [dsc b l q]) := by
  refine FnA.intro Tryz.tabOK Tryz.wide_ Tryz.func23 rfl (by decide) rfl (fun X => ?_)
  have hd : ∃ o1 o2 o3 t m0, dsc b l q = dscA b l o1 o2 o3 t m0 := by cases q <;> exact ⟨_, _, _, _, _, rfl⟩
  obtain ⟨o1, o2, o3, t, m0, hd⟩ := hd
  rw [hd]
  repeat (first | refine sc rfl ?_ | refine so rfl ?_ | refine sb rfl ?_)
  refine O_Xd (X_ptrnil Tryz.underlying48 rfl rfl rfl) ?_
  repeat (first | refine sc rfl ?_ | refine so rfl ?_ | refine sb rfl ?_)
  refine C_false rfl rfl ?_
  repeat (first | refine sc rfl ?_ | refine so rfl ?_ | refine sb rfl ?_)
  refine O_loadP 0 (A := dscA b l o1 o2 o3 t m0) (reads_box 0) rfl rfl rfl rfl rfl rfl ?_
  repeat (first | refine sc rfl ?_ | refine so rfl ?_ | refine sb rfl ?_)
  refine O_call (decls_c l hl) (by rfl) (by rfl) (by rfl) (by rfl) (fun r hr => ?_)
  subst hr
  repeat (first | refine sc rfl ?_ | refine so rfl ?_ | refine sb rfl ?_)
  exact ⟨_, [_], _, rfl, .refl _, rfl, rfl, rfl⟩
theorem decls_S (b : Nat) (l : List Dcl) (hl : FewL l) : FnA Tryz.prog 23 [PT b 0] [dscS b l] (fun r cs' => r = SL 5 Dcl.c l ∧ cs' = [dscS b l]) :=
  FnA_ex (φ := fun r => r = SL 5 Dcl.c l) (fun q hq => (decls_A b l hl q).mono (fun r cs' ⟨h1, h2⟩ => ⟨h1, q, hq, h2⟩)) (decls_A b l hl none).1

/-- A text that is a schema. -/
theorem Read_A (m : Int) (s : List UInt8) (l : List Dcl) (hl : parseF s = (l, 0, 0) ∨ (parseF s).1 = l ∧ (parseF s).2.1 = 0) (hfew : FewL l) (hok : WellL l ∧ FinL l) :
    FnA Tryz.prog 21 [.s s] [glbA m] (fun r cs' => ∃ b, r = .tup [PT b 0, .agg [I64 0, I64 0]] ∧ cs' = [dscS b l, glbA m]) := by
  have hl' : (parseF s).1 = l ∧ (parseF s).2.1 = 0 := by
    rcases hl with h | h
    · rw [h]; exact ⟨rfl, rfl⟩
    · exact h
  refine FnA.intro Tryz.tabOK Tryz.wide_ Tryz.func21 rfl (by decide) rfl (fun X => ?_)
  repeat (first | refine sc rfl ?_ | refine so rfl ?_ | refine sb rfl ?_)
  refine O_callA [1] (Parse_A m s) (by rfl) (by rfl) (by rfl) (by rfl) (by rfl) ?_
  rintro r cs' ⟨h0 | h0, rfl⟩
  · exact absurd hl'.2 h0.1
  obtain ⟨_, rfl⟩ := h0
  rw [hl'.1]
  repeat (first | refine sc rfl ?_ | refine so rfl ?_ | refine sb rfl ?_)
  refine C_false rfl rfl ?_
  repeat (first | refine sc rfl ?_ | refine so rfl ?_ | refine sb rfl ?_)
  refine O_callA [] (Of_A l hfew) (by rfl) (by rfl) (by rfl) (by rfl) (by rfl) ?_
  rintro r cs' (⟨f, rfl, hn, rfl⟩ | ⟨b, rfl, hy, rfl⟩)
  · exact absurd hok hn
  refine O_le _ (Le.absPerm (As := [dsc b l none]) (As' := [dscS b l]) (pickA_perm (is := [0]) rfl) (.refl _) (fun G w h A hA => ?_)) ?_
  · simp only [List.mem_singleton] at hA
    subst hA
    exact ⟨none, (fun _ h => by cases h), h _ (by simp)⟩
  repeat (first | refine sc rfl ?_ | refine so rfl ?_ | refine sb rfl ?_)
  first
    | exact ⟨_, [_, _], _, rfl, pickA_perm (is := [1, 2]) (As := [_, _]) rfl, rfl, b, rfl, rfl⟩
    | exact ⟨_, [_, _], _, rfl, pickA_perm (is := [1, 1]) (As := [_, _]) rfl, rfl, b, rfl, rfl⟩
    | exact ⟨_, [_, _], _, rfl, pickA_perm (is := [0, 1]) (As := [_, _]) rfl, rfl, b, rfl, rfl⟩
end Go.Proofs

/- What is read without a fault is not great: plain law. -/
set_option linter.unusedSimpArgs false
set_option linter.unusedVariables false
set_option maxRecDepth 100000
namespace Go.Proofs
open Go.Sy Go.Lib

theorem oneF_kind {s : List UInt8} {i : Nat} : ∀ t ∈ (oneF s i).2.2, t.kind ≠ 4 := by
  unfold oneF
  simp only []
  intro t ht
  split at ht
  · unfold wordF at ht
    simp only [] at ht
    split at ht
    · cases ht
    · simp only [List.mem_singleton] at ht; subst ht; show (1 : Int) ≠ 4; decide
  · split at ht
    · unfold nmbF at ht
      simp only [] at ht
      split at ht
      · cases ht
      · split at ht
        · cases ht
        · simp only [List.mem_singleton] at ht; subst ht; show (2 : Int) ≠ 4; decide
    · split at ht
      · split at ht <;> cases ht
      · split at ht
        · cases ht
        · split at ht
          · cases ht
          · simp only [List.mem_singleton] at ht; subst ht; show (3 : Int) ≠ 4; decide
def EndT (ts : List Tok) : Prop := ∀ t ∈ ts, t.kind = 4 → t.text = []
theorem lexF_end {s : List UInt8} : ∀ (n i : Nat) (ts : List Tok), EndT ts → EndT (lexF s n i ts).2.2
  | 0, i, ts, h => h
  | n + 1, i, ts, h => by
    simp only [lexF]
    split
    · split
      · refine lexF_end n _ _ (fun t ht hk => ?_)
        rcases List.mem_append.1 ht with hm | hm
        · exact h t hm hk
        · exact absurd hk (oneF_kind t hm)
      · intro t ht; cases ht
    · intro t ht hk
      rcases List.mem_append.1 ht with hm | hm
      · exact h t hm hk
      · simp only [List.mem_singleton] at hm; subst hm; rfl
theorem tokF_end (s : List UInt8) : EndT (tokF s).2.2 := by
  unfold tokF
  split
  · intro t ht; cases ht
  · exact lexF_end _ _ _ (fun t ht => by cases ht)

section
variable {ts : List Tok} (hE : EndT ts)
theorem fewT_d : FewT (default : Ty) := .mk (Nat.zero_le _) (fun i hi => absurd hi (Nat.not_lt_zero _))
theorem fewT_n {k : Int} {nm : List UInt8} : FewT ⟨k, nm, []⟩ := .mk (Nat.zero_le _) (fun i hi => absurd hi (Nat.not_lt_zero _))
theorem fewT_1 {k : Int} {nm : List UInt8} {x : Ty} (h : FewT x) : FewT ⟨k, nm, [x]⟩ := .mk (by show 1 ≤ 1000; decide) (fun i hi => by
  obtain rfl : i = 0 := by have : i < 1 := hi; omega
  exact h)
theorem fewT_2 {k : Int} {nm : List UInt8} {x y : Ty} (h : FewT x) (h' : FewT y) : FewT ⟨k, nm, [x, y]⟩ := .mk (by show 2 ≤ 1000; decide) (fun i hi => by
  have h2 : i < 2 := hi
  rcases i with _ | _ | i
  · exact h
  · exact h'
  · omega)
theorem base_few {rec : Int → PS → Ty × PS} (hr : ∀ d p, FewT (rec d p).1) (deep : Int) (p : PS) : FewT (baseF ts rec deep p).1 := by
  unfold baseF
  split
  · exact fewT_n
  · split
    · exact fewT_1 (hr _ _)
    · split
      · exact fewT_2 (hr _ _) (hr _ _)
      · exact fewT_n
theorem typ_few : ∀ (n : Nat) (deep : Int) (p : PS), FewT (typF ts n deep p).1
  | 0, _, _ => fewT_d
  | n + 1, deep, p => by
    unfold typF
    split
    · exact fewT_n
    · split
      · exact fewT_1 (base_few (fun d p => typ_few n d p) _ _)
      · exact base_few (fun d p => typ_few n d p) _ _

theorem nowF_end {p : PS} (hE : EndT ts) (hp : p.i < ts.length) (h : (nowF ts p).kind = 4) : (nowF ts p).text = [] := hE _ (mem_getD hp) h
theorem num_bad {p : PS} (h : (nowF ts p).kind = 4) : (numP ts p).err ≠ 0 := by
  have h1 : (numB ts p).err ≠ 0 := by
    unfold numB
    rw [if_pos (by rw [h]; decide)]
    exact failF_err ts (by decide) p
  unfold numP
  rw [if_pos h1]; exact h1
theorem num_keep {p : PS} (h : p.err ≠ 0) : (numP ts p).err ≠ 0 := by
  have h1 : (numB ts p).err ≠ 0 := by
    unfold numB; split
    · rw [failF_keep h]; exact h
    · exact h
  unfold numP
  rw [if_pos h1]; exact h1
theorem may_keep {s : List UInt8} {p : PS} (h : p.err ≠ 0) : mayP ts s p = p ∧ mayF ts s p = false := by
  have hm : mayF ts s p = false := by unfold mayF; rw [show (p.err == 0) = false by simpa using h]; rfl
  exact ⟨by unfold mayP; rw [hm]; rfl, hm⟩
theorem base_keep {rec : Int → PS → Ty × PS} (hr : ∀ d p, p.err ≠ 0 → (rec d p).2.err ≠ 0) (deep : Int) {p : PS} (h : p.err ≠ 0) : (baseF ts rec deep p).2.err ≠ 0 := by
  unfold baseF
  rw [(may_keep h).2, (may_keep h).2]
  split
  · exact h
  · exact name_keep h
theorem typ_keep : ∀ (n : Nat) (deep : Int) {p : PS}, p.err ≠ 0 → (typF ts n deep p).2.err ≠ 0
  | 0, _, _, h => h
  | n + 1, deep, p, h => by
    have hd : dpP ts deep p = p := by unfold dpP; split; exact failF_keep h; rfl
    unfold typF
    rw [hd, if_pos h]
    exact h
/-- A row that fails at an end. -/
def RowK (ts : List Tok) (R : PS → Dcl → Dcl × PS) : Prop :=
  (∀ p d, p.i < ts.length → (nowF ts p).kind = 4 → (R p d).2.err ≠ 0) ∧ ∀ p d, (R p d).1.fields.length ≤ d.fields.length + 1 ∧ (R p d).1.methods.length ≤ d.methods.length + 1 ∧ ((∀ f ∈ d.fields, FewT f.ty) → ∀ f ∈ (R p d).1.fields, FewT f.ty)
theorem fieldK : RowK ts (fieldR ts) := ⟨fun p d _ h => typ_keep 10 0 (need_keep (name_keep (num_bad h))), fun p d => ⟨by simp [fieldR], by simp [fieldR], fun hd f hf => by
  rcases List.mem_append.1 hf with hm | hm
  · exact hd f hm
  · simp only [List.mem_singleton] at hm; subst hm; exact typ_few 10 0 _⟩⟩
theorem enumK : RowK ts (enumR ts) := ⟨fun p d _ h => name_keep (num_bad h), fun p d => ⟨by simp [enumR], by simp [enumR], fun hd f hf => by
  rcases List.mem_append.1 hf with hm | hm
  · exact hd f hm
  · simp only [List.mem_singleton] at hm; subst hm; exact fewT_n⟩⟩
include hE in
theorem methK : RowK ts (methR ts) := ⟨fun p d hp h => by
  have ht := nowF_end hE hp h
  have hm : mayP ts [111, 110, 101, 119, 97, 121] p = p := by
    unfold mayP
    have : mayF ts [111, 110, 101, 119, 97, 121] p = false := by
      unfold mayF
      rw [ht]
      cases p.err == 0 <;> rfl
    rw [this]; rfl
  refine name_keep (need_keep (need_keep (name_keep (need_keep (name_keep ?_)))))
  unfold m1P
  rw [hm]
  exact num_bad h, fun p d => ⟨by simp [methR], by simp [methR], fun hd f hf => hd f hf⟩⟩

/-- Few rows. -/
def FewW (d : Dcl) : Prop := d.fields.length ≤ 16 ∧ d.methods.length ≤ 16 ∧ ∀ f ∈ d.fields, FewT f.ty
theorem rows_few {R : PS → Dcl → Dcl × PS} (hR : RowK ts R) (hlt : ∀ (p : PS) (d : Dcl), p.i < ts.length → (R p d).2.i < ts.length) (hT : TsOK ts) : ∀ (n k : Nat) (p : PS) (d : Dcl), p.i < ts.length → (p.err = 0 → k ≤ 16) → d.fields.length ≤ k → d.methods.length ≤ k → (∀ f ∈ d.fields, FewT f.ty) → (rowsF ts R n k p d).2.err = 0 → FewW (rowsF ts R n k p d).1
  | 0, k, p, d, hp, hk, h1, h2, h3, he => ⟨Nat.le_trans h1 (hk he), Nat.le_trans h2 (hk he), h3⟩
  | n + 1, k, p, d, hp, hk, h1, h2, h3, he => by
    unfold rowsF at he ⊢
    by_cases h0 : p.err = 0
    · rw [if_pos h0] at he ⊢
      by_cases hm : mayF ts [125] p = true
      · rw [if_pos hm] at he ⊢
        exact ⟨Nat.le_trans h1 (hk h0), Nat.le_trans h2 (hk h0), h3⟩
      · rw [if_neg hm] at he ⊢
        have hk0 := hk h0
        have hb := body_lt hT (R := R) (k := k) (d := d) hlt hp
        have key : (((bodyF ts R k p d).2.err = 0 → k + 1 ≤ 16) ∧ (bodyF ts R k p d).1.fields.length ≤ k + 1 ∧ (bodyF ts R k p d).1.methods.length ≤ k + 1 ∧ ∀ f ∈ (bodyF ts R k p d).1.fields, FewT f.ty) := by
          unfold bodyF
          simp only []
          by_cases hc : k = 16 ∧ (nowF ts p).kind ≠ 4
          · rw [if_pos hc, if_neg (failF_err ts (by decide) p)]
            exact ⟨fun h => absurd h (failF_err ts (by decide) p), Nat.le_succ_of_le h1, Nat.le_succ_of_le h2, h3⟩
          · rw [if_neg hc, if_pos h0]
            obtain ⟨q1, q2, q3⟩ := hR.2 p d
            refine ⟨fun h => ?_, by simp only []; omega, by simp only []; omega, q3 h3⟩
            by_cases hk6 : k = 16
            · have h4 : (nowF ts p).kind = 4 := by
                by_cases h4 : (nowF ts p).kind = 4
                · exact h4
                · exact absurd ⟨hk6, h4⟩ hc
              exact absurd h (need_keep (hR.1 p d hp h4))
            · omega
        exact rows_few hR hlt hT n (k + 1) _ _ hb key.1 key.2.1 key.2.2.1 key.2.2.2 he
    · rw [if_neg h0] at he
      exact absurd he h0

include hE in
theorem headK (p : PS) : RowK ts (headF ts p).2.1 := by
  unfold headF
  repeat' split
  all_goals first
    | exact fieldK
    | exact enumK
    | exact methK hE
include hE in
theorem decl_few (hT : TsOK ts) {p : PS} (hp : p.i < ts.length) (he : (declF ts p).2.err = 0) : FewW (declF ts p).1 :=
  rows_few (headK hE p) (headRlt hT p) hT _ 0 _ _ (need_lt hT (name_lt hT (head_lt hT hp)) _) (fun _ => by omega) (Nat.le_refl _) (Nat.le_refl _) (fun f hf => by cases hf) he
include hE in
theorem par_few (hT : TsOK ts) : ∀ (n : Nat) (p : PS) (out : List Dcl), p.i < ts.length → out.length ≤ 16 → (p.err = 0 → ∀ d ∈ out, FewW d) → (parF ts n p out).2.err = 0 → (parF ts n p out).1.length ≤ 16 ∧ ∀ d ∈ (parF ts n p out).1, FewW d
  | 0, p, out, hp, hl, h, he => ⟨hl, h he⟩
  | n + 1, p, out, hp, hl, h, he => by
    unfold parF at he ⊢
    by_cases h0 : p.err = 0 ∧ (nowF ts p).kind ≠ 4
    · rw [if_pos h0] at he ⊢
      by_cases h16 : out.length = 16
      · rw [if_pos h16] at he
        exact absurd he (failF_err ts (by decide) p)
      · rw [if_neg h16] at he ⊢
        refine par_few hT n _ _ (decl_lt hT hp) (by rw [List.length_append, List.length_singleton]; omega) (fun h1 d hd => ?_) he
        rcases List.mem_append.1 hd with hm | hm
        · exact h h0.1 d hm
        · simp only [List.mem_singleton] at hm; subst hm; exact decl_few hE hT hp h1
    · rw [if_neg h0] at he ⊢
      exact ⟨hl, h he⟩
end
theorem parse_few {s : List UInt8} (h : (parseF s).2.1 = 0) : (parseF s).1.length ≤ 16 ∧ ∀ d ∈ (parseF s).1, FewW d := by
  unfold parseF at h ⊢
  split at h
  · rename_i h0; exact absurd h h0
  · rename_i h0
    have h0' : (tokF s).1 = 0 := Decidable.not_not.1 h0
    rw [if_neg h0]
    obtain ⟨hT, hpos⟩ := tokF_ok h0'
    exact par_few (tokF_end s) hT _ ⟨0, 0, 0⟩ [] hpos (Nat.zero_le _) (fun _ d hd => by cases hd) h
theorem FewW.toD {d : Dcl} (h : FewW d) : FewD d := ⟨⟨Nat.le_trans h.1 (by decide), fun i hi => h.2.2 _ (mem_getDf hi)⟩, Nat.le_trans h.2.1 (by decide)⟩
theorem parse_fewL {s : List UInt8} (h : (parseF s).2.1 = 0) : FewL (parseF s).1 :=
  ⟨Nat.le_trans (parse_few h).1 (by decide), fun i hi => ((parse_few h).2 _ (mem_getD hi)).toD⟩
theorem parse_prep {s : List UInt8} (h : (parseF s).2.1 = 0) (hW : WellL (parseF s).1) : Prep (parseF s).1 :=
  ⟨parse_fewL h, fun i hi => Nat.le_trans ((parse_few h).2 _ (mem_getD hi)).1 (by decide), fun i hi => (hW i hi).at_⟩
end Go.Proofs

/- Two laws that stand in JR4 and JR6 too (a claim's size is bounded). -/
set_option linter.unusedSimpArgs false
set_option linter.unusedVariables false
set_option maxRecDepth 100000
namespace Go.Proofs
open Go.Sy Go.Lib

theorem fewU {l : List Dcl} {nm : List UInt8} (hP : Prep l) (hW : WellL l) (hex : ∃ Rs, RowsOK l Rs) : (rowsU l nm).length ≤ 1000 ∧ ∀ f, f ∈ rowsU l nm → FewT f.ty := by
  obtain ⟨Rs, hRs⟩ := hex
  rw [← rowsU_eq hW hRs]
  unfold rowsL
  cases hf : fndL nm l with
  | none => exact ⟨Nat.zero_le _, fun f h => by cases h⟩
  | some j =>
    have hj := fndL_lt hf
    have := (hRs.2 j hj).few (hP.few.2 j hj).f
    exact ⟨this.1, fun f h => by obtain ⟨i, hi, rfl⟩ := getD_mem h; exact this.2 i hi⟩

theorem tyOK0 (l : List Dcl) (b : Bool) {k : Int} (hk : k = 2 ∨ k = 4) : TyOK l b ⟨k, [], []⟩ := by
  refine .mk ?_ (fun _ => rfl) (fun h => ?_) (fun h => ?_) (fun h => ?_) (fun i hi => absurd hi (Nat.not_lt_zero _))
  · rcases hk with rfl | rfl <;> rfl
  all_goals (simp only [] at h; omega)
end Go.Proofs

/- Contracts of desc: fields and declarations that are handed out, owned. -/
set_option linter.unusedSimpArgs false
set_option linter.unusedVariables false
set_option maxRecDepth 100000
namespace Go.Proofs
open Go.Sy Go.Lib

/-- Fields, owned. -/
abbrev fvA (h : Value) (F : List Fld) : Abs := vecA h 65 5 F.length (fun i => Fld.c (F.getD i default))

def isSl (h : Value) : Prop := ∃ a m cc, h = .slice a m cc
theorem fields_O (F : List Fld) (hF : FewF F) : FnA Tryz.prog 71 [SL 5 Fld.c F] [] (fun r cs' => ∃ h, isSl h ∧ r = .v h ∧ cs' = [fvA h F]) := by
  refine FnA.intro Tryz.tabOK Tryz.wide_ Tryz.func71 rfl (by decide) rfl (fun X => ?_)
  have hlen := hF.1
  repeat (first | refine sc rfl ?_ | refine so rfl ?_ | refine sb rfl ?_)
  refine C_le _ (Le.addVec 65 5 (fun i => Fld.c (F.getD i default))) ?_
  refine C_loop (fun q : Nat × Value => ⟨[(3, .v q.2), (6, SL 5 Fld.c F), (7, I64 (F.length : Nat)), (8, I64 (q.1 : Nat))], [.abs (vecA q.2 65 5 q.1 (fun i => Fld.c (F.getD i default)))]⟩)
    (fun q => q.1 ≤ F.length ∧ isSl q.2) (fun q => F.length - q.1) (0, .slice none 0 0) ⟨Nat.zero_le _, _, _, _, rfl⟩ (Le.pick [0] ⟨rfl, rfl, rfl, rfl, trivial⟩ rfl) ?_
  rintro ⟨k, h⟩ ⟨hk, hisl⟩
  simp only [] at hk hisl
  repeat (first | refine sc rfl ?_ | refine so rfl ?_ | refine sb rfl ?_)
  refine C_if rfl (fun m1 => ?_) (fun m1 => ?_) <;> simp only [decide_eq_true_eq, decide_eq_false_iff_not, Bool.not_eq_true', Bool.not_eq_false', beq_iff_eq, beq_eq_false_iff_ne, bne_iff_ne, ne_eq, bne_eq_false_iff_eq, Decidable.not_not] at m1
  · have hkl : k < F.length := by omega
    repeat (first | refine sc rfl ?_ | refine so rfl ?_ | refine sb rfl ?_)
    refine ⟨by omega, ?_⟩
    rw [Int.toNat_natCast]
    repeat (first | refine sc rfl ?_ | refine so rfl ?_ | refine sb rfl ?_)
    refine O_call (own_c _ (F.getD k default).ty (Nat.le_refl _) (hF.2 k hkl)) (by rfl) (by rfl) (by rfl) (by rfl) (fun r hr => ?_)
    subst hr
    repeat (first | refine sc rfl ?_ | refine so rfl ?_ | refine sb rfl ?_)
    refine O_le _ (Le.freeze 18 rfl rfl) ?_
    refine O_appendV 1 (m2 := 1) (m3 := k + 1) (row3 := fun i => Fld.c (F.getD i default)) rfl rfl rfl rfl rfl rfl (fun i hi => ?_) rfl (by show (k + 1) * 72 ≤ 140737488355328; omega) (by show k + 1 ≤ maxLen; simp only [maxLen]; omega) rfl (fun i hi => ?_) (fun v' hv' => ?_)
    · show (chunkRow 5 (Fld.c (F.getD k default)) i).length = 5
      have h0 : i = 0 := by have : i < 1 := hi; omega
      subst h0; rfl
    · unfold appRow
      by_cases hik : i < k
      · rw [if_pos hik]
      · rw [if_neg hik]
        obtain rfl : i = k := by omega
        rw [Nat.sub_self]; rfl
    · obtain ⟨g9, cc9, rfl⟩ := hv'.resolve_left (fun h => by omega)
      repeat (first | refine sc rfl ?_ | refine so rfl ?_ | refine sb rfl ?_)
      rw [w64 (x := (k : Int) + 1) (by omega) (by omega)]
      refine ⟨(k + 1, HD g9 (k + 1) cc9), ⟨by simp only []; omega, _, _, _, rfl⟩, by simp only []; omega, Le.pick [0] ⟨rfl, rfl, rfl, rfl, trivial⟩ rfl⟩
  · obtain rfl : k = F.length := by omega
    repeat (first | refine sc rfl ?_ | refine so rfl ?_ | refine sb rfl ?_)
    exact ⟨_, [_], _, rfl, pickA_perm (is := [0]) (As := [_]) rfl, rfl, h, hisl, rfl, rfl⟩

/-- A declaration in memory whose fields are owned. -/
abbrev drow (d : Dcl) (h : Value) : List AV := [I64 d.kind, .s d.name, .v h, SL 5 Mth.c d.methods, I64 d.fat]
abbrev hsD (hs : List Value) (i : Nat) : Value := hs.getD i (.slice none 0 0)
abbrev dvA (h : Value) (l : List Dcl) (hs : List Value) (n : Nat) : Abs := vecA h 60 5 n (fun i => drow (l.getD i default) (hsD hs i))
def fks (l : List Dcl) (hs : List Value) (n : Nat) : List Abs := (List.range n).map fun i => fvA (hsD hs i) (l.getD i default).fields
theorem fks_snoc (l : List Dcl) (hs : List Value) (h : Value) : fks l (hs ++ [h]) (hs.length + 1) = fks l hs hs.length ++ [fvA h (l.getD hs.length default).fields] := by
  unfold fks
  rw [List.range_succ, List.map_append, List.map_singleton]
  congr 1
  · refine List.map_congr_left (fun i hi => ?_)
    have : i < hs.length := List.mem_range.1 hi
    simp only [hsD, List.getD_eq_getElem?_getD, List.getElem?_append_left this]
  · simp only [hsD, List.getD_eq_getElem?_getD, List.getElem?_append_right (Nat.le_refl _), Nat.sub_self]
    rfl
theorem Le.packSnoc {P : Program} {T : Tab} {X : Ctx P T} {n : Nat} (q q2 : Nat) {L : List Abs} {A : Abs} {s : List (Nat × AV)} {c cr : List Ch} (hp : pickA [q, q2] c = some ([A, packA L], cr)) : Le X n ⟨s, c⟩ ⟨s, .abs (packA (L ++ [A])) :: cr⟩ :=
  Le.absPerm (As := [A, packA L]) (As' := [packA (L ++ [A])]) (pickA_perm hp) (by
    simp only [blocks, packA, List.flatMap_cons, List.flatMap_nil, List.append_nil, List.flatMap_append]
    exact List.perm_append_comm) (fun G w h B hB => by
    simp only [List.mem_singleton] at hB
    subst hB
    intro C hC
    rcases List.mem_append.1 hC with hm | hm
    · exact h (packA L) (by simp) C hm
    · simp only [List.mem_singleton] at hm; subst hm; exact h C (by simp))

theorem decls_O (l : List Dcl) (hl : FewL l) : FnA Tryz.prog 68 [SL 5 Dcl.c l] [] (fun r cs' => ∃ h hs, isSl h ∧ hs.length = l.length ∧ (∀ x ∈ hs, isSl x) ∧ r = .v h ∧ cs' = [dvA h l hs l.length, packA (fks l hs l.length)]) := by
  refine FnA.intro Tryz.tabOK Tryz.wide_ Tryz.func68 rfl (by decide) rfl (fun X => ?_)
  have hlen := hl.1
  repeat (first | refine sc rfl ?_ | refine so rfl ?_ | refine sb rfl ?_)
  refine C_le _ (Le.addAbs (packA []) rfl (fun _ _ A hA => by cases hA)) ?_
  refine C_le _ (Le.addVec 60 5 (fun i => drow (l.getD i default) (([] : List Value).getD i (.slice none 0 0)))) ?_
  refine C_loop (fun q : Nat × Value × List Value => ⟨[(3, .v q.2.1), (6, SL 5 Dcl.c l), (7, I64 (l.length : Nat)), (8, I64 (q.1 : Nat))], [.abs (dvA q.2.1 l q.2.2 q.1), .abs (packA (fks l q.2.2 q.1))]⟩)
    (fun q => q.1 ≤ l.length ∧ q.2.2.length = q.1 ∧ isSl q.2.1 ∧ ∀ x ∈ q.2.2, isSl x) (fun q => l.length - q.1) (0, .slice none 0 0, []) ⟨Nat.zero_le _, rfl, ⟨_, _, _, rfl⟩, fun x hx => by cases hx⟩ (Le.pick [0, 0] ⟨rfl, rfl, rfl, rfl, trivial⟩ rfl) ?_
  rintro ⟨k, h, hs⟩ ⟨hk, hsl, hi1, hi2⟩
  simp only [] at hk hsl hi1 hi2
  repeat (first | refine sc rfl ?_ | refine so rfl ?_ | refine sb rfl ?_)
  refine C_if rfl (fun m1 => ?_) (fun m1 => ?_) <;> simp only [decide_eq_true_eq, decide_eq_false_iff_not, Bool.not_eq_true', Bool.not_eq_false', beq_iff_eq, beq_eq_false_iff_ne, bne_iff_ne, ne_eq, bne_eq_false_iff_eq, Decidable.not_not] at m1
  · have hkl : k < l.length := by omega
    repeat (first | refine sc rfl ?_ | refine so rfl ?_ | refine sb rfl ?_)
    refine ⟨by omega, ?_⟩
    rw [Int.toNat_natCast]
    repeat (first | refine sc rfl ?_ | refine so rfl ?_ | refine sb rfl ?_)
    refine O_callA [] (fields_O (l.getD k default).fields (hl.2 k hkl).f) (by rfl) (by rfl) (by rfl) (by rfl) (by rfl) ?_
    rintro r cs' ⟨hf, ⟨fa, fm, fc, rfl⟩, rfl, rfl⟩
    repeat (first | refine sc rfl ?_ | refine so rfl ?_ | refine sb rfl ?_)
    refine O_call (Clone_M (l.getD k default).methods (hl.2 k hkl).m) (by rfl) (by rfl) (by rfl) (by rfl) (fun r hr => ?_)
    subst hr
    repeat (first | refine sc rfl ?_ | refine so rfl ?_ | refine sb rfl ?_)
    refine O_le _ (Le.freeze 22 rfl rfl) ?_
    first
      | refine O_appendV 0 (m2 := 1) (m3 := k + 1) (row3 := fun i => drow (l.getD i default) (hsD (hs ++ [.slice fa fm fc]) i)) rfl rfl rfl rfl rfl rfl (fun i hi => ?_) rfl (by show (k + 1) * 80 ≤ 140737488355328; omega) (by show k + 1 ≤ maxLen; simp only [maxLen]; omega) rfl (fun i hi => ?_) (fun v' hv' => ?_)
      | refine O_appendV 1 (m2 := 1) (m3 := k + 1) (row3 := fun i => drow (l.getD i default) (hsD (hs ++ [.slice fa fm fc]) i)) rfl rfl rfl rfl rfl rfl (fun i hi => ?_) rfl (by show (k + 1) * 80 ≤ 140737488355328; omega) (by show k + 1 ≤ maxLen; simp only [maxLen]; omega) rfl (fun i hi => ?_) (fun v' hv' => ?_)
      | refine O_appendV 2 (m2 := 1) (m3 := k + 1) (row3 := fun i => drow (l.getD i default) (hsD (hs ++ [.slice fa fm fc]) i)) rfl rfl rfl rfl rfl rfl (fun i hi => ?_) rfl (by show (k + 1) * 80 ≤ 140737488355328; omega) (by show k + 1 ≤ maxLen; simp only [maxLen]; omega) rfl (fun i hi => ?_) (fun v' hv' => ?_)
      | refine O_appendV 3 (m2 := 1) (m3 := k + 1) (row3 := fun i => drow (l.getD i default) (hsD (hs ++ [.slice fa fm fc]) i)) rfl rfl rfl rfl rfl rfl (fun i hi => ?_) rfl (by show (k + 1) * 80 ≤ 140737488355328; omega) (by show k + 1 ≤ maxLen; simp only [maxLen]; omega) rfl (fun i hi => ?_) (fun v' hv' => ?_)
      | refine O_appendV 4 (m2 := 1) (m3 := k + 1) (row3 := fun i => drow (l.getD i default) (hsD (hs ++ [.slice fa fm fc]) i)) rfl rfl rfl rfl rfl rfl (fun i hi => ?_) rfl (by show (k + 1) * 80 ≤ 140737488355328; omega) (by show k + 1 ≤ maxLen; simp only [maxLen]; omega) rfl (fun i hi => ?_) (fun v' hv' => ?_)
    · show (chunkRow 5 (drow (l.getD k default) (.slice fa fm fc)) i).length = 5
      have h0 : i = 0 := by have : i < 1 := hi; omega
      subst h0; rfl
    · unfold appRow
      by_cases hik : i < k
      · rw [if_pos hik]
        simp only [hsD, List.getD_eq_getElem?_getD, List.getElem?_append_left (show i < hs.length by omega)]
      · rw [if_neg hik]
        obtain rfl : i = k := by omega
        simp only [hsD, List.getD_eq_getElem?_getD, List.getElem?_append_right (show hs.length ≤ i by omega), hsl, Nat.sub_self]
        rfl
    · obtain ⟨g9, cc9, rfl⟩ := hv'.resolve_left (fun h => by omega)
      repeat (first | refine sc rfl ?_ | refine so rfl ?_ | refine sb rfl ?_)
      rw [w64 (x := (k : Int) + 1) (by omega) (by omega)]
      refine ⟨(k + 1, HD g9 (k + 1) cc9, hs ++ [.slice fa fm fc]), ⟨by simp only []; omega, by simp only [List.length_append, List.length_singleton]; omega, ⟨_, _, _, rfl⟩, fun x hx => ?_⟩, by simp only []; omega, ?_⟩
      · rcases List.mem_append.1 hx with hm | hm
        · exact hi2 x hm
        · simp only [List.mem_singleton] at hm; subst hm; exact ⟨_, _, _, rfl⟩
      · have hx := fks_snoc l hs (.slice fa fm fc)
        rw [hsl] at hx
        simp only []
        rw [hx]
        exact (Le.packSnoc 2 2 rfl).trans (Le.pick [1, 0] ⟨rfl, rfl, rfl, rfl, trivial⟩ rfl)
  · obtain rfl : k = l.length := by omega
    repeat (first | refine sc rfl ?_ | refine so rfl ?_ | refine sb rfl ?_)
    exact ⟨_, [_, _], _, rfl, pickA_perm (is := [0, 0]) (As := [_, _]) rfl, rfl, h, hs, hi1, hsl, hi2, rfl, rfl⟩
end Go.Proofs

/- Contracts of desc: Decls and Rows, owned. -/
set_option linter.unusedSimpArgs false
set_option linter.unusedVariables false
set_option maxRecDepth 100000
namespace Go.Proofs
open Go.Sy Go.Lib

theorem FnA_exC {α : Type} {I : α → Prop} {A : α → Abs} {bs : List Nat} {hbs : ∀ q, (A q).bs = bs} {P : Program} {f : FuncId} {args : List AV} {φ : AV → List Abs → Prop}
    (h : ∀ q, I q → FnA P f args [A q] (fun r cs' => ∃ E, φ r E ∧ ∃ q', I q' ∧ cs' = A q' :: E)) (hc : Callable P f) : FnA P f args [exA I A bs hbs] (fun r cs' => ∃ E, φ r E ∧ cs' = exA I A bs hbs :: E) := by
  refine ⟨hc, fun G w cargs him hr hok => ?_⟩
  have hx : (exA I A bs hbs).ok G w := hok.1 _ (List.mem_singleton.2 rfl)
  obtain ⟨q, hq, hqo⟩ := hx
  have e1 : ∀ q, blocks [A q] = bs := fun q => by simp [blocks, hbs]
  have e2 : blocks [exA I A bs hbs] = bs := by simp [blocks, exA]
  have e3 : ∀ q E, blocks (A q :: E) = blocks (exA I A bs hbs :: E) := fun q E => by simp [blocks, exA, hbs]
  have hok' : AbsOK G w [A q] := ⟨fun B hB => by simp only [List.mem_singleton] at hB; subst hB; exact hqo, by rw [e1, ← e2]; exact hok.2.1, by rw [e1, ← e2]; exact hok.2.2⟩
  refine ((h q hq).2 G w cargs him hr hok').mono ?_
  rintro en w' ⟨r, cr, cs', G', ⟨E, hφ, q', hq', rfl⟩, g1, g2, g3, g4, g5, g6, g7, g8⟩
  rw [e1] at g4 g7 g8
  rw [e3] at g7
  refine ⟨r, cr, _, G', ⟨E, hφ, rfl⟩, g1, g2, g3, by rw [e2]; exact g4, g5, ⟨fun B hB => ?_, by rw [← e3 q']; exact g6.2.1, by rw [← e3 q']; exact g6.2.2⟩, ?_, ?_⟩
  · rcases List.mem_cons.1 hB with rfl | hB
    · exact ⟨q', hq', g6.1 _ (by simp)⟩
    · exact g6.1 B (List.mem_cons_of_mem _ hB)
  · rw [e2]; exact g7
  · rw [e2]; exact g8

theorem Decls_A (b : Nat) (l : List Dcl) (hl : FewL l) (q : Option (List (List Fld))) : FnA Tryz.prog 23 [PT b 0] [dsc b l q] (fun r cs' => ∃ h hs, isSl h ∧ hs.length = l.length ∧ (∀ x ∈ hs, isSl x) ∧ r = .v h ∧ cs' = [dsc b l q, dvA h l hs l.length, packA (fks l hs l.length)]) := by
  refine FnA.intro Tryz.tabOK Tryz.wide_ Tryz.func23 rfl (by decide) rfl (fun X => ?_)
  have hd : ∃ o1 o2 o3 t m0, dsc b l q = dscA b l o1 o2 o3 t m0 := by cases q <;> exact ⟨_, _, _, _, _, rfl⟩
  obtain ⟨o1, o2, o3, t, m0, hd⟩ := hd
  rw [hd]
  repeat (first | refine sc rfl ?_ | refine so rfl ?_ | refine sb rfl ?_)
  refine O_Xd (X_ptrnil Tryz.underlying48 rfl rfl rfl) ?_
  repeat (first | refine sc rfl ?_ | refine so rfl ?_ | refine sb rfl ?_)
  refine C_false rfl rfl ?_
  repeat (first | refine sc rfl ?_ | refine so rfl ?_ | refine sb rfl ?_)
  refine O_loadP 0 (A := dscA b l o1 o2 o3 t m0) (reads_box 0) rfl rfl rfl rfl rfl rfl ?_
  repeat (first | refine sc rfl ?_ | refine so rfl ?_ | refine sb rfl ?_)
  refine O_callA [] (decls_O l hl) (by rfl) (by rfl) (by rfl) (by rfl) (by rfl) ?_
  rintro r cs' ⟨h, hs, ⟨ha, hm, hc, rfl⟩, h2, h3, rfl, rfl⟩
  repeat (first | refine sc rfl ?_ | refine so rfl ?_ | refine sb rfl ?_)
  exact ⟨_, [_, _, _], _, rfl, pickA_perm (is := [2, 0, 0]) (As := [_, _, _]) rfl, rfl, _, hs, ⟨_, _, _, rfl⟩, h2, h3, rfl, rfl⟩
theorem Decls_S (b : Nat) (l : List Dcl) (hl : FewL l) : FnA Tryz.prog 23 [PT b 0] [dscS b l] (fun r cs' => ∃ E, (∃ h hs, isSl h ∧ hs.length = l.length ∧ (∀ x ∈ hs, isSl x) ∧ r = .v h ∧ E = [dvA h l hs l.length, packA (fks l hs l.length)]) ∧ cs' = dscS b l :: E) :=
  FnA_exC (φ := fun r E => ∃ h hs, isSl h ∧ hs.length = l.length ∧ (∀ x ∈ hs, isSl x) ∧ r = .v h ∧ E = [dvA h l hs l.length, packA (fks l hs l.length)]) (fun q hq => (Decls_A b l hl q).mono (fun r cs' ⟨h, hs, h1, h2, h3, h4, h5⟩ => ⟨_, ⟨h, hs, h1, h2, h3, h4, rfl⟩, q, hq, h5⟩)) (Decls_A b l hl none).1
theorem DRows_O (b : Nat) (l : List Dcl) (hP : Prep l) (q : Option (List (List Fld))) (hq : Rdy l q) (nm : List UInt8) :
    FnA Tryz.prog 25 [PT b 0, .s nm] [dsc b l q] (fun r cs' => ∃ Rs h, RowsOK l Rs ∧ isSl h ∧ r = .v h ∧ cs' = [dsc b l (some Rs), fvA h (rowsL l Rs nm)]) := by
  refine FnA.intro Tryz.tabOK Tryz.wide_ Tryz.func25 rfl (by decide) rfl (fun X => ?_)
  repeat (first | refine sc rfl ?_ | refine so rfl ?_ | refine sb rfl ?_)
  refine O_Xd (X_ptrnil Tryz.underlying48 rfl rfl rfl) ?_
  repeat (first | refine sc rfl ?_ | refine so rfl ?_ | refine sb rfl ?_)
  refine C_false rfl rfl ?_
  repeat (first | refine sc rfl ?_ | refine so rfl ?_ | refine sb rfl ?_)
  refine O_callA [0] (ready_A b l hP q hq) (by rfl) (by rfl) (by rfl) (by rfl) (by rfl) ?_
  rintro r cs' ⟨rfl, Rs, hRs, rfl⟩
  have hlook : lookE nm (esOf l Rs) = (fndL nm l).map fun j => SL 5 Fld.c (Rs.getD j default) := by
    rw [esOf_look nm l Rs (Nat.le_of_eq hRs.1)]
    cases hf : fndL nm l with
    | none => rfl
    | some j => simp only [Option.map_some]; rw [if_pos (by rw [hRs.1]; exact fndL_lt hf)]
  repeat (first | refine sc rfl ?_ | refine so rfl ?_ | refine sb rfl ?_)
  refine O_loadP 0 (A := dsc b l (some Rs)) (reads_box 5) rfl rfl rfl rfl rfl rfl ?_
  repeat (first | refine sc rfl ?_ | refine so rfl ?_ | refine sb rfl ?_)
  refine O_Xd (X_lookIS (z := nilH) sK Tryz.underlying163 rfl rfl (fun e => by simp only [Rep]) rfl (fun e v h => kS e h) rfl rfl rfl rfl) ?_
  rw [hlook]
  cases hf : fndL nm l with
  | none =>
    have hfs := fields_O [] ⟨Nat.zero_le _, fun i hi => absurd hi (Nat.not_lt_zero _)⟩
    simp only [lookAV, cond_false, Option.map_none, Option.getD_none]
    refine O_le _ (Le.conv 14 (y := SL 5 Fld.c []) rfl (fun e v h => by simp only [Rep] at h ⊢; exact repI_nil (by simpa only [RepI] using h))) ?_
    refine O_callA [] hfs (by rfl) (by rfl) (by rfl) (by rfl) (by rfl) ?_
    rintro r cs' ⟨h, ⟨ha, hm, hc, rfl⟩, rfl, rfl⟩
    repeat (first | refine sc rfl ?_ | refine so rfl ?_ | refine sb rfl ?_)
    exact ⟨_, [_, _], _, rfl, pickA_perm (is := [1, 0]) (As := [_, _]) rfl, rfl, Rs, _, hRs, ⟨_, _, _, rfl⟩, rfl, by simp [rowsL, hf]⟩
  | some j =>
    have hj := fndL_lt hf
    have hfs := fields_O (Rs.getD j default) ((hRs.2 j hj).few (hP.few.2 j hj).f)
    simp only [lookAV, cond_false, Option.map_some, Option.getD_some]
    refine O_callA [] hfs (by rfl) (by rfl) (by rfl) (by rfl) (by rfl) ?_
    rintro r cs' ⟨h, ⟨ha, hm, hc, rfl⟩, rfl, rfl⟩
    repeat (first | refine sc rfl ?_ | refine so rfl ?_ | refine sb rfl ?_)
    exact ⟨_, [_, _], _, rfl, pickA_perm (is := [1, 0]) (As := [_, _]) rfl, rfl, Rs, _, hRs, ⟨_, _, _, rfl⟩, rfl, by simp [rowsL, hf]⟩

theorem Rows_S (b : Nat) (l : List Dcl) (hP : Prep l) (hW : WellL l) (nm : List UInt8) : FnA Tryz.prog 25 [PT b 0, .s nm] [dscS b l] (fun r cs' => ∃ E, (∃ h, (∃ Rs, RowsOK l Rs) ∧ isSl h ∧ r = .v h ∧ E = [fvA h (rowsU l nm)]) ∧ cs' = dscS b l :: E) :=
  FnA_exC (φ := fun r E => ∃ h, (∃ Rs, RowsOK l Rs) ∧ isSl h ∧ r = .v h ∧ E = [fvA h (rowsU l nm)]) (fun q hq => (DRows_O b l hP q hq nm).mono (fun r cs' ⟨Rs, h, h1, h2, h3, h4⟩ => ⟨_, ⟨h, ⟨Rs, h1⟩, h2, h3, rfl⟩, some Rs, fun _ h => by cases h; exact h1, by rw [h4, rowsU_eq hW h1]⟩)) (DRows_O b l hP none (fun _ h => by cases h) nm).1
end Go.Proofs

/- Contracts of desc: fields and declarations of what is owned. -/
set_option linter.unusedSimpArgs false
set_option linter.unusedVariables false
set_option maxRecDepth 100000
namespace Go.Proofs
open Go.Sy Go.Lib

theorem vec_HD {h : Value} {t : TypeId} {esz n : Nat} {row : Nat → List AV} {G : IM} {w : World} (hok : (vecA h t esz n row).ok G w) (hn : 0 < n) : ∃ g cc, h = HD g n cc := by
  obtain ⟨xs, h1, h2⟩ := hok
  rcases h1.2 with ⟨rfl, hm⟩ | ⟨g, cap, cur, hsl, _⟩
  · omega
  · exact ⟨g, cap, hsl⟩
theorem fields_V (F : List Fld) (hF : FewF F) (hv : Value) : FnA Tryz.prog 71 [.v hv] [fvA hv F] (fun r cs' => r = SL 5 Fld.c F ∧ cs' = [fvA hv F]) := by
  refine FnA.intro Tryz.tabOK Tryz.wide_ Tryz.func71 rfl (by decide) rfl (fun X => ?_)
  have hlen := hF.1
  repeat (first | refine sc rfl ?_ | refine so rfl ?_ | refine sb rfl ?_)
  refine O_Xd (X_lenV 0 rfl rfl rfl rfl rfl) ?_
  repeat (first | refine sc rfl ?_ | refine so rfl ?_ | refine sb rfl ?_)
  refine C_le _ (Le.addVec 65 5 (fun i => Fld.c (F.getD i default))) ?_
  refine C_loop (fun q : Nat × Value => ⟨[(3, .v q.2), (6, .v hv), (7, I64 (F.length : Nat)), (8, I64 (q.1 : Nat))], [.abs (vecA q.2 65 5 q.1 (fun i => Fld.c (F.getD i default))), .abs (fvA hv F)]⟩)
    (fun q => q.1 ≤ F.length ∧ isSl q.2) (fun q => F.length - q.1) (0, .slice none 0 0) ⟨Nat.zero_le _, _, _, _, rfl⟩ (Le.pick [0, 0] ⟨rfl, rfl, rfl, rfl, trivial⟩ rfl) ?_
  rintro ⟨k, h⟩ ⟨hk, hisl⟩
  simp only [] at hk hisl
  repeat (first | refine sc rfl ?_ | refine so rfl ?_ | refine sb rfl ?_)
  refine C_if rfl (fun m1 => ?_) (fun m1 => ?_) <;> simp only [decide_eq_true_eq, decide_eq_false_iff_not, Bool.not_eq_true', Bool.not_eq_false', beq_iff_eq, beq_eq_false_iff_ne, bne_iff_ne, ne_eq, bne_eq_false_iff_eq, Decidable.not_not] at m1
  · have hkl : k < F.length := by omega
    refine C_know 1 (∃ g cc, hv = HD g F.length cc) rfl (fun G w hok _ => vec_HD hok (by omega)) ?_
    rintro ⟨gv, cv, rfl⟩
    repeat (first | refine sc rfl ?_ | refine so rfl ?_ | refine sb rfl ?_)
    refine ⟨by omega, ?_⟩
    rw [Int.toNat_natCast]
    repeat (first | refine sc rfl ?_ | refine so rfl ?_ | refine sb rfl ?_)
    refine O_loadP 1 (A := fvA (HD gv F.length cv) F) (cells := (Fld.c (F.getD k default)).drop 0) (reads_vec (q := k) (j := 0) hkl (by omega)) rfl rfl rfl rfl rfl rfl ?_
    repeat (first | refine sc rfl ?_ | refine so rfl ?_ | refine sb rfl ?_)
    refine O_call (own_c _ (F.getD k default).ty (Nat.le_refl _) (hF.2 k hkl)) (by rfl) (by rfl) (by rfl) (by rfl) (fun r hr => ?_)
    subst hr
    repeat (first | refine sc rfl ?_ | refine so rfl ?_ | refine sb rfl ?_)
    refine O_le _ (Le.freeze 18 rfl rfl) ?_
    refine O_appendV 1 (m2 := 1) (m3 := k + 1) (row3 := fun i => Fld.c (F.getD i default)) rfl rfl rfl rfl rfl rfl (fun i hi => ?_) rfl (by show (k + 1) * 72 ≤ 140737488355328; omega) (by show k + 1 ≤ maxLen; simp only [maxLen]; omega) rfl (fun i hi => ?_) (fun v' hv' => ?_)
    · show (chunkRow 5 (Fld.c (F.getD k default)) i).length = 5
      have h0 : i = 0 := by have : i < 1 := hi; omega
      subst h0; rfl
    · unfold appRow
      by_cases hik : i < k
      · rw [if_pos hik]
      · rw [if_neg hik]
        obtain rfl : i = k := by omega
        rw [Nat.sub_self]; rfl
    · obtain ⟨g9, cc9, rfl⟩ := hv'.resolve_left (fun h => by omega)
      repeat (first | refine sc rfl ?_ | refine so rfl ?_ | refine sb rfl ?_)
      rw [w64 (x := (k : Int) + 1) (by omega) (by omega)]
      refine ⟨(k + 1, HD g9 (k + 1) cc9), ⟨by simp only []; omega, _, _, _, rfl⟩, by simp only []; omega, Le.pick [0, 1] ⟨rfl, rfl, rfl, rfl, trivial⟩ rfl⟩
  · obtain rfl : k = F.length := by omega
    refine C_le _ (Le.frVec 0 (fun i => Fld.c (F.getD i default)) rfl (fun i hi => rfl)) ?_
    refine C_le _ (Le.slotA 0 3 rfl rfl) ?_
    repeat (first | refine sc rfl ?_ | refine so rfl ?_ | refine sb rfl ?_)
    exact ⟨_, [_], _, rfl, pickA_perm (is := [1]) (As := [_]) rfl, rfl, rfl, rfl⟩

theorem fks_get (l : List Dcl) (hs : List Value) (n k : Nat) (hk : k < n) : (fks l hs n)[k]? = some (fvA (hsD hs k) (l.getD k default).fields) := by
  unfold fks
  rw [List.getElem?_map, List.getElem?_range hk]
  rfl

theorem set_same {α : Type} {C : List α} {i : Nat} {x : α} (h : C[i]? = some x) : C.set i x = C := by
  apply List.ext_getElem?
  intro j
  rw [List.getElem?_set]
  split
  · rename_i hij
    subst hij
    rw [h]
    simp [(List.getElem?_eq_some_iff.1 h).1]
  · rfl
theorem decls_V (l : List Dcl) (hl : FewL l) (hv : Value) (vs : List Value) (hvs : vs.length = l.length) (hsl : ∀ x ∈ vs, isSl x) : FnA Tryz.prog 68 [.v hv] [dvA hv l vs l.length, packA (fks l vs l.length)] (fun r cs' => r = SL 5 Dcl.c l ∧ cs' = [dvA hv l vs l.length, packA (fks l vs l.length)]) := by
  refine FnA.intro Tryz.tabOK Tryz.wide_ Tryz.func68 rfl (by decide) rfl (fun X => ?_)
  have hlen := hl.1
  repeat (first | refine sc rfl ?_ | refine so rfl ?_ | refine sb rfl ?_)
  refine O_Xd (X_lenV 0 rfl rfl rfl rfl rfl) ?_
  repeat (first | refine sc rfl ?_ | refine so rfl ?_ | refine sb rfl ?_)
  refine C_le _ (Le.addVec 60 5 (fun i => Dcl.c (l.getD i default))) ?_
  refine C_loop (fun q : Nat × Value => ⟨[(3, .v q.2), (6, .v hv), (7, I64 (l.length : Nat)), (8, I64 (q.1 : Nat))], [.abs (vecA q.2 60 5 q.1 (fun i => Dcl.c (l.getD i default))), .abs (dvA hv l vs l.length), .abs (packA (fks l vs l.length))]⟩)
    (fun q => q.1 ≤ l.length) (fun q => l.length - q.1) (0, .slice none 0 0) (Nat.zero_le _) (Le.pick [0, 0, 0] ⟨rfl, rfl, rfl, rfl, trivial⟩ rfl) ?_
  rintro ⟨k, h⟩ hk
  simp only [] at hk
  repeat (first | refine sc rfl ?_ | refine so rfl ?_ | refine sb rfl ?_)
  refine C_if rfl (fun m1 => ?_) (fun m1 => ?_) <;> simp only [decide_eq_true_eq, decide_eq_false_iff_not, Bool.not_eq_true', Bool.not_eq_false', beq_iff_eq, beq_eq_false_iff_ne, bne_iff_ne, ne_eq, bne_eq_false_iff_eq, Decidable.not_not] at m1
  · have hkl : k < l.length := by omega
    refine C_know 1 (∃ g cc, hv = HD g l.length cc) rfl (fun G w hok _ => vec_HD hok (by omega)) ?_
    rintro ⟨gv, cv, rfl⟩
    obtain ⟨fa, fm, fc, hfk⟩ : isSl (hsD vs k) := hsl _ (by rw [hsD, List.getD_eq_getElem?_getD, List.getElem?_eq_getElem (show k < vs.length by omega)]; exact List.getElem_mem _)
    have hrow : drow (l.getD k default) (hsD vs k) = [I64 (l.getD k default).kind, .s (l.getD k default).name, .v (.slice fa fm fc), SL 5 Mth.c (l.getD k default).methods, I64 (l.getD k default).fat] := by rw [hfk]
    have hfk2 := fks_get l vs l.length k hkl
    rw [hfk] at hfk2
    repeat (first | refine sc rfl ?_ | refine so rfl ?_ | refine sb rfl ?_)
    refine ⟨by omega, ?_⟩
    rw [Int.toNat_natCast]
    repeat (first | refine sc rfl ?_ | refine so rfl ?_ | refine sb rfl ?_)
    refine O_loadP 1 (A := dvA (HD gv l.length cv) l vs l.length) (cells := (drow (l.getD k default) (.slice fa fm fc)).drop 0) (by rw [← hfk]; exact reads_vec (q := k) (j := 0) hkl (by omega)) rfl rfl rfl rfl rfl rfl ?_
    repeat (first | refine sc rfl ?_ | refine so rfl ?_ | refine sb rfl ?_)
    refine O_le _ (Le.unpackAt 3 hfk2 rfl) ?_
    refine O_callA [0] (fields_V (l.getD k default).fields (hl.2 k hkl).f (.slice fa fm fc)) (by rfl) (by rfl) (by rfl) (by rfl) (by rfl) ?_
    rintro r cs' ⟨rfl, rfl⟩
    refine O_le _ (Le.packAt 0 0 hfk2 rfl) ?_
    rw [set_same hfk2]
    repeat (first | refine sc rfl ?_ | refine so rfl ?_ | refine sb rfl ?_)
    refine O_call (Clone_M (l.getD k default).methods (hl.2 k hkl).m) (by rfl) (by rfl) (by rfl) (by rfl) (fun r hr => ?_)
    subst hr
    repeat (first | refine sc rfl ?_ | refine so rfl ?_ | refine sb rfl ?_)
    refine O_le _ (Le.freeze 22 rfl rfl) ?_
    refine O_appendV 2 (m2 := 1) (m3 := k + 1) (row3 := fun i => Dcl.c (l.getD i default)) rfl rfl rfl rfl rfl rfl (fun i hi => ?_) rfl (by show (k + 1) * 80 ≤ 140737488355328; omega) (by show k + 1 ≤ maxLen; simp only [maxLen]; omega) rfl (fun i hi => ?_) (fun v' hv' => ?_)
    · show (chunkRow 5 (Dcl.c (l.getD k default)) i).length = 5
      have h0 : i = 0 := by have : i < 1 := hi; omega
      subst h0; rfl
    · unfold appRow
      by_cases hik : i < k
      · rw [if_pos hik]
      · rw [if_neg hik]
        obtain rfl : i = k := by omega
        rw [Nat.sub_self]; rfl
    · obtain ⟨g9, cc9, rfl⟩ := hv'.resolve_left (fun h => by omega)
      repeat (first | refine sc rfl ?_ | refine so rfl ?_ | refine sb rfl ?_)
      rw [w64 (x := (k : Int) + 1) (by omega) (by omega)]
      refine ⟨(k + 1, HD g9 (k + 1) cc9), by simp only []; omega, by simp only []; omega, Le.pick [0, 2, 1] ⟨rfl, rfl, rfl, rfl, trivial⟩ rfl⟩
  · obtain rfl : k = l.length := by omega
    refine C_le _ (Le.frVec 0 (fun i => Dcl.c (l.getD i default)) rfl (fun i hi => rfl)) ?_
    refine C_le _ (Le.slotA 0 3 rfl rfl) ?_
    repeat (first | refine sc rfl ?_ | refine so rfl ?_ | refine sb rfl ?_)
    exact ⟨_, [_, _], _, rfl, pickA_perm (is := [1, 1]) (As := [_, _]) rfl, rfl, rfl, rfl⟩

end Go.Proofs

/- The symbolic walk, part 61: owned memory lent to a callee that only reads. -/
set_option linter.unusedSimpArgs false
set_option linter.unusedVariables false
namespace Go.Sy
open Go.RowKit Go.WideShapes Go.ChangeShapes

mutual
/-- Its meaning asks cells of memory alone. -/
def AV.pln : AV → Prop
  | .v _ => True
  | .s _ => True
  | .agg cs => plnL cs
  | .tup cs => plnL cs
  | .sl _ _ row => ∀ i, plnL (row i)
  | .cp cells => plnL cells
  | .p _ => False
  | .clo _ _ => False
  | .ifc _ _ => False
  | .mapI _ _ => False
  | .mp _ => False
  | .bad => False
  | .bp _ _ => False
  | .own _ => False
  | .ep _ _ _ _ => False
def plnL : List AV → Prop
  | [] => True
  | c :: cs => c.pln ∧ plnL cs
end

mutual
theorem RepI.plain {G H : IM} (h : ∀ b o v, G b o = some v → H b o = some v) : ∀ (x : AV) {y : Value}, x.pln → RepI G x y → RepI H x y
  | .v x, y, _, r => by simpa [RepI] using r
  | .s l, y, _, r => by simpa [RepI] using r
  | .agg cs, y, p, r => by
    simp only [RepI] at r ⊢
    simp only [AV.pln] at p
    obtain ⟨ys, e, r⟩ := r
    exact ⟨ys, e, RepIL.plain h cs p r⟩
  | .tup cs, y, p, r => by
    simp only [RepI] at r ⊢
    simp only [AV.pln] at p
    obtain ⟨ys, e, r⟩ := r
    exact ⟨ys, e, RepIT.plain h cs p r⟩
  | .sl n esz row, y, p, r => by
    simp only [RepI] at r ⊢
    simp only [AV.pln] at p
    obtain ⟨a, c, e, hc, r⟩ := r
    refine ⟨a, c, e, hc, ?_⟩
    rcases r with r | ⟨b, o, ea, r⟩
    · exact .inl r
    · exact .inr ⟨b, o, ea, fun i hi => CellsAt.plain h (row i) (p i) (r i hi)⟩
  | .cp cells, y, p, r => by
    simp only [RepI] at r ⊢
    simp only [AV.pln] at p
    obtain ⟨b, o, e, r⟩ := r
    exact ⟨b, o, e, CellsAt.plain h cells p r⟩
  | .p R, y, p, r => by simp [AV.pln] at p
  | .clo f caps, y, p, r => by simp [AV.pln] at p
  | .ifc t x, y, p, r => by simp [AV.pln] at p
  | .mapI ks xs, y, p, r => by simp [AV.pln] at p
  | .mp _, y, p, r => by simp [RepI] at r
  | .bad, y, p, r => by simp [RepI] at r
  | .bp _ _, y, p, r => by simp [RepI] at r
  | .own _, y, p, r => by simp [RepI] at r
  | .ep _ _ _ _, y, p, r => by simp [RepI] at r
theorem RepIL.plain {G H : IM} (h : ∀ b o v, G b o = some v → H b o = some v) : ∀ (cs : List AV) {ys : List Value}, plnL cs → RepIL G cs ys → RepIL H cs ys
  | [], ys, _, r => by simpa [RepIL] using r
  | c :: cs, ys, p, r => by
    simp only [RepIL] at r ⊢
    simp only [plnL] at p
    obtain ⟨z, zs, e, r1, r2, r3⟩ := r
    exact ⟨z, zs, e, RepI.plain h c p.1 r1, r2, RepIL.plain h cs p.2 r3⟩
theorem RepIT.plain {G H : IM} (h : ∀ b o v, G b o = some v → H b o = some v) : ∀ (cs : List AV) {ys : List Value}, plnL cs → RepIT G cs ys → RepIT H cs ys
  | [], ys, _, r => by simpa [RepIT] using r
  | c :: cs, ys, p, r => by
    simp only [RepIT] at r ⊢
    simp only [plnL] at p
    obtain ⟨z, zs, e, r1, r3⟩ := r
    exact ⟨z, zs, e, RepI.plain h c p.1 r1, RepIT.plain h cs p.2 r3⟩
theorem CellsAt.plain {G H : IM} (h : ∀ b o v, G b o = some v → H b o = some v) : ∀ (cs : List AV) {b o : Nat}, plnL cs → CellsAt G cs b o → CellsAt H cs b o
  | [], b, o, _, r => by simp [CellsAt]
  | c :: cs, b, o, p, r => by
    simp only [CellsAt] at r ⊢
    simp only [plnL] at p
    obtain ⟨⟨z, e, r1, r2⟩, r3⟩ := r
    exact ⟨⟨z, h _ _ _ e, RepI.plain h c p.1 r1, r2⟩, CellsAt.plain h cs p.2 r3⟩
end

/-- A callee by a contract that asks known memory and gives what is none, called over owned memory: all of it is lent, as it is. -/
theorem FnP.lend {P : Program} {f : FuncId} {avs bvs : List AV} {post : AV → Prop} {cs : List Abs} (hf : FnP P f avs post)
    (hl : ∀ (G : IM) (w : World) (vs : List Value), ImOK G w → AbsOK G w cs → RepIT G bvs vs → RepIT (memG w) avs vs)
    (flat : ∀ r, post r → ∀ (G H : IM) (y : Value), RepI G r y → RepI H r y) : FnA P f bvs cs (fun r cs' => post r ∧ cs' = cs) := by
  refine ⟨hf.1, fun G w cargs him hr hok => ?_⟩
  refine (hf.2 (memG w) w cargs (memG_ok w) (hl G w cargs him hok hr)).mono ?_
  rintro en w' ⟨r, cr, G', hp, rfl, g1, g2, g3, g4, g5⟩
  have bel := g5.below (fun _ => rfl)
  have hsame : ∀ k, k < w.heap.size → w'.heap[k]? = w.heap[k]? := fun k hk => bel.block k hk
  refine ⟨r, cr, cs, G, ⟨hp, rfl⟩, rfl, flat r hp _ _ _ g1, IM.le_refl G, NewAt.of _ ⟨fun b o v h => .inl h, fun b x h => .inl h⟩, ⟨fun b o v h => ?_, fun b x h => ?_⟩, hok.keep (IM.le_refl G) (fun b hb => hsame b (hok.2.2 b hb).1) bel.size (fun b _ _ h => h), fun b hb => .inr hb, bel.os, bel.tape, bel.output, bel.size, fun k hk _ _ => hsame k hk⟩
  · have := g4.1 b o v (g2.1 b o v (him.1 b o v h))
    exact this
  · have hx := him.2 b x h
    exact hx.keep0 (hsame b hx.lt)
end Go.Sy

/- Contracts of desc: Of, of declarations that are owned. -/
set_option linter.unusedSimpArgs false
set_option linter.unusedVariables false
set_option maxRecDepth 100000
namespace Go.Proofs
open Go.Sy Go.Lib

/-- Owned elements, read as they are. -/
theorem vec_mem {h : Value} {t : TypeId} {esz n : Nat} {row row' : Nat → List AV} {G : IM} {w : World} (hok : (vecA h t esz n row).ok G w)
    (hrow : ∀ i, i < n → ∀ (j : Nat) (c' : AV), (row' i)[j]? = some c' → ∃ c, (row i)[j]? = some c ∧ ∀ z, RepI G c z → RepI (memG w) c' z) : RepI (memG w) (.sl n esz row') h := by
  simp only [RepI]
  have hok' := hok
  obtain ⟨xs, h1, h2⟩ := hok
  rcases h1.2 with ⟨rfl, rfl⟩ | ⟨g, cap, cur, rfl, _, hg, hcap, hmax, hcs, htake⟩
  · exact ⟨none, 0, rfl, Nat.le_refl _, .inl rfl⟩
  · refine ⟨some ⟨g, 0, none⟩, cap, rfl, hcap, .inr ⟨g, 0, rfl, fun i hi => CellsAt.mk (fun j c' hc' => ?_)⟩⟩
    obtain ⟨c, hc, hcv⟩ := hrow i hi j c' hc'
    obtain ⟨z, z1, z2, z3⟩ := reads_vec (g := g) (cc := cap) (t := t) (row := row) (o := i * esz + 0) (q := i) (j := 0) hi rfl G w hok' j c (by simpa using hc)
    exact ⟨z, by simpa [memG] using z1, hcv z z2, z3⟩

mutual
theorem pln_cells : ∀ t : Ty, plnL (Ty.cells t)
  | ⟨a0, a1, a2⟩ => by
    simp only [Ty.cells, plnL, AV.pln]
    exact ⟨trivial, trivial, pln_rows a2, trivial⟩
theorem pln_rows : ∀ (l : List Ty) (i : Nat), plnL (Ty.rows l i)
  | [], i => by simp only [Ty.rows, plnL]
  | x :: _, 0 => by simp only [Ty.rows]; exact pln_cells x
  | _ :: xs, i + 1 => by simp only [Ty.rows]; exact pln_rows xs i
end
theorem pln_ty (t : Ty) : plnL (Ty.c t) := by
  simp only [Ty.c, plnL, AV.pln]
  exact ⟨trivial, trivial, pln_rows t.of, trivial⟩
theorem pln_fld (f : Fld) : plnL (Fld.c f) := by
  show plnL [I64 f.tag, .s f.name, I64 f.ty.kind, .s f.ty.name, .sl f.ty.of.length 3 (Ty.rows f.ty.of)]
  simp only [plnL, AV.pln]
  exact ⟨trivial, trivial, trivial, trivial, pln_rows f.ty.of, trivial⟩
theorem pln_mths (M : List Mth) : (SL 5 Mth.c M).pln := by
  show AV.pln (.sl M.length 5 (fun i => Mth.c (M.getD i default)))
  simp only [AV.pln]
  intro i
  simp only [Mth.c, plnL, AV.pln]
  exact ⟨trivial, trivial, trivial, trivial, trivial, trivial⟩
theorem plnL_get : ∀ {cs : List AV} (h : plnL cs) {j : Nat} {c : AV}, cs[j]? = some c → c.pln
  | [], _, j, c, hc => by simp at hc
  | x :: xs, h, 0, c, hc => by
    simp only [plnL] at h
    simp only [List.getElem?_cons_zero, Option.some.injEq] at hc
    subst hc; exact h.1
  | x :: xs, h, j + 1, c, hc => by
    simp only [plnL] at h
    exact plnL_get h.2 (by simpa using hc)

/-- Owned declarations, read as they are. -/
theorem lend_dcl {l : List Dcl} {hv : Value} {vs : List Value} {G : IM} {w : World} (him : ImOK G w) (h1 : (dvA hv l vs l.length).ok G w) (h2 : (packA (fks l vs l.length)).ok G w) : RepI (memG w) (SL 5 Dcl.c l) hv := by
  have hle : ∀ b o v, G b o = some v → (memG w) b o = some v := fun b o v h => him.1 b o v h
  refine vec_mem h1 (fun i hi j c' hc' => ?_)
  have hf : RepI (memG w) (SL 5 Fld.c (l.getD i default).fields) (hsD vs i) := by
    have hk := h2 _ (List.mem_of_getElem? (fks_get l vs l.length i hi))
    exact vec_mem hk (fun q _ j c hc => ⟨c, hc, fun z hz => RepI.plain hle c (plnL_get (pln_fld _) hc) hz⟩)
  have hc2 : [I64 (l.getD i default).kind, .s (l.getD i default).name, SL 5 Fld.c (l.getD i default).fields, SL 5 Mth.c (l.getD i default).methods, I64 (l.getD i default).fat][j]? = some c' := hc'
  rcases j with _ | _ | _ | _ | _ | j
  · cases hc2
    exact ⟨_, rfl, fun z hz => RepI.plain hle _ (by simp only [AV.pln]) hz⟩
  · cases hc2
    exact ⟨_, rfl, fun z hz => RepI.plain hle _ (by simp only [AV.pln]) hz⟩
  · cases hc2
    refine ⟨.v (hsD vs i), rfl, fun z hz => ?_⟩
    simp only [RepI] at hz
    rw [hz]; exact hf
  · cases hc2
    exact ⟨_, rfl, fun z hz => RepI.plain hle _ (pln_mths _) hz⟩
  · cases hc2
    exact ⟨_, rfl, fun z hz => RepI.plain hle _ (by simp only [AV.pln]) hz⟩
  · simp at hc2

theorem Check_V (l : List Dcl) (hl : FewL l) (hok : WellL l ∧ FinL l) (hv : Value) (vs : List Value) :
    FnA Tryz.prog 69 [.v hv] [dvA hv l vs l.length, packA (fks l vs l.length)] (fun r cs' => (∃ f : Flt, r = .agg (Flt.c f) ∧ f.err = 0 ∧ f.fat = 0) ∧ cs' = [dvA hv l vs l.length, packA (fks l vs l.length)]) := by
  refine FnP.lend ((Check_c l hl.toFew).mono (q := fun r => ∃ f : Flt, r = .agg (Flt.c f) ∧ f.err = 0 ∧ f.fat = 0) (fun r ⟨f, h1, h2, h3⟩ => ⟨f, h1, h2.2 hok, h3 (h2.2 hok)⟩)) (fun G w cargs him hA hr => ?_) ?_
  · simp only [RepIT, RepI] at hr
    obtain ⟨z, zs, rfl, rfl, rfl⟩ := hr
    have := lend_dcl (l := l) (hv := z) (vs := vs) him (hA.1 _ (by simp)) (hA.1 _ (by simp))
    simp only [RepIT]
    exact ⟨_, _, rfl, this, rfl⟩
  · rintro r ⟨f, rfl, _, _⟩ G H y hy
    simp only [RepI, Flt.c, RepIL] at hy ⊢
    exact hy

theorem Of_V (l : List Dcl) (hl : FewL l) (hok : WellL l ∧ FinL l) (hv : Value) (vs : List Value) (hvs : vs.length = l.length) (hsl : ∀ x ∈ vs, isSl x) :
    FnA Tryz.prog 24 [.v hv] [dvA hv l vs l.length, packA (fks l vs l.length)] (fun r cs' => ∃ b, r = .tup [PT b 0, .agg (Flt.c ⟨0, 0⟩)] ∧ cs' = [dscS b l, dvA hv l vs l.length, packA (fks l vs l.length)]) := by
  refine FnA.intro Tryz.tabOK Tryz.wide_ Tryz.func24 rfl (by decide) rfl (fun X => ?_)
  repeat (first | refine sc rfl ?_ | refine so rfl ?_ | refine sb rfl ?_)
  refine O_callA [1, 1] (Check_V l hl hok hv vs) (by rfl) (by rfl) (by rfl) (by rfl) (by rfl) ?_
  rintro r cs' ⟨⟨f, rfl, hf, hf2⟩, rfl⟩
  repeat (first | refine sc rfl ?_ | refine so rfl ?_ | refine sb rfl ?_)
  refine C_if rfl (fun m1 => ?_) (fun m1 => ?_) <;> simp only [decide_eq_true_eq, decide_eq_false_iff_not, Bool.not_eq_true', Bool.not_eq_false', beq_iff_eq, beq_eq_false_iff_ne, bne_iff_ne, ne_eq, bne_eq_false_iff_eq, Decidable.not_not] at m1
  · exact absurd hf m1
  · repeat (first | refine sc rfl ?_ | refine so rfl ?_ | refine sb rfl ?_)
    first
      | refine O_callA [0, 0] (decls_V l hl hv vs hvs hsl) (by rfl) (by rfl) (by rfl) (by rfl) (by rfl) ?_
      | refine O_callA [1, 1] (decls_V l hl hv vs hvs hsl) (by rfl) (by rfl) (by rfl) (by rfl) (by rfl) ?_
      | refine O_callA [2, 2] (decls_V l hl hv vs hvs hsl) (by rfl) (by rfl) (by rfl) (by rfl) (by rfl) ?_
    rintro r cs' ⟨rfl, rfl⟩
    iterate 6 (first | refine sc rfl ?_ | refine so rfl ?_ | refine sb rfl ?_)
    refine C_absb 2 rfl rfl rfl (fun b => ?_)
    refine C_le _ (Le.absPerm (As := [dsc b l none]) (As' := [dscS b l]) (pickA_perm (is := [0]) rfl) (.refl _) (fun G w h A hA => ?_)) ?_
    · simp only [List.mem_singleton] at hA
      subst hA
      exact ⟨none, (fun _ h => by cases h), h _ (by simp)⟩
    repeat (first | refine sc rfl ?_ | refine so rfl ?_ | refine sb rfl ?_)
    exact ⟨_, [_, _, _], _, rfl, pickA_perm (is := [0, 1, 1]) (As := [_, _, _]) rfl, rfl, b, rfl, rfl⟩
end Go.Proofs

/- The symbolic walk, part 62: structs of numbers and texts compared. -/
set_option linter.unusedSimpArgs false
set_option linter.unusedVariables false
namespace Go.Sy
open Go.RowKit
section
variable {P : Program} {T : Tab} {X : Ctx P T} {n : Nat} {e : Env} {st : St} {a : Act} {w : World} {ops : Array Oper} {K : St → Prop}

theorem X_aggC {p : Pl} {t : TypeId} {op : BinOp} {x y : Operand} {cs ds : List AV} {us vs : Array Value} {b : Bool} {d : Option Nat} {uy ty : TypeId} {pos : String} {aft : Array Edge} {gd : Option (Nat × Bool)} {j : Nat} {Si : List (Nat × AV)} {c : List Ch}
    (hu : ∀ e (ys : List Value), RepL e cs ys → ys = us.toList) (hv : ∀ e (ys : List Value), RepL e ds ys → ys = vs.toList) (hb : ∀ w, (Op.equalIn 10000 t (.agg us) (.agg vs)).run P w = .ok b w) (hgt : P.eqGuardType P.depth t = false) (hop : op = .eql ∨ op = .neq)
    (hg : guardA ops ⟨Si, c⟩ ⟨d, .binOp op t x y uy, ty, pos, aft, gd⟩ = some true) (hx : opd Si x = some (.agg cs)) (hy : opd Si y = some (.agg ds)) (hd : dstOK n d = true) :
    StepX X n ops p Si c c j ⟨d, .binOp op t x y uy, ty, pos, aft, gd⟩ (B (eqB op b)) :=
  StepX.val hg hd (fun e a w S r r' => by
    have h1 := opd_sound r' hx
    have h2 := opd_sound r' hy
    simp only [Rep] at h1 h2
    obtain ⟨ys, e1, r1⟩ := h1
    obtain ⟨zs, e2, r2⟩ := h2
    have hy1 : ys = us := Array.ext' (hu e _ r1)
    have hz1 : zs = vs := Array.ext' (hv e _ r2)
    subst hy1 hz1
    refine ⟨.bool (eqB op b), w, e, ?_, r, by simp [Rep]⟩
    rcases hop with rfl | rfl
    · simp only [execOp, e1, e2, Sem.run_bind, run_eqGuard_agg w _ _ _ _ _ _ hgt, Result.andThen_ok, run_eql_struct, hb, Sem.run_pure, eqB]
    · simp only [execOp, e1, e2, Sem.run_bind, run_eqGuard_agg w _ _ _ _ _ _ hgt, Result.andThen_ok, run_neq_struct, hb, Sem.run_pure, eqB])
end
end Go.Sy
