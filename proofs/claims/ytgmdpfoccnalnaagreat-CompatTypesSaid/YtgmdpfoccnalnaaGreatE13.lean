/- Contracts of parse: declarations. -/
import Derived.Test.YtgmdpfoccnalnaaGreatE12
import Derived.Test.YtgmdpfoccnalnaaGreatE4
import Derived.Test.YtgmdpfoccnalnaaGreatE7
import Derived.Test.YtgmdpfoccnalnaaGreatE9
import Derived.Test.YtgmdpfoccnalnaaGreatE10
import Derived.Test.YtgmdpfoccnalnaaGreatE11
set_option linter.unusedSimpArgs false
set_option linter.unusedVariables false
set_option maxRecDepth 100000
namespace Go.Proofs
open Go.Sy Go.Lib

section
variable {ts : List Tok}
theorem next_ge (p : PS) : p.i ≤ p.next.i := Nat.le_succ _
theorem may_ge (s : List UInt8) (p : PS) : p.i ≤ (mayP ts s p).i := by unfold mayP; split; exact next_ge p; exact Nat.le_refl _
theorem need_ge (s : List UInt8) (p : PS) : p.i ≤ (needF ts s p).i := by unfold needF; split; exact next_ge p; rw [failF_i]; exact Nat.le_refl _
theorem name_ge (p : PS) : p.i ≤ (nameP ts p).i := by
  unfold nameP
  have hi : (nmB ts p).i = p.i := by unfold nmB; split; exact failF_i ts 5 p; rfl
  split
  · omega
  · show p.i ≤ (nmB ts p).i + 1; omega
theorem num_ge (p : PS) : p.i ≤ (numP ts p).i := by
  unfold numP
  have hi : (numB ts p).i = p.i := by unfold numB; split; exact failF_i ts 5 p; rfl
  split
  · omega
  · show p.i ≤ (numB ts p).i + 1; omega
theorem base_ge {rec : Int → PS → Ty × PS} {deep : Int} (hr : ∀ p : PS, p.i ≤ (rec (deep + 1) p).2.i) (p : PS) : p.i ≤ (baseF ts rec deep p).2.i := by
  unfold baseF
  split
  · exact next_ge p
  · split
    · exact Nat.le_trans (next_ge p) (Nat.le_trans (need_ge [60] _) (Nat.le_trans (hr _) (need_ge _ _)))
    · split
      · exact Nat.le_trans (next_ge p) (Nat.le_trans (need_ge [60] _) (Nat.le_trans (hr _) (Nat.le_trans (need_ge _ _) (Nat.le_trans (hr _) (need_ge _ _)))))
      · exact name_ge p
theorem typ_ge : ∀ (n : Nat) (deep : Int) (p : PS), p.i ≤ (typF ts n deep p).2.i
  | 0, _, p => Nat.le_refl _
  | n + 1, deep, p => by
    have hd : (dpP ts deep p).i = p.i := by unfold dpP; split; exact failF_i ts 10 p; rfl
    have hb := base_ge (ts := ts) (rec := typF ts n) (deep := deep) (fun q => typ_ge n (deep + 1) q) (dpP ts deep p)
    unfold typF
    split
    · show p.i ≤ (dpP ts deep p).i; omega
    · split
      · show p.i ≤ (baseF ts (typF ts n) deep (dpP ts deep p)).2.i + 1; omega
      · omega
theorem field_ge (p : PS) (d : Dcl) : p.i ≤ (fieldR ts p d).2.i :=
  Nat.le_trans (num_ge p) (Nat.le_trans (name_ge _) (Nat.le_trans (need_ge [58] _) (typ_ge 10 0 _)))
theorem enum_ge (p : PS) (d : Dcl) : p.i ≤ (enumR ts p d).2.i := Nat.le_trans (num_ge p) (name_ge _)
theorem meth_ge (p : PS) (d : Dcl) : p.i ≤ (methR ts p d).2.i :=
  Nat.le_trans (may_ge _ p) (Nat.le_trans (num_ge _) (Nat.le_trans (name_ge _) (Nat.le_trans (need_ge _ _) (Nat.le_trans (name_ge _) (Nat.le_trans (need_ge _ _) (Nat.le_trans (need_ge _ _) (name_ge _)))))))
theorem rows_ge {R : PS → Dcl → Dcl × PS} (hge : ∀ (p : PS) (d : Dcl), p.i ≤ (R p d).2.i) : ∀ (n k : Nat) (p : PS) (d : Dcl), p.i ≤ (rowsF ts R n k p d).2.i
  | 0, _, p, d => Nat.le_refl _
  | n + 1, k, p, d => by
    unfold rowsF
    split
    · split
      · exact next_ge p
      · exact Nat.le_trans (body_i ts hge).1 (rows_ge hge n (k + 1) _ _)
    · exact Nat.le_refl _
variable (hT : TsOK ts)
include hT in
theorem field_lt (p : PS) (d : Dcl) (hp : p.i < ts.length) : (fieldR ts p d).2.i < ts.length := typ_lt hT 10 0 _ (need_lt hT (name_lt hT (num_lt hT hp)) _)
include hT in
theorem enum_lt (p : PS) (d : Dcl) (hp : p.i < ts.length) : (enumR ts p d).2.i < ts.length := name_lt hT (num_lt hT hp)
include hT in
theorem meth_lt (p : PS) (d : Dcl) (hp : p.i < ts.length) : (methR ts p d).2.i < ts.length :=
  name_lt hT (need_lt hT (need_lt hT (name_lt hT (need_lt hT (name_lt hT (num_lt hT (may_lt hT hp _))) _)) _) _)
include hT in
theorem body_lt {R : PS → Dcl → Dcl × PS} {k : Nat} {p : PS} {d : Dcl} (hlt : ∀ (p : PS) (d : Dcl), p.i < ts.length → (R p d).2.i < ts.length) (hp : p.i < ts.length) : (bodyF ts R k p d).2.i < ts.length := by
  unfold bodyF
  simp only []
  have hi : (if k = 16 ∧ (nowF ts p).kind ≠ 4 then failF ts 3 p else p).i < ts.length := by split; rw [failF_i]; exact hp; exact hp
  generalize (if k = 16 ∧ (nowF ts p).kind ≠ 4 then failF ts 3 p else p) = p1 at *
  split
  · exact need_lt hT (hlt _ _ hi) _
  · exact hi
include hT in
theorem rows_lt {R : PS → Dcl → Dcl × PS} (hlt : ∀ (p : PS) (d : Dcl), p.i < ts.length → (R p d).2.i < ts.length) : ∀ (n k : Nat) (p : PS) (d : Dcl), p.i < ts.length → (rowsF ts R n k p d).2.i < ts.length
  | 0, _, p, d, hp => hp
  | n + 1, k, p, d, hp => by
    unfold rowsF
    split
    · split
      · rename_i h; exact next_lt hT hp h
      · exact rows_lt hlt n (k + 1) _ _ (body_lt hT hlt hp)
    · exact hp
end

def wStruct : List UInt8 := [115, 116, 114, 117, 99, 116]
def wUnion : List UInt8 := [117, 110, 105, 111, 110]
def wEnum : List UInt8 := [101, 110, 117, 109]
def wService : List UInt8 := [115, 101, 114, 118, 105, 99, 101]
/-- Which kind, which rows, and where the parser is behind the first word. -/
def headF (ts : List Tok) (p : PS) : Int × (PS → Dcl → Dcl × PS) × PS :=
  if mayF ts [115, 116, 114, 117, 99, 116] p then (1, fieldR ts, p.next) else if mayF ts [117, 110, 105, 111, 110] p then (2, fieldR ts, p.next) else
  if mayF ts [101, 110, 117, 109] p then (3, enumR ts, p.next) else if mayF ts [115, 101, 114, 118, 105, 99, 101] p then (4, methR ts, p.next) else (0, fieldR ts, failF ts 5 p)
def declF (ts : List Tok) (p : PS) : Dcl × PS :=
  rowsF ts (headF ts p).2.1 (ts.length + 1) 0 (needF ts [123] (nameP ts (headF ts p).2.2)) ⟨(headF ts p).1, nameV ts (headF ts p).2.2, [], [], (nowF ts p).at_⟩

section
variable (m : Int) (b : Nat) (ts : List Tok) (hT : TsOK ts)
include hT in
theorem fieldC (bd : Nat) : RowC m b ts bd 183 [.cp [PT b 0], PT bd 0] (fieldR ts) :=
  ⟨fun p d hp => field_lt hT p d hp, field_ge, fun p d => by simp [fieldR], fun p d hf hm hp h1 h2 => (field_A m b ts hT p hp bd d hf hm h1).mono (fun r cs' ⟨h, hf', h'⟩ => ⟨h, hf', hm, h'⟩)⟩
include hT in
theorem enumC (bd : Nat) : RowC m b ts bd 189 [PT bd 0, .cp [PT b 0]] (enumR ts) :=
  ⟨fun p d hp => enum_lt hT p d hp, enum_ge, fun p d => by simp [enumR], fun p d hf hm hp h1 h2 => (enum_A m b ts hT p hp bd d hf hm h1).mono (fun r cs' ⟨h, hf', h'⟩ => ⟨h, hf', hm, h'⟩)⟩
include hT in
theorem methC (bd : Nat) : RowC m b ts bd 190 [PT bd 0, .cp [PT b 0]] (methR ts) :=
  ⟨fun p d hp => meth_lt hT p d hp, meth_ge, fun p d => by simp [methR], fun p d hf hm hp h1 h2 => (service_A m b ts hT p hp bd d hf hm h2).mono (fun r cs' ⟨h, hm', h'⟩ => ⟨h, hf, hm', h'⟩)⟩

include hT in
theorem decl_A (p : PS) (hp : p.i < ts.length) : FnA Tryz.prog 113 [PT b 0] [psA m b ts p] (fun r cs' => r = .agg (Dcl.c (declF ts p).1) ∧ cs' = [psA m b ts (declF ts p).2]) := by
  refine FnA.intro Tryz.tabOK Tryz.wide_ Tryz.func113 rfl (by decide) rfl (fun X => ?_)
  have hlen := hT.len
  repeat (first | refine O_le _ (Le.freezebox 1 rfl rfl rfl) ?_ | refine sc rfl ?_ | refine so rfl ?_ | refine sb rfl ?_)
  first
    | refine O_callA [0] (now_A m b ts hT p hp) (by rfl) (by rfl) (by rfl) (by rfl) (by rfl) ?_
    | refine O_callA [1] (now_A m b ts hT p hp) (by rfl) (by rfl) (by rfl) (by rfl) (by rfl) ?_
    | refine O_callA [2] (now_A m b ts hT p hp) (by rfl) (by rfl) (by rfl) (by rfl) (by rfl) ?_
    | refine O_callA [3] (now_A m b ts hT p hp) (by rfl) (by rfl) (by rfl) (by rfl) (by rfl) ?_
    | refine O_callA [4] (now_A m b ts hT p hp) (by rfl) (by rfl) (by rfl) (by rfl) (by rfl) ?_
  rintro r cs' ⟨rfl, rfl⟩
  repeat (first | refine sc rfl ?_ | refine so rfl ?_ | refine sb rfl ?_)
  refine O_Xd (X_field Tryz.underlying222 rfl rfl rfl rfl rfl rfl rfl) ?_
  repeat (first | refine sc rfl ?_ | refine so rfl ?_ | refine sb rfl ?_)
  refine O_absb 3 rfl rfl rfl (fun bd => ?_)
  refine O_makeFunc rfl rfl rfl rfl ?_
  refine O_le _ (Le.addVec 65 5 (fun i => Fld.c (([] : List Fld).getD i default))) ?_
  refine O_le _ (Le.addVec 92 5 (fun i => Mth.c (([] : List Mth).getD i default))) ?_
  iterate 8 (first | refine sc rfl ?_ | refine so rfl ?_ | refine sb rfl ?_)
  refine C_joinE (α := FuncId × List AV × (PS → Dcl → Dcl × PS) × Int × PS) (fun q => ⟨[(1, .cp [PT b 0]), (2, .bp 2 0), (3, PT bd 0), (5, .p (cloRP q.1 q.2.1))], [.abs (psA m b ts q.2.2.2.2), .abs (dA bd ⟨q.2.2.2.1, [], [], [], (nowF ts p).at_⟩ (.slice none 0 0) (.slice none 0 0)), .abs (fldA (.slice none 0 0) []), .abs (mthA (.slice none 0 0) []), .box 2 60 [I64 0, .s [], .v (.slice none 0 0), .v (.slice none 0 0), I64 0]]⟩)
    (fun q => RowC m b ts bd q.1 q.2.1 q.2.2.1 ∧ headF ts p = (q.2.2.2.1, q.2.2.1, q.2.2.2.2) ∧ q.2.2.2.2.i < ts.length) ?_ ?_
  · skip
    repeat (first | refine sc rfl ?_ | refine so rfl ?_ | refine sb rfl ?_)
    first
      | refine O_callA [0] (may_A m b ts hT p hp [115, 116, 114, 117, 99, 116]) (by rfl) (by rfl) (by rfl) (by rfl) (by rfl) ?_
      | refine O_callA [1] (may_A m b ts hT p hp [115, 116, 114, 117, 99, 116]) (by rfl) (by rfl) (by rfl) (by rfl) (by rfl) ?_
      | refine O_callA [2] (may_A m b ts hT p hp [115, 116, 114, 117, 99, 116]) (by rfl) (by rfl) (by rfl) (by rfl) (by rfl) ?_
      | refine O_callA [3] (may_A m b ts hT p hp [115, 116, 114, 117, 99, 116]) (by rfl) (by rfl) (by rfl) (by rfl) (by rfl) ?_
      | refine O_callA [4] (may_A m b ts hT p hp [115, 116, 114, 117, 99, 116]) (by rfl) (by rfl) (by rfl) (by rfl) (by rfl) ?_
    rintro r cs' ⟨rfl, rfl⟩
    unfold mayP
    repeat (first | refine sc rfl ?_ | refine so rfl ?_ | refine sb rfl ?_)
    cases ha : mayF ts [115, 116, 114, 117, 99, 116] p with
    | true =>
      refine C_true rfl rfl ?_
      simp only [if_true]
      repeat (first | refine sc rfl ?_ | refine so rfl ?_ | refine sb rfl ?_)
      refine O_Xn (X_storeP 3 (A := dA bd ⟨0, [], [], [], (nowF ts p).at_⟩ (.slice none 0 0) (.slice none 0 0)) (writes_box (by show 0 < 5; decide)) rfl rfl rfl rfl rfl rfl rfl) ?_
      repeat (first | refine sc rfl ?_ | refine so rfl ?_ | refine sb rfl ?_)
      exact ⟨(183, [.cp [PT b 0], PT bd 0], fieldR ts, 1, p.next), ⟨fieldC m b ts hT bd, by unfold headF; simp only [ha, Bool.false_eq_true, if_false, if_true], next_lt hT hp ha⟩, Le.pick [1, 0, 1, 0, 0] ⟨rfl, rfl, rfl, rfl, trivial⟩ rfl⟩
    | false =>
    refine C_false rfl rfl ?_
    simp only [Bool.false_eq_true, if_false]
    repeat (first | refine sc rfl ?_ | refine so rfl ?_ | refine sb rfl ?_)
    first
      | refine O_callA [0] (may_A m b ts hT p hp [117, 110, 105, 111, 110]) (by rfl) (by rfl) (by rfl) (by rfl) (by rfl) ?_
      | refine O_callA [1] (may_A m b ts hT p hp [117, 110, 105, 111, 110]) (by rfl) (by rfl) (by rfl) (by rfl) (by rfl) ?_
      | refine O_callA [2] (may_A m b ts hT p hp [117, 110, 105, 111, 110]) (by rfl) (by rfl) (by rfl) (by rfl) (by rfl) ?_
      | refine O_callA [3] (may_A m b ts hT p hp [117, 110, 105, 111, 110]) (by rfl) (by rfl) (by rfl) (by rfl) (by rfl) ?_
      | refine O_callA [4] (may_A m b ts hT p hp [117, 110, 105, 111, 110]) (by rfl) (by rfl) (by rfl) (by rfl) (by rfl) ?_
    rintro r cs' ⟨rfl, rfl⟩
    unfold mayP
    repeat (first | refine sc rfl ?_ | refine so rfl ?_ | refine sb rfl ?_)
    cases hb : mayF ts [117, 110, 105, 111, 110] p with
    | true =>
      refine C_true rfl rfl ?_
      simp only [if_true]
      repeat (first | refine sc rfl ?_ | refine so rfl ?_ | refine sb rfl ?_)
      refine O_Xn (X_storeP 3 (A := dA bd ⟨0, [], [], [], (nowF ts p).at_⟩ (.slice none 0 0) (.slice none 0 0)) (writes_box (by show 0 < 5; decide)) rfl rfl rfl rfl rfl rfl rfl) ?_
      repeat (first | refine sc rfl ?_ | refine so rfl ?_ | refine sb rfl ?_)
      exact ⟨(183, [.cp [PT b 0], PT bd 0], fieldR ts, 2, p.next), ⟨fieldC m b ts hT bd, by unfold headF; simp only [ha, hb, Bool.false_eq_true, if_false, if_true], next_lt hT hp hb⟩, Le.pick [1, 0, 1, 0, 0] ⟨rfl, rfl, rfl, rfl, trivial⟩ rfl⟩
    | false =>
    refine C_false rfl rfl ?_
    simp only [Bool.false_eq_true, if_false]
    repeat (first | refine sc rfl ?_ | refine so rfl ?_ | refine sb rfl ?_)
    first
      | refine O_callA [0] (may_A m b ts hT p hp [101, 110, 117, 109]) (by rfl) (by rfl) (by rfl) (by rfl) (by rfl) ?_
      | refine O_callA [1] (may_A m b ts hT p hp [101, 110, 117, 109]) (by rfl) (by rfl) (by rfl) (by rfl) (by rfl) ?_
      | refine O_callA [2] (may_A m b ts hT p hp [101, 110, 117, 109]) (by rfl) (by rfl) (by rfl) (by rfl) (by rfl) ?_
      | refine O_callA [3] (may_A m b ts hT p hp [101, 110, 117, 109]) (by rfl) (by rfl) (by rfl) (by rfl) (by rfl) ?_
      | refine O_callA [4] (may_A m b ts hT p hp [101, 110, 117, 109]) (by rfl) (by rfl) (by rfl) (by rfl) (by rfl) ?_
    rintro r cs' ⟨rfl, rfl⟩
    unfold mayP
    repeat (first | refine sc rfl ?_ | refine so rfl ?_ | refine sb rfl ?_)
    cases hc : mayF ts [101, 110, 117, 109] p with
    | true =>
      refine C_true rfl rfl ?_
      simp only [if_true]
      repeat (first | refine sc rfl ?_ | refine so rfl ?_ | refine sb rfl ?_)
      refine O_Xn (X_storeP 3 (A := dA bd ⟨0, [], [], [], (nowF ts p).at_⟩ (.slice none 0 0) (.slice none 0 0)) (writes_box (by show 0 < 5; decide)) rfl rfl rfl rfl rfl rfl rfl) ?_
      repeat (first | refine sc rfl ?_ | refine so rfl ?_ | refine sb rfl ?_)
      refine O_makeFunc rfl rfl rfl rfl ?_
      repeat (first | refine sc rfl ?_ | refine so rfl ?_ | refine sb rfl ?_)
      exact ⟨(189, [PT bd 0, .cp [PT b 0]], enumR ts, 3, p.next), ⟨enumC m b ts hT bd, by unfold headF; simp only [ha, hb, hc, Bool.false_eq_true, if_false, if_true], next_lt hT hp hc⟩, Le.pick [1, 0, 1, 0, 0] ⟨rfl, rfl, rfl, rfl, trivial⟩ rfl⟩
    | false =>
    refine C_false rfl rfl ?_
    simp only [Bool.false_eq_true, if_false]
    repeat (first | refine sc rfl ?_ | refine so rfl ?_ | refine sb rfl ?_)
    first
      | refine O_callA [0] (may_A m b ts hT p hp [115, 101, 114, 118, 105, 99, 101]) (by rfl) (by rfl) (by rfl) (by rfl) (by rfl) ?_
      | refine O_callA [1] (may_A m b ts hT p hp [115, 101, 114, 118, 105, 99, 101]) (by rfl) (by rfl) (by rfl) (by rfl) (by rfl) ?_
      | refine O_callA [2] (may_A m b ts hT p hp [115, 101, 114, 118, 105, 99, 101]) (by rfl) (by rfl) (by rfl) (by rfl) (by rfl) ?_
      | refine O_callA [3] (may_A m b ts hT p hp [115, 101, 114, 118, 105, 99, 101]) (by rfl) (by rfl) (by rfl) (by rfl) (by rfl) ?_
      | refine O_callA [4] (may_A m b ts hT p hp [115, 101, 114, 118, 105, 99, 101]) (by rfl) (by rfl) (by rfl) (by rfl) (by rfl) ?_
    rintro r cs' ⟨rfl, rfl⟩
    unfold mayP
    repeat (first | refine sc rfl ?_ | refine so rfl ?_ | refine sb rfl ?_)
    cases hd : mayF ts [115, 101, 114, 118, 105, 99, 101] p with
    | true =>
      refine C_true rfl rfl ?_
      simp only [if_true]
      repeat (first | refine sc rfl ?_ | refine so rfl ?_ | refine sb rfl ?_)
      refine O_Xn (X_storeP 3 (A := dA bd ⟨0, [], [], [], (nowF ts p).at_⟩ (.slice none 0 0) (.slice none 0 0)) (writes_box (by show 0 < 5; decide)) rfl rfl rfl rfl rfl rfl rfl) ?_
      repeat (first | refine sc rfl ?_ | refine so rfl ?_ | refine sb rfl ?_)
      refine O_makeFunc rfl rfl rfl rfl ?_
      repeat (first | refine sc rfl ?_ | refine so rfl ?_ | refine sb rfl ?_)
      exact ⟨(190, [PT bd 0, .cp [PT b 0]], methR ts, 4, p.next), ⟨methC m b ts hT bd, by unfold headF; simp only [ha, hb, hc, hd, Bool.false_eq_true, if_false, if_true], next_lt hT hp hd⟩, Le.pick [1, 0, 1, 0, 0] ⟨rfl, rfl, rfl, rfl, trivial⟩ rfl⟩
    | false =>
    refine C_false rfl rfl ?_
    simp only [Bool.false_eq_true, if_false]
    repeat (first | refine sc rfl ?_ | refine so rfl ?_ | refine sb rfl ?_)
    first
      | refine O_callA [0] (fail_A m b ts hT p hp 5) (by rfl) (by rfl) (by rfl) (by rfl) (by rfl) ?_
      | refine O_callA [1] (fail_A m b ts hT p hp 5) (by rfl) (by rfl) (by rfl) (by rfl) (by rfl) ?_
      | refine O_callA [2] (fail_A m b ts hT p hp 5) (by rfl) (by rfl) (by rfl) (by rfl) (by rfl) ?_
      | refine O_callA [3] (fail_A m b ts hT p hp 5) (by rfl) (by rfl) (by rfl) (by rfl) (by rfl) ?_
      | refine O_callA [4] (fail_A m b ts hT p hp 5) (by rfl) (by rfl) (by rfl) (by rfl) (by rfl) ?_
    rintro r cs' ⟨rfl, rfl⟩
    repeat (first | refine sc rfl ?_ | refine so rfl ?_ | refine sb rfl ?_)
    exact ⟨(183, [.cp [PT b 0], PT bd 0], fieldR ts, 0, failF ts 5 p), ⟨fieldC m b ts hT bd, by unfold headF; simp only [ha, hb, hc, hd, Bool.false_eq_true, if_false], by show (failF ts 5 p).i < _; rw [failF_i]; exact hp⟩, Le.pick [0, 2, 1, 0, 0] ⟨rfl, rfl, rfl, rfl, trivial⟩ rfl⟩
  · rintro ⟨f, caps, R, k, p1⟩ s ⟨hR, hH, h1⟩ hs
    simp only [] at hR hH h1 hs
    refine C_le _ hs ?_
    have hD : declF ts p = rowsF ts R (ts.length + 1) 0 (needF ts [123] (nameP ts p1)) ⟨k, nameV ts p1, [], [], (nowF ts p).at_⟩ := by unfold declF; rw [hH]
    have l2 := name_lt hT h1
    repeat (first | refine sc rfl ?_ | refine so rfl ?_ | refine sb rfl ?_)
    first
      | refine O_callA [0] (name_A m b ts hT p1 h1) (by rfl) (by rfl) (by rfl) (by rfl) (by rfl) ?_
      | refine O_callA [1] (name_A m b ts hT p1 h1) (by rfl) (by rfl) (by rfl) (by rfl) (by rfl) ?_
      | refine O_callA [2] (name_A m b ts hT p1 h1) (by rfl) (by rfl) (by rfl) (by rfl) (by rfl) ?_
      | refine O_callA [3] (name_A m b ts hT p1 h1) (by rfl) (by rfl) (by rfl) (by rfl) (by rfl) ?_
      | refine O_callA [4] (name_A m b ts hT p1 h1) (by rfl) (by rfl) (by rfl) (by rfl) (by rfl) ?_
    rintro r cs' ⟨rfl, rfl⟩
    repeat (first | refine sc rfl ?_ | refine so rfl ?_ | refine sb rfl ?_)
    refine O_Xn (X_storeP 1 (A := dA bd ⟨k, [], [], [], (nowF ts p).at_⟩ (.slice none 0 0) (.slice none 0 0)) (writes_box (by show 1 < 5; decide)) rfl rfl rfl rfl rfl rfl rfl) ?_
    repeat (first | refine sc rfl ?_ | refine so rfl ?_ | refine sb rfl ?_)
    refine O_callA [1, 0, 0, 0] (rows_A m b ts hT bd hR (nameP ts p1) l2 ⟨k, nameV ts p1, [], [], (nowF ts p).at_⟩ (.slice none 0 0) (.slice none 0 0) ⟨rfl, rfl⟩) (by rfl) (by rfl) (by rfl) (by rfl) (by rfl) ?_
    rintro r cs' ⟨rfl, hf', hm', rfl⟩
    rw [← hD]
    generalize declF ts p = x at *
    obtain ⟨d, p3⟩ := x
    simp only []
    refine O_le _ (Le.frVec 2 (fun i => Fld.c (d.fields.getD i default)) rfl (fun i hi => rfl)) ?_
    refine O_le _ (Le.cellA 2 0 2 rfl rfl) ?_
    refine O_le _ (Le.frVec 2 (fun i => Mth.c (d.methods.getD i default)) rfl (fun i hi => rfl)) ?_
    refine O_le _ (Le.cellA 1 0 3 rfl rfl) ?_
    repeat (first | refine sc rfl ?_ | refine so rfl ?_ | refine sb rfl ?_)
    refine O_loadP 0 (A := boxA bd 60 (Dcl.c d)) (reads_box 0) rfl rfl rfl rfl rfl rfl ?_
    repeat (first | refine sc rfl ?_ | refine so rfl ?_ | refine sb rfl ?_)
    exact ⟨_, [psA m b ts p3], _, rfl, pickA_perm (is := [2]) (As := [_]) rfl, rfl, rfl, rfl⟩
end
end Go.Proofs

/- The symbolic walk, part 57: method values. -/
set_option linter.unusedSimpArgs false
set_option linter.unusedVariables false
namespace Go.Sy
open Go.RowKit

/-- A function with its first arguments. -/
def bndRP (f : FuncId) (fs : List AV) : RP :=
  { R := fun G y => ∃ vs : Array Value, y = .func (.func f) vs #[] ∧ RepIT G fs vs.toList
    mono := by
      rintro G H h v ⟨vs, e, r⟩
      exact ⟨vs, e, RepIT.mono h fs r⟩
    one := by
      rintro G v ⟨vs, e, r⟩
      subst e; rfl }

section
variable {P : Program} {T : Tab} {X : Ctx P T} {n : Nat} {e : Env} {st : St} {a : Act} {w : World} {ops : Array Oper} {K : St → Prop}

theorem O_makeBound {f : FuncId} {fs : Array Operand} {favs : List AV} {d : Nat} {ty : TypeId} {pos : String} {aft : Array Edge} {gd : Option (Nat × Bool)} {rest : List Oper} {s : List (Nat × AV)} {c : List Ch}
    (hg : guardA ops ⟨s, c⟩ ⟨some d, .makeFunc (.func f) fs #[], ty, pos, aft, gd⟩ = some true) (ha : opds s fs.toList = some favs) (himm : AV.imm.immL favs = true) (hd : Nat.blt d n = true)
    (kk : SymO X n ops rest ⟨(d, .p (bndRP f favs)) :: s, c⟩ K) : SymO X n ops (⟨some d, .makeFunc (.func f) fs #[], ty, pos, aft, gd⟩ :: rest) ⟨s, c⟩ K := by
  intro e a w Q r hq
  unfold wpList
  rw [if_pos (guardA_sound r hg)]
  refine .inl ?_
  have h1 := RepT.toI favs himm (opds_sound r ha)
  have hrun : (execOp a.eval ⟨some d, .makeFunc (.func f) fs #[], ty, pos, aft, gd⟩).run P w = .ok (.value (.func (.func f) (fs.map a.eval) #[])) w := by
    simp [execOp, Instr.makeFunc]
  unfold Oper.wp
  rw [hrun]
  exact kk _ _ _ Q (r.put hd (by simp only [Rep]; exact ⟨_, rfl, by rw [map_eval]; exact h1⟩)) hq

theorem run_callBound {f : FuncId} (hc : Callable P f) {dst : Option Tmp} {x : Operand} {args : Array Operand} {tys : Array TypeId} {ty : TypeId} {pos : String} {aft : Array Edge} {gd : Option (Nat × Bool)} (ρ : Operand → Value)
    {vs : Array Value} (hρ : ρ x = .func (.func f) vs #[]) (w : World) :
    (execOp ρ ⟨dst, .call ⟨.value x, args, tys⟩, ty, pos, aft, gd⟩).run P w = .ok (.enter f (vs ++ args.map ρ)) w := by
  obtain ⟨fn, h1, h2, h3⟩ := hc
  simp only [execOp, resolve, hρ, Deferred.ofValue, Sem.run_bind, Sem.run_pure, Result.andThen_ok, invoke]
  have h4 : ¬ fn.body = none := by intro h; simp [h] at h2
  have h5 : ¬ fn.name = "runtime.NumGoroutine" := by simpa using h3
  simp [callFunc, h1, h4, h5]

/-- A call of a method value that may change memory at known addresses. -/
theorem O_callBound (is : List Nat) {f : FuncId} {xo : Operand} {fs : List AV} {dst : Nat} {args : Array Operand} {tys : Array TypeId} {ty : TypeId} {pos : String} {aft : Array Edge} {gd : Option (Nat × Bool)} {rest : List Oper} {avs : List AV} {cs : List Abs} {cr : List Ch} {post : AV → List Abs → Prop}
    {s : List (Nat × AV)} {c : List Ch} (hf : FnA P f (fs ++ avs) cs post) (hxo : opd s xo = some (.p (bndRP f fs)))
    (hg : guardA ops ⟨s, c⟩ ⟨some dst, .call ⟨.value xo, args, tys⟩, ty, pos, aft, gd⟩ = some true) (ha : opds s args.toList = some avs) (himm : AV.imm.immL avs = true)
    (hp : pickA is c = some (cs, cr)) (hd : Nat.blt dst n = true)
    (k : ∀ r cs', post r cs' → SymO X n ops rest ⟨(dst, r) :: s, cs'.map Ch.abs ++ cr⟩ K) :
    SymO X n ops (⟨some dst, .call ⟨.value xo, args, tys⟩, ty, pos, aft, gd⟩ :: rest) ⟨s, c⟩ K := by
  intro e a w Q r hq
  unfold wpList
  rw [if_pos (guardA_sound r hg)]
  refine .inl ?_
  unfold Oper.wp
  have hx := Rep.toI (.p (bndRP f fs)) rfl (opd_sound r hxo)
  simp only [RepI] at hx
  obtain ⟨vs, hfv, hvs⟩ := hx
  rw [run_callBound hf.1 a.eval hfv w, Oper.upon_enter]
  have h1 := RepIT.app hvs (RepT.toI avs himm (opds_sound r ha))
  have harr : vs ++ args.map a.eval = (vs.toList ++ args.toList.map a.eval).toArray := by
    apply Array.ext'; simp
  rw [harr]
  refine (call_after (ops := ops) (Q := Q) hf r h1 (pickA_perm hp) hd k hq).mono ?_
  rintro en w' ⟨cv, rfl, h⟩
  exact h
end
end Go.Sy

/- The symbolic walk, part 58: the length of a slice whose header is a value. -/
set_option linter.unusedSimpArgs false
set_option linter.unusedVariables false
namespace Go.Sy
open Go.RowKit

section
variable {P : Program} {T : Tab} {X : Ctx P T} {n : Nat} {e : Env} {st : St} {a : Act} {w : World} {ops : Array Oper} {K : St → Prop}

theorem X_lenV (q : Nat) {p : Pl} {t tt el sz0 b0 : Nat} {ag0 : Bool} {z0 : List Value} {x : Operand} {h : Value} {m esz : Nat} {row : Nat → List AV} {d : Option Nat} {ty : TypeId} {pos : String} {aft : Array Edge} {gd : Option (Nat × Bool)} {j : Nat} {Si : List (Nat × AV)} {c cr : List Ch}
    (hT : T t = some ⟨sz0, b0, ag0, z0, .slice el⟩) (hg : guardA ops ⟨Si, c⟩ ⟨d, .call ⟨.builtin .len, #[x], #[t]⟩, ty, pos, aft, gd⟩ = some true) (hx : opd Si x = some (.v h)) (hp : nthA q c = some (vecA h tt esz m row, cr)) (hd : dstOK n d = true) :
    StepX X n ops p Si c c j ⟨d, .call ⟨.builtin .len, #[x], #[t]⟩, ty, pos, aft, gd⟩ (I64 (m : Nat)) :=
  StepX.val hg hd (fun e a w S r r' => by
    obtain ⟨⟨xs, g1, g2⟩, _⟩ := r.heap.nth hp
    have hh : ∃ aa cc, h = .slice aa m cc := by
      rcases g1.2 with ⟨hnil, hm⟩ | ⟨g, cap, cur, hsl, _⟩
      · exact ⟨none, 0, by rw [hnil, hm]⟩
      · exact ⟨_, _, hsl⟩
    obtain ⟨aa, cc, rfl⟩ := hh
    have hs : still T ⟨Si, c⟩ (.call ⟨.builtin .len, #[x], #[t]⟩) = some (I64 (m : Nat)) := by
      simp [still, hT, hx]
    obtain ⟨v, h2, h1⟩ := still_sound (o := ⟨d, .call ⟨.builtin .len, #[x], #[t]⟩, ty, pos, aft, gd⟩) r' hs
    exact ⟨v, w, e, h1 w (SameAs.refl w), r, h2⟩)
end
end Go.Sy

/- Contracts of parse: Parse; of desc: Read. -/
set_option linter.unusedSimpArgs false
set_option linter.unusedVariables false
set_option maxRecDepth 100000
namespace Go.Proofs
open Go.Sy Go.Lib

theorem mem_getD {α : Type} [Inhabited α] {l : List α} {i : Nat} (h : i < l.length) : l.getD i default ∈ l := by
  rw [getD_at h]; exact List.getElem_mem h
/-! ### The lexer's tokens end by an end -/
theorem oneF_txt {s : List UInt8} {i : Nat} (hs : s.length ≤ 1024) : ∀ t ∈ (oneF s i).2.2, t.text.length ≤ 1024 := by
  have htw : ∀ p : UInt8 → Bool, ((s.drop i).takeWhile p).length ≤ 1024 := fun p => Nat.le_trans (List.takeWhile_sublist p).length_le (by rw [List.length_drop]; omega)
  unfold oneF
  simp only []
  intro t ht
  split at ht
  · unfold wordF at ht
    simp only [] at ht
    split at ht
    · cases ht
    · simp only [List.mem_singleton] at ht; subst ht; exact htw _
  · split at ht
    · unfold nmbF at ht
      simp only [] at ht
      split at ht
      · cases ht
      · split at ht
        · cases ht
        · simp only [List.mem_singleton] at ht; subst ht; exact htw _
    · split at ht
      · split at ht <;> cases ht
      · split at ht
        · cases ht
        · split at ht
          · cases ht
          · simp only [List.mem_singleton] at ht; subst ht; simp

theorem lexF_ok {s : List UInt8} (hs : s.length ≤ 1024) : ∀ (n i : Nat) (ts : List Tok) (at_ : Int) (T : List Tok), s.length - i < n → i ≤ s.length → ts.length ≤ i → (∀ t ∈ ts, t.text.length ≤ 1024) → lexF s n i ts = (0, at_, T) →
    ∃ pre, T = pre ++ [⟨4, [], 0, (s.length : Nat)⟩] ∧ pre.length ≤ s.length ∧ ∀ t ∈ pre, t.text.length ≤ 1024
  | 0, i, ts, at_, T, h, _, _, _, _ => by omega
  | n + 1, i, ts, at_, T, hn, hi, hl, ht, h => by
    simp only [lexF] at h
    by_cases hil : i < s.length
    · rw [if_pos hil] at h
      by_cases h0 : (oneF s i).1 = 0
      · rw [if_pos h0] at h
        have hok := oneF_ok hil h0
        refine lexF_ok hs n _ _ at_ T (by omega) hok.2.1 (by rw [List.length_append]; omega) (fun t hm => ?_) h
        rcases List.mem_append.1 hm with hm | hm
        · exact ht t hm
        · exact oneF_txt hs t hm
      · rw [if_neg h0] at h
        simp only [Prod.mk.injEq] at h
        exact absurd h.1 h0
    · rw [if_neg hil] at h
      simp only [Prod.mk.injEq] at h
      exact ⟨ts, h.2.2.symm, by omega, ht⟩

theorem tokF_ok {s : List UInt8} (h : (tokF s).1 = 0) : TsOK (tokF s).2.2 ∧ 0 < (tokF s).2.2.length := by
  unfold tokF at h ⊢
  split at h
  · cases h
  · rename_i hs
    rw [if_neg hs]
    have hs' : s.length ≤ 1024 := by omega
    obtain ⟨pre, h1, h2, h3⟩ := lexF_ok hs' (s.length + 1) 0 [] (lexF s (s.length + 1) 0 []).2.1 (lexF s (s.length + 1) 0 []).2.2 (by omega) (Nat.zero_le _) (Nat.le_refl _) (fun t ht => absurd ht (by simp)) (by rw [← h])
    rw [h1]
    refine ⟨⟨by rw [List.length_append, List.length_singleton]; omega, fun i hi hk => ?_, fun i hi => ?_⟩, by simp⟩
    · rw [List.length_append, List.length_singleton] at hi ⊢
      rcases Nat.lt_or_ge i pre.length with hlt | hge
      · omega
      · exfalso
        have hie : i = pre.length := by omega
        subst hie
        rw [List.getD_eq_getElem?_getD, List.getElem?_append_right (Nat.le_refl _), Nat.sub_self] at hk
        simp at hk
    · have := mem_getD hi
      rcases List.mem_append.1 this with hm | hm
      · exact h3 _ hm
      · simp only [List.mem_singleton] at hm; rw [hm]; simp

/-! ### Parse -/
def parF (ts : List Tok) : Nat → PS → List Dcl → List Dcl × PS
  | 0, p, out => (out, p)
  | n + 1, p, out => if p.err = 0 ∧ (nowF ts p).kind ≠ 4 then (if out.length = 16 then (out, failF ts 3 p) else parF ts n (declF ts p).2 (out ++ [(declF ts p).1])) else (out, p)
/-- What a text is read as. -/
def parseF (s : List UInt8) : List Dcl × Int × Int :=
  if (tokF s).1 ≠ 0 then ([], (tokF s).1, (tokF s).2.1) else
  ((parF (tokF s).2.2 ((tokF s).2.2.length + 1) ⟨0, 0, 0⟩ []).1, (parF (tokF s).2.2 ((tokF s).2.2.length + 1) ⟨0, 0, 0⟩ []).2.err, (parF (tokF s).2.2 ((tokF s).2.2.length + 1) ⟨0, 0, 0⟩ []).2.fat)
/-- What Parse gives. -/
def ParP (s : List UInt8) (r : AV) : Prop :=
  ((parseF s).2.1 ≠ 0 ∧ r = .tup [.v (.slice none 0 0), .agg [I64 (parseF s).2.1, I64 (parseF s).2.2]]) ∨ ((parseF s).2.1 = 0 ∧ r = .tup [SL 5 Dcl.c (parseF s).1, .agg [I64 0, I64 0]])

/-- What is known of a number of the library. -/
def glbA (m : Int) : Abs where
  bs := []
  ok := fun G w => G 0 0 = some (.int .i64 m)
  keep := fun hG _ h => hG.1 _ _ _ h

theorem head_adv {ts : List Tok} (p : PS) : p.i ≤ (headF ts p).2.2.i ∧ ((headF ts p).2.2.err = 0 → p.i + 1 ≤ (headF ts p).2.2.i) := by
  unfold headF
  repeat' split
  all_goals first
    | exact ⟨Nat.le_succ _, fun _ => Nat.le_refl _⟩
    | exact ⟨by show p.i ≤ (failF ts 5 p).i; rw [failF_i]; exact Nat.le_refl _, fun h => absurd h (failF_err ts (by decide) p)⟩
theorem failF_keep {ts : List Tok} {e : Int} {p : PS} (h : p.err ≠ 0) : failF ts e p = p := by unfold failF; rw [if_neg h]
theorem need_keep {ts : List Tok} {s : List UInt8} {p : PS} (h : p.err ≠ 0) : (needF ts s p).err ≠ 0 := by
  have hm : mayF ts s p = false := by unfold mayF; rw [show (p.err == 0) = false by simpa using h]; rfl
  unfold needF
  rw [hm, if_neg (by decide), failF_keep h]; exact h
theorem name_keep {ts : List Tok} {p : PS} (h : p.err ≠ 0) : (nameP ts p).err ≠ 0 := by
  have hb : (nmB ts p).err ≠ 0 := by
    unfold nmB; split
    · rw [failF_keep h]; exact h
    · exact h
  unfold nameP
  rw [if_pos hb]; exact hb
theorem rows_keep {ts : List Tok} {R : PS → Dcl → Dcl × PS} {n k : Nat} {p : PS} {d : Dcl} (h : p.err ≠ 0) : (rowsF ts R n k p d).2.err ≠ 0 := by
  cases n with
  | zero => exact h
  | succ n => unfold rowsF; rw [if_neg h]; exact h
theorem headR {ts : List Tok} (p : PS) : ∀ (q : PS) (d : Dcl), q.i ≤ ((headF ts p).2.1 q d).2.i := by
  intro q d
  unfold headF
  repeat' split
  all_goals first
    | exact field_ge q d
    | exact enum_ge q d
    | exact meth_ge q d
theorem decl_adv {ts : List Tok} (p : PS) (h : (declF ts p).2.err = 0) : p.i + 1 ≤ (declF ts p).2.i := by
  have ha := head_adv (ts := ts) p
  by_cases h0 : (headF ts p).2.2.err = 0
  · have h1 := ha.2 h0
    refine Nat.le_trans h1 ?_
    exact Nat.le_trans (name_ge _) (Nat.le_trans (need_ge [123] _) (rows_ge (headR p) _ _ _ _))
  · exact absurd h (rows_keep (need_keep (name_keep h0)))
theorem headRlt {ts : List Tok} (hT : TsOK ts) (p : PS) : ∀ (q : PS) (d : Dcl), q.i < ts.length → ((headF ts p).2.1 q d).2.i < ts.length := by
  intro q d hq
  unfold headF
  repeat' split
  all_goals first
    | exact field_lt hT q d hq
    | exact enum_lt hT q d hq
    | exact meth_lt hT q d hq
theorem head_lt {ts : List Tok} (hT : TsOK ts) {p : PS} (hp : p.i < ts.length) : (headF ts p).2.2.i < ts.length := by
  unfold headF
  split
  · exact next_lt hT hp (by assumption)
  · split
    · exact next_lt hT hp (by assumption)
    · split
      · exact next_lt hT hp (by assumption)
      · split
        · exact next_lt hT hp (by assumption)
        · show (failF ts 5 p).i < _; rw [failF_i]; exact hp
theorem decl_lt {ts : List Tok} (hT : TsOK ts) {p : PS} (hp : p.i < ts.length) : (declF ts p).2.i < ts.length :=
  rows_lt hT (headRlt hT p) _ _ _ _ (need_lt hT (name_lt hT (head_lt hT hp)) _)
abbrev outA (h : Value) (out : List Dcl) : Abs := vecA h 60 5 out.length (fun i => Dcl.c (out.getD i default))

theorem Parse_A (m : Int) (s : List UInt8) : FnA Tryz.prog 67 [.s s] [glbA m] (fun r cs' => ParP s r ∧ cs' = [glbA m]) := by
  refine FnA.intro Tryz.tabOK Tryz.wide_ Tryz.func67 rfl (by decide) rfl (fun X => ?_)
  repeat (first | refine sc rfl ?_ | refine so rfl ?_ | refine sb rfl ?_)
  refine O_call (Tokens_c s) (by rfl) (by rfl) (by rfl) (by rfl) (fun r hr => ?_)
  rcases hr with ⟨h0, rfl⟩ | ⟨h0, rfl⟩
  · repeat (first | refine sc rfl ?_ | refine so rfl ?_ | refine sb rfl ?_)
    refine C_true rfl (by simp [h0]) ?_
    repeat (first | refine sc rfl ?_ | refine so rfl ?_ | refine sb rfl ?_)
    refine C_drawU 20 2 rfl (by kernel_rfl) (by kernel_rfl) (by kernel_rfl) ?_
    repeat (first | refine sd rfl ?_ | refine sdb rfl ?_ | refine sds rfl ?_)
    repeat (first | refine sc rfl ?_ | refine so rfl ?_ | refine sb rfl ?_)
    have e : parseF s = ([], (tokF s).1, (tokF s).2.1) := by unfold parseF; rw [if_pos h0]
    exact ⟨_, [glbA m], _, rfl, pickA_perm (is := [2]) (As := [_]) rfl, rfl, .inl ⟨by rw [e]; exact h0, by rw [e]; rfl⟩, rfl⟩
  · obtain ⟨hT, hpos⟩ := tokF_ok h0
    have hP : parseF s = ((parF (tokF s).2.2 ((tokF s).2.2.length + 1) ⟨0, 0, 0⟩ []).1, (parF (tokF s).2.2 ((tokF s).2.2.length + 1) ⟨0, 0, 0⟩ []).2.err, (parF (tokF s).2.2 ((tokF s).2.2.length + 1) ⟨0, 0, 0⟩ []).2.fat) := by unfold parseF; rw [if_neg (fun h => h h0)]
    generalize (tokF s).2.2 = ts at *
    repeat (first | refine sc rfl ?_ | refine so rfl ?_ | refine sb rfl ?_)
    refine C_false rfl rfl ?_
    iterate 9 (first | refine sc rfl ?_ | refine so rfl ?_ | refine sb rfl ?_)
    refine C_absb 6 rfl rfl rfl (fun b => ?_)
    refine C_le _ (Le.absPerm (As := [boxA b 219 (PS.c ts ⟨0, 0, 0⟩), glbA m]) (As' := [psA m b ts ⟨0, 0, 0⟩]) (pickA_perm (is := [0, 2]) rfl) (by simp [blocks, psA, boxA, glbA]) (fun G w h A hA => ?_)) ?_
    · simp only [List.mem_singleton] at hA
      subst hA
      exact ⟨h _ (by simp), h (glbA m) (by simp)⟩
    generalize hFF : parF ts (ts.length + 1) ⟨0, 0, 0⟩ [] = F at *
    repeat (first | refine sc rfl ?_ | refine so rfl ?_ | refine sb rfl ?_)
    refine O_makeBound rfl rfl rfl rfl ?_
    refine O_le _ (Le.addVec 60 5 (fun i => Dcl.c (([] : List Dcl).getD i default))) ?_
    iterate 7 (first | refine sc rfl ?_ | refine so rfl ?_ | refine sb rfl ?_)
    refine C_joinE (α := PS × List Dcl × Value) (fun q => ⟨[(3, .bp 3 0), (6, PT b 0), (8, .v q.2.2)], [.abs (psA m b ts q.1), .abs (outA q.2.2 q.2.1), .box 3 50 [I64 0, I64 0]]⟩) (fun q => F = (q.2.1, q.1)) ?_ ?_
    · repeat (first | refine sc rfl ?_ | refine so rfl ?_ | refine sb rfl ?_)
      refine C_loop (fun q : PS × List Dcl × Value => ⟨[(3, .bp 3 0), (6, PT b 0), (7, .p (bndRP 113 [PT b 0])), (8, .v q.2.2)], [.abs (psA m b ts q.1), .abs (outA q.2.2 q.2.1), .box 3 50 [I64 0, I64 0]]⟩)
        (fun q => q.1.i < ts.length ∧ q.2.1.length ≤ 16 ∧ ∃ n, (q.1.err = 0 → ts.length - q.1.i < n) ∧ parF ts n q.1 q.2.1 = F) (fun q => if q.1.err = 0 then ts.length - q.1.i + 1 else 0) (⟨0, 0, 0⟩, [], .slice none 0 0) ⟨hpos, Nat.zero_le _, ts.length + 1, fun _ => by simp only []; omega, hFF⟩ (Le.pick [1, 0, 1] ⟨rfl, rfl, rfl, rfl, trivial⟩ rfl) ?_
      rintro ⟨p, out, h⟩ ⟨g1, g2, n, g6, g7⟩
      simp only [] at g1 g2 g6 g7
      repeat (first | refine sc rfl ?_ | refine so rfl ?_ | refine sb rfl ?_)
      first
        | refine O_callA [0] (well_A m b ts p) (by rfl) (by rfl) (by rfl) (by rfl) (by rfl) ?_
        | refine O_callA [1] (well_A m b ts p) (by rfl) (by rfl) (by rfl) (by rfl) (by rfl) ?_
        | refine O_callA [2] (well_A m b ts p) (by rfl) (by rfl) (by rfl) (by rfl) (by rfl) ?_
        | refine O_callA [3] (well_A m b ts p) (by rfl) (by rfl) (by rfl) (by rfl) (by rfl) ?_
        | refine O_callA [4] (well_A m b ts p) (by rfl) (by rfl) (by rfl) (by rfl) (by rfl) ?_
      rintro r cs' ⟨rfl, rfl⟩
      repeat (first | refine sc rfl ?_ | refine so rfl ?_ | refine sb rfl ?_)
      cases hw : p.err == 0 with
      | false =>
        have hw' : p.err ≠ 0 := by simpa using hw
        have hF : F = (out, p) := by
          rw [← g7]
          cases n with
          | zero => rfl
          | succ n => simp only [parF]; rw [if_neg (fun h => hw' h.1)]
        repeat (first | refine sc rfl ?_ | refine so rfl ?_ | refine sb rfl ?_)
        refine C_false rfl rfl ?_
        repeat (first | refine sc rfl ?_ | refine so rfl ?_ | refine sb rfl ?_)
        exact ⟨(p, out, h), hF, Le.pick [0, 0, 0] ⟨rfl, rfl, rfl, trivial⟩ rfl⟩
      | true =>
      have hw' : p.err = 0 := by simpa using hw
      obtain ⟨n, rfl⟩ : ∃ n', n = n' + 1 := ⟨n - 1, by have := g6 hw'; omega⟩
      have g6' := g6 hw'
      simp only [parF] at g7
      repeat (first | refine sc rfl ?_ | refine so rfl ?_ | refine sb rfl ?_)
      first
        | refine O_callA [0] (now_A m b ts hT p g1) (by rfl) (by rfl) (by rfl) (by rfl) (by rfl) ?_
        | refine O_callA [1] (now_A m b ts hT p g1) (by rfl) (by rfl) (by rfl) (by rfl) (by rfl) ?_
        | refine O_callA [2] (now_A m b ts hT p g1) (by rfl) (by rfl) (by rfl) (by rfl) (by rfl) ?_
        | refine O_callA [3] (now_A m b ts hT p g1) (by rfl) (by rfl) (by rfl) (by rfl) (by rfl) ?_
        | refine O_callA [4] (now_A m b ts hT p g1) (by rfl) (by rfl) (by rfl) (by rfl) (by rfl) ?_
      rintro r cs' ⟨rfl, rfl⟩
      repeat (first | refine sc rfl ?_ | refine so rfl ?_ | refine sb rfl ?_)
      refine O_Xd (X_field Tryz.underlying222 rfl rfl rfl rfl rfl rfl rfl) ?_
      repeat (first | refine sc rfl ?_ | refine so rfl ?_ | refine sb rfl ?_)
      refine C_if rfl (fun c1 => ?_) (fun c1 => ?_) <;> simp only [decide_eq_true_eq, decide_eq_false_iff_not, Bool.not_eq_true', Bool.not_eq_false', beq_iff_eq, beq_eq_false_iff_ne, bne_iff_ne, ne_eq, bne_eq_false_iff_eq, Decidable.not_not] at c1
      rotate_left
      · rw [if_neg (fun h => h.2 c1)] at g7
        repeat (first | refine sc rfl ?_ | refine so rfl ?_ | refine sb rfl ?_)
        exact ⟨(p, out, h), g7.symm, Le.pick [0, 0, 0] ⟨rfl, rfl, rfl, trivial⟩ rfl⟩
      rw [if_pos ⟨hw', c1⟩] at g7
      repeat (first | refine sc rfl ?_ | refine so rfl ?_ | refine sb rfl ?_)
      refine O_Xd (X_lenV (d := some 32) 1 rfl rfl rfl rfl rfl) ?_
      repeat (first | refine sc rfl ?_ | refine so rfl ?_ | refine sb rfl ?_)
      refine C_if rfl (fun c2 => ?_) (fun c2 => ?_) <;> simp only [decide_eq_true_eq, decide_eq_false_iff_not, Bool.not_eq_true', Bool.not_eq_false', beq_iff_eq, beq_eq_false_iff_ne, bne_iff_ne, ne_eq, bne_eq_false_iff_eq, Decidable.not_not] at c2
      · rw [if_pos (by omega)] at g7
        repeat (first | refine sc rfl ?_ | refine so rfl ?_ | refine sb rfl ?_)
        first
          | refine O_callA [0] (fail_A m b ts hT p g1 3) (by rfl) (by rfl) (by rfl) (by rfl) (by rfl) ?_
          | refine O_callA [1] (fail_A m b ts hT p g1 3) (by rfl) (by rfl) (by rfl) (by rfl) (by rfl) ?_
          | refine O_callA [2] (fail_A m b ts hT p g1 3) (by rfl) (by rfl) (by rfl) (by rfl) (by rfl) ?_
          | refine O_callA [3] (fail_A m b ts hT p g1 3) (by rfl) (by rfl) (by rfl) (by rfl) (by rfl) ?_
          | refine O_callA [4] (fail_A m b ts hT p g1 3) (by rfl) (by rfl) (by rfl) (by rfl) (by rfl) ?_
        rintro r cs' ⟨rfl, rfl⟩
        repeat (first | refine sc rfl ?_ | refine so rfl ?_ | refine sb rfl ?_)
        exact ⟨(failF ts 3 p, out, h), g7.symm, Le.pick [0, 0, 0] ⟨rfl, rfl, rfl, trivial⟩ rfl⟩
      rw [if_neg (by omega)] at g7
      have hdl := decl_lt hT g1
      have hda := decl_adv (ts := ts) p
      repeat (first | refine sc rfl ?_ | refine so rfl ?_ | refine sb rfl ?_)
      refine O_callBound [0] (avs := []) (decl_A m b ts hT p g1) rfl rfl rfl rfl rfl rfl ?_
      rintro r cs' ⟨rfl, rfl⟩
      repeat (first | refine sc rfl ?_ | refine so rfl ?_ | refine sb rfl ?_)
      refine O_le _ (Le.freeze 39 rfl rfl) ?_
      refine O_appendV 1 (m2 := 1) (m3 := out.length + 1) (row3 := fun i => Dcl.c ((out ++ [(declF ts p).1]).getD i default)) rfl rfl rfl rfl rfl rfl (fun i hi => ?_) rfl (by show (out.length + 1) * 80 ≤ 140737488355328; omega) (by show out.length + 1 ≤ maxLen; simp only [maxLen]; omega) rfl (fun i hi => ?_) (fun v' hv' => ?_)
      · show (chunkRow 5 (Dcl.c ((declF ts p).1)) i).length = 5
        have h0 : i = 0 := by have : i < 1 := hi; omega
        subst h0; rfl
      · unfold appRow
        by_cases hik : i < out.length
        · rw [if_pos hik]
          show Dcl.c (out.getD i default) = _
          rw [List.getD_eq_getElem?_getD, List.getD_eq_getElem?_getD, List.getElem?_append_left hik]
        · rw [if_neg hik]
          obtain rfl : i = out.length := by omega
          rw [Nat.sub_self, List.getD_eq_getElem?_getD, List.getElem?_append_right (Nat.le_refl _), Nat.sub_self]; rfl
      obtain ⟨g9, cc9, rfl⟩ := hv'.resolve_left (fun h => by omega)
      repeat (first | refine sc rfl ?_ | refine so rfl ?_ | refine sb rfl ?_)
      refine ⟨((declF ts p).2, out ++ [(declF ts p).1], HD g9 (out.length + 1) cc9), ⟨hdl, by simp only [List.length_append, List.length_singleton]; omega, n, fun h => by simp only [] at h ⊢; have := hda h; omega, g7⟩, ?_, ?_⟩
      · simp only [if_pos hw']
        split
        · rename_i h; have := hda h; omega
        · omega
      · have e : outA (HD g9 (out.length + 1) cc9) (out ++ [(declF ts p).1]) = vecA (HD g9 (out.length + 1) cc9) 60 5 (out.length + 1) (fun i => Dcl.c ((out ++ [(declF ts p).1]).getD i default)) := by rw [outA, List.length_append]; rfl
        simp only []
        rw [e]
        exact Le.pick [1, 0, 0] ⟨rfl, rfl, rfl, rfl, trivial⟩ rfl
    · rintro ⟨p, out, h⟩ st9 ⟨hF⟩ hs
      simp only [] at hs
      refine C_le _ hs ?_
      have hP2 : (parseF s).1 = out ∧ (parseF s).2.1 = p.err ∧ (parseF s).2.2 = p.fat := by rw [hP]; exact ⟨rfl, rfl, rfl⟩
      repeat (first | refine sc rfl ?_ | refine so rfl ?_ | refine sb rfl ?_)
      first
        | refine O_callA [0] (well_A m b ts p) (by rfl) (by rfl) (by rfl) (by rfl) (by rfl) ?_
        | refine O_callA [1] (well_A m b ts p) (by rfl) (by rfl) (by rfl) (by rfl) (by rfl) ?_
        | refine O_callA [2] (well_A m b ts p) (by rfl) (by rfl) (by rfl) (by rfl) (by rfl) ?_
        | refine O_callA [3] (well_A m b ts p) (by rfl) (by rfl) (by rfl) (by rfl) (by rfl) ?_
        | refine O_callA [4] (well_A m b ts p) (by rfl) (by rfl) (by rfl) (by rfl) (by rfl) ?_
      rintro r cs' ⟨rfl, rfl⟩
      repeat (first | refine sc rfl ?_ | refine so rfl ?_ | refine sb rfl ?_)
      refine C_if rfl (fun c1 => ?_) (fun c1 => ?_) <;> simp only [decide_eq_true_eq, decide_eq_false_iff_not, Bool.not_eq_true', Bool.not_eq_false', beq_iff_eq, beq_eq_false_iff_ne, bne_iff_ne, ne_eq, bne_eq_false_iff_eq, Decidable.not_not] at c1
      · repeat (first | refine sc rfl ?_ | refine so rfl ?_ | refine sb rfl ?_)
        refine C_le _ (Le.absPerm (As := [psA m b ts p]) (As' := [boxA b 219 (PS.c ts p), glbA m]) (pickA_perm (is := [0]) rfl) (by simp [blocks, psA, boxA, glbA]) (fun G w h A hA => ?_)) ?_
        · have := h (psA m b ts p) (by simp)
          simp only [List.mem_cons, List.not_mem_nil, or_false] at hA
          rcases hA with rfl | rfl
          · exact this.1
          · exact this.2
        refine C_drawU 20 5 rfl (by kernel_rfl) (by kernel_rfl) (by kernel_rfl) ?_
        repeat (first | refine sd rfl ?_ | refine sdb rfl ?_ | refine sds rfl ?_)
        refine D_X (.agg [I64 p.err, I64 p.fat]) (X_loadP 0 (reads_box 2) rfl rfl rfl rfl rfl rfl) ?_
        repeat (first | refine sd rfl ?_ | refine sdb rfl ?_ | refine sds rfl ?_)
        repeat (first | refine sc rfl ?_ | refine so rfl ?_ | refine sb rfl ?_)
        exact ⟨_, [glbA m], _, rfl, pickA_perm (is := [2]) (As := [_]) rfl, rfl, .inl ⟨by rw [hP2.2.1]; exact c1, by rw [hP2.2.1, hP2.2.2]; rfl⟩, rfl⟩
      · refine C_le _ (Le.frVec 1 (fun i => Dcl.c (out.getD i default)) rfl (fun i hi => rfl)) ?_
        refine C_le _ (Le.slotA 0 8 rfl rfl) ?_
        refine C_le _ (Le.absPerm (As := [psA m b ts p]) (As' := [boxA b 219 (PS.c ts p), glbA m]) (pickA_perm (is := [1]) rfl) (by simp [blocks, psA, boxA, glbA]) (fun G w h A hA => ?_)) ?_
        · have := h (psA m b ts p) (by simp)
          simp only [List.mem_cons, List.not_mem_nil, or_false] at hA
          rcases hA with rfl | rfl
          · exact this.1
          · exact this.2
        repeat (first | refine sc rfl ?_ | refine so rfl ?_ | refine sb rfl ?_)
        exact ⟨_, [glbA m], _, rfl, pickA_perm (is := [2]) (As := [_]) rfl, rfl, .inr ⟨by rw [hP2.2.1]; exact c1, by rw [hP2.1]; rfl⟩, rfl⟩
end Go.Proofs

/- Rows of a schema: plain law. -/
set_option linter.unusedSimpArgs false
set_option linter.unusedVariables false
set_option maxRecDepth 100000
namespace Go.Proofs
open Go.Sy Go.Lib

theorem mem_getDf {l : List Fld} {i : Nat} (h : i < l.length) : l.getD i default ∈ l := by
  rw [getD_at h]; exact List.getElem_mem h
theorem getD_mem {α : Type} [Inhabited α] {l : List α} {x : α} (h : x ∈ l) : ∃ i, i < l.length ∧ l.getD i default = x := by
  obtain ⟨i, hi, rfl⟩ := List.mem_iff_getElem.1 h
  exact ⟨i, hi, getD_at hi⟩
theorem nodup_tag {F : List Fld} (h : (F.map (·.tag)).Nodup) {i j : Nat} (hi : i < F.length) (hj : j < F.length) (e : (F.getD i default).tag = (F.getD j default).tag) : i = j := by
  rw [getD_at hi, getD_at hj] at e
  have := (List.getElem_inj (xs := F.map (·.tag)) (i := i) (j := j) (h₀ := by simpa using hi) (h₁ := by simpa using hj) h).1 (by simpa using e)
  exact this

theorem tagZ_iff {F : List Fld} (h : (F.map (·.tag)).Nodup) {t : Int} {i : Nat} : tagZ t F = some i ↔ i < F.length ∧ (F.getD i default).tag = t := by
  constructor
  · intro h0
    refine ⟨tagZ_lt h0, ?_⟩
    have key : ∀ {F : List Fld} {j : Nat}, tagZ t F = some j → (F.getD j default).tag = t := by
      intro F
      induction F with
      | nil => intro j h; simp [tagZ] at h
      | cons d l ih =>
        intro j h
        simp only [tagZ] at h
        split at h
        · cases h; simpa
        · obtain ⟨k, hk, rfl⟩ := Option.map_eq_some_iff.1 h
          simpa using ih hk
    exact key h0
  · rintro ⟨h1, h2⟩
    exact tagZ_first h1 (fun j hj e => by
      have := nodup_tag h (i := j) (j := i) (by omega) h1 (by rw [e, h2])
      omega) h2

theorem rowZ_iff {l : List Dcl} {nm : List UInt8} {F : List Fld} (hF : fldsL l nm = F) (h : (F.map (·.tag)).Nodup) {t : Int} {f : Fld} : rowZ l nm t = some f ↔ f ∈ F ∧ f.tag = t := by
  unfold rowZ
  rw [hF, Option.map_eq_some_iff]
  constructor
  · rintro ⟨j, h1, rfl⟩
    obtain ⟨h2, h3⟩ := (tagZ_iff h).1 h1
    exact ⟨mem_getDf h2, h3⟩
  · rintro ⟨h1, h2⟩
    obtain ⟨i, hi, rfl⟩ := getD_mem h1
    exact ⟨i, (tagZ_iff h).2 ⟨hi, h2⟩, rfl⟩

theorem one_tag {F : List Fld} (h : (F.map (·.tag)).Nodup) {x y : Fld} (hx : x ∈ F) (hy : y ∈ F) (e : x.tag = y.tag) : x = y := by
  obtain ⟨i, hi, rfl⟩ := getD_mem hx
  obtain ⟨j, hj, rfl⟩ := getD_mem hy
  rw [nodup_tag h hi hj e]

/-- Sorted rows: members, and the order is strict. -/
theorem SrtOf.facts {F R : List Fld} (h : SrtOf F R) (hn : (F.map (·.tag)).Nodup) : (∀ x, x ∈ R ↔ x ∈ F) ∧ ∀ i j, i < j → j < R.length → (R.getD i default).tag < (R.getD j default).tag := by
  obtain ⟨h1, ⟨p, r, h2, _⟩, h3⟩ := h
  refine ⟨fun x => ⟨fun hx => ?_, fun hx => ?_⟩, fun i j hij hj => ?_⟩
  · obtain ⟨i, hi, rfl⟩ := getD_mem hx
    obtain ⟨q1, _, _, _, q5⟩ := h2 i (Nat.zero_le _) (by omega)
    simp only [] at q5
    rw [q5]; exact mem_getDf q1.2
  · obtain ⟨i, hi, rfl⟩ := getD_mem hx
    obtain ⟨_, q2, q3, _, _⟩ := h2 i (Nat.zero_le _) hi
    obtain ⟨_, _, _, _, s5⟩ := h2 (r i) (Nat.zero_le _) q2.2
    simp only [] at s5
    rw [q3] at s5
    rw [← s5]; exact mem_getDf (by omega)
  · have hle := h3 i j (Nat.zero_le _) (by omega) (by omega)
    simp only [] at hle
    obtain ⟨a1, _, _, a4, a5⟩ := h2 i (Nat.zero_le _) (by omega)
    obtain ⟨b1, _, _, b4, b5⟩ := h2 j (Nat.zero_le _) (by omega)
    simp only [] at a5 b5
    rcases Int.lt_or_eq_of_le hle with hlt | he
    · exact hlt
    · rw [a5, b5] at he
      have := nodup_tag hn a1.2 b1.2 he
      have : i = j := by rw [← a4, ← b4, this]
      omega


theorem srt_eq : ∀ {A B : List Fld}, A.Pairwise (fun a b => a.tag < b.tag) → B.Pairwise (fun a b => a.tag < b.tag) → (∀ x, x ∈ A ↔ x ∈ B) → A = B
  | [], [], _, _, _ => rfl
  | [], b :: B, _, _, h => by have := (h b).2 (by simp); cases this
  | a :: A, [], _, _, h => by have := (h a).1 (by simp); cases this
  | a :: A, b :: B, hA, hB, h => by
    obtain ⟨a1, a2⟩ := List.pairwise_cons.1 hA
    obtain ⟨b1, b2⟩ := List.pairwise_cons.1 hB
    have e : a = b := by
      rcases List.mem_cons.1 ((h a).1 (by simp)) with h1 | h1
      · exact h1
      · rcases List.mem_cons.1 ((h b).2 (by simp)) with h2 | h2
        · exact h2.symm
        · have := b1 a h1
          have := a1 b h2
          omega
    subst e
    have : A = B := srt_eq a2 b2 (fun x => by
      constructor
      · intro hx
        rcases List.mem_cons.1 ((h x).1 (by simp [hx])) with h1 | h1
        · subst h1; have := a1 x hx; omega
        · exact h1
      · intro hx
        rcases List.mem_cons.1 ((h x).2 (by simp [hx])) with h1 | h1
        · subst h1; have := b1 x hx; omega
        · exact h1)
    rw [this]

theorem SrtOf.pw {F R : List Fld} (h : SrtOf F R) (hn : (F.map (·.tag)).Nodup) : R.Pairwise (fun a b => a.tag < b.tag) := by
  rw [List.pairwise_iff_getElem]
  intro i j hi hj hij
  have := (h.facts hn).2 i j hij hj
  rwa [getD_at hi, getD_at hj] at this
theorem SrtOf.uniq {F R R' : List Fld} (h : SrtOf F R) (h' : SrtOf F R') (hn : (F.map (·.tag)).Nodup) : R = R' :=
  srt_eq (h.pw hn) (h'.pw hn) (fun x => by rw [(h.facts hn).1, (h'.facts hn).1])
/-- Fields that stand in order are their own rows. -/
theorem SrtOf.self {F R : List Fld} (h : SrtOf F R) (hs : F.Pairwise (fun a b => a.tag < b.tag)) : R = F := by
  have hn : (F.map (·.tag)).Nodup := by
    rw [List.Nodup, List.pairwise_map]
    exact hs.imp (fun hab e => by omega)
  exact srt_eq (h.pw hn) hs (h.facts hn).1

/-- The rows that a schema has of a name. -/
noncomputable def rowsU (l : List Dcl) (nm : List UInt8) : List Fld := rowsL l (Classical.epsilon (RowsOK l)) nm
theorem rowsU_eq {l : List Dcl} (hW : WellL l) {Rs : List (List Fld)} (hR : RowsOK l Rs) (nm : List UInt8) : rowsL l Rs nm = rowsU l nm := by
  have hR' : RowsOK l (Classical.epsilon (RowsOK l)) := Classical.epsilon_spec ⟨Rs, hR⟩
  unfold rowsU rowsL
  cases hf : fndL nm l with
  | none => rfl
  | some j =>
    have hj := fndL_lt hf
    exact (hR.2 j hj).uniq (hR'.2 j hj) (List.nodup_append.1 (hW j hj).tags).1
end Go.Proofs

/- Contracts of desc: Read, of a text that is one; schemas in whatever state. -/
set_option linter.unusedSimpArgs false
set_option linter.unusedVariables false
set_option maxRecDepth 100000
namespace Go.Proofs
open Go.Sy Go.Lib

/-- One of a family, over the same blocks. -/
def exA {α : Type} (I : α → Prop) (A : α → Abs) (bs : List Nat) (hbs : ∀ q, (A q).bs = bs) : Abs where
  bs := bs
  ok := fun G w => ∃ q, I q ∧ (A q).ok G w
  keep := fun hG hb ⟨q, h1, h2⟩ => ⟨q, h1, (A q).keep hG (by rw [hbs]; exact hb) h2⟩

theorem FnA_ex {α : Type} {I : α → Prop} {A : α → Abs} {bs : List Nat} {hbs : ∀ q, (A q).bs = bs} {P : Program} {f : FuncId} {args : List AV} {φ : AV → Prop}
    (h : ∀ q, I q → FnA P f args [A q] (fun r cs' => φ r ∧ ∃ q', I q' ∧ cs' = [A q'])) (hc : Callable P f) : FnA P f args [exA I A bs hbs] (fun r cs' => φ r ∧ cs' = [exA I A bs hbs]) := by
  refine ⟨hc, fun G w cargs him hr hok => ?_⟩
  have hx : (exA I A bs hbs).ok G w := hok.1 _ (List.mem_singleton.2 rfl)
  obtain ⟨q, hq, hqo⟩ := hx
  have e1 : ∀ q, blocks [A q] = bs := fun q => by simp [blocks, hbs]
  have e2 : blocks [exA I A bs hbs] = bs := by simp [blocks, exA]
  have hok' : AbsOK G w [A q] := ⟨fun B hB => by simp only [List.mem_singleton] at hB; subst hB; exact hqo, by rw [e1, ← e2]; exact hok.2.1, by rw [e1, ← e2]; exact hok.2.2⟩
  refine ((h q hq).2 G w cargs him hr hok').mono ?_
  rintro en w' ⟨r, cr, cs', G', ⟨hφ, q', hq', rfl⟩, g1, g2, g3, g4, g5, g6, g7, g8⟩
  rw [e1] at g4 g7 g8
  refine ⟨r, cr, _, G', ⟨hφ, rfl⟩, g1, g2, g3, by rw [e2]; exact g4, g5, ⟨fun B hB => by simp only [List.mem_singleton] at hB; subst hB; exact ⟨q', hq', g6.1 _ (by simp)⟩, by rw [e2, ← e1 q']; exact g6.2.1, by rw [e2, ← e1 q']; exact g6.2.2⟩, ?_, ?_⟩
  · rw [e2]; intro b hb; rw [e1] at g7; exact g7 b hb
  · rw [e2]; exact g8

/-- A schema, raw or ready. -/
def dscS (b : Nat) (l : List Dcl) : Abs := exA (Rdy l) (dsc b l) [b] (fun q => by cases q <;> rfl)

theorem DKind_S (b : Nat) (l : List Dcl) (hP : Prep l) (nm : List UInt8) : FnA Tryz.prog 82 [PT b 0, .s nm] [dscS b l] (fun r cs' => r = I64 (kindL l nm) ∧ cs' = [dscS b l]) :=
  FnA_ex (φ := fun r => r = I64 (kindL l nm)) (fun q hq => (DKind_A b l hP q hq nm).mono (fun r cs' ⟨h1, Rs, h2, h3⟩ => ⟨h1, some Rs, fun _ h => by cases h; exact h2, h3⟩)) (DKind_A b l hP none (fun _ h => by cases h) nm).1
theorem DRows_S (b : Nat) (l : List Dcl) (hP : Prep l) (hW : WellL l) (nm : List UInt8) : FnA Tryz.prog 25 [PT b 0, .s nm] [dscS b l] (fun r cs' => r = SL 5 Fld.c (rowsU l nm) ∧ cs' = [dscS b l]) :=
  FnA_ex (φ := fun r => r = SL 5 Fld.c (rowsU l nm)) (fun q hq => (DRows_A b l hP q hq nm).mono (fun r cs' ⟨Rs, h1, h2, h3⟩ => ⟨by rw [h2, rowsU_eq hW h1], some Rs, fun _ h => by cases h; exact h1, h3⟩)) (DRows_A b l hP none (fun _ h => by cases h) nm).1

theorem decls_A (b : Nat) (l : List Dcl) (hl : FewL l) (q : Option (List (List Fld))) : FnA Tryz.prog 23 [PT b 0] [dsc b l q] (fun r cs' => r = SL 5 Dcl.c l ∧ cs' = [dsc b l q]) := by
  refine FnA.intro Tryz.tabOK Tryz.wide_ Tryz.func23 rfl (by decide) rfl (fun X => ?_)
  have hd : ∃ o1 o2 o3 t m0, dsc b l q = dscA b l o1 o2 o3 t m0 := by cases q <;> exact ⟨_, _, _, _, _, rfl⟩
  obtain ⟨o1, o2, o3, t, m0, hd⟩ := hd
  rw [hd]
  repeat (first | refine sc rfl ?_ | refine so rfl ?_ | refine sb rfl ?_)
  refine O_Xd (X_ptrnil Tryz.underlying48 rfl rfl rfl) ?_
  repeat (first | refine sc rfl ?_ | refine so rfl ?_ | refine sb rfl ?_)
  refine C_false rfl rfl ?_
  repeat (first | refine sc rfl ?_ | refine so rfl ?_ | refine sb rfl ?_)
  refine O_loadP 0 (A := dscA b l o1 o2 o3 t m0) (reads_box 0) rfl rfl rfl rfl rfl rfl ?_
  repeat (first | refine sc rfl ?_ | refine so rfl ?_ | refine sb rfl ?_)
  refine O_call (decls_c l hl) (by rfl) (by rfl) (by rfl) (by rfl) (fun r hr => ?_)
  subst hr
  repeat (first | refine sc rfl ?_ | refine so rfl ?_ | refine sb rfl ?_)
  exact ⟨_, [_], _, rfl, .refl _, rfl, rfl, rfl⟩
theorem decls_S (b : Nat) (l : List Dcl) (hl : FewL l) : FnA Tryz.prog 23 [PT b 0] [dscS b l] (fun r cs' => r = SL 5 Dcl.c l ∧ cs' = [dscS b l]) :=
  FnA_ex (φ := fun r => r = SL 5 Dcl.c l) (fun q hq => (decls_A b l hl q).mono (fun r cs' ⟨h1, h2⟩ => ⟨h1, q, hq, h2⟩)) (decls_A b l hl none).1

/-- A text that is a schema. -/
theorem Read_A (m : Int) (s : List UInt8) (l : List Dcl) (hl : parseF s = (l, 0, 0) ∨ (parseF s).1 = l ∧ (parseF s).2.1 = 0) (hfew : FewL l) (hok : WellL l ∧ FinL l) :
    FnA Tryz.prog 21 [.s s] [glbA m] (fun r cs' => ∃ b, r = .tup [PT b 0, .agg [I64 0, I64 0]] ∧ cs' = [dscS b l, glbA m]) := by
  have hl' : (parseF s).1 = l ∧ (parseF s).2.1 = 0 := by
    rcases hl with h | h
    · rw [h]; exact ⟨rfl, rfl⟩
    · exact h
  refine FnA.intro Tryz.tabOK Tryz.wide_ Tryz.func21 rfl (by decide) rfl (fun X => ?_)
  repeat (first | refine sc rfl ?_ | refine so rfl ?_ | refine sb rfl ?_)
  refine O_callA [1] (Parse_A m s) (by rfl) (by rfl) (by rfl) (by rfl) (by rfl) ?_
  rintro r cs' ⟨h0 | h0, rfl⟩
  · exact absurd hl'.2 h0.1
  obtain ⟨_, rfl⟩ := h0
  rw [hl'.1]
  repeat (first | refine sc rfl ?_ | refine so rfl ?_ | refine sb rfl ?_)
  refine C_false rfl rfl ?_
  repeat (first | refine sc rfl ?_ | refine so rfl ?_ | refine sb rfl ?_)
  refine O_callA [] (Of_A l hfew) (by rfl) (by rfl) (by rfl) (by rfl) (by rfl) ?_
  rintro r cs' (⟨f, rfl, hn, rfl⟩ | ⟨b, rfl, hy, rfl⟩)
  · exact absurd hok hn
  refine O_le _ (Le.absPerm (As := [dsc b l none]) (As' := [dscS b l]) (pickA_perm (is := [0]) rfl) (.refl _) (fun G w h A hA => ?_)) ?_
  · simp only [List.mem_singleton] at hA
    subst hA
    exact ⟨none, (fun _ h => by cases h), h _ (by simp)⟩
  repeat (first | refine sc rfl ?_ | refine so rfl ?_ | refine sb rfl ?_)
  first
    | exact ⟨_, [_, _], _, rfl, pickA_perm (is := [1, 2]) (As := [_, _]) rfl, rfl, b, rfl, rfl⟩
    | exact ⟨_, [_, _], _, rfl, pickA_perm (is := [1, 1]) (As := [_, _]) rfl, rfl, b, rfl, rfl⟩
    | exact ⟨_, [_, _], _, rfl, pickA_perm (is := [0, 1]) (As := [_, _]) rfl, rfl, b, rfl, rfl⟩
end Go.Proofs

/- The texts of the example: what they are read as. -/
set_option linter.unusedSimpArgs false
set_option linter.unusedVariables false
set_option maxRecDepth 100000
namespace Go.Proofs
open Go.Sy Go.Lib

def tx1 : List UInt8 := [115, 116, 114, 117, 99, 116, 32, 80, 32, 123, 32, 49, 32, 97, 58, 32, 105, 110, 116, 59, 32, 125]
def tx2 : List UInt8 := [115, 116, 114, 117, 99, 116, 32, 80, 32, 123, 32, 49, 32, 97, 58, 32, 105, 110, 116, 59, 32, 50, 32, 98, 58, 32, 116, 101, 120, 116, 63, 59, 32, 125]
def fA : Fld := ⟨1, [97], ⟨2, [], []⟩⟩
def fB : Fld := ⟨2, [98], ⟨9, [], [⟨4, [], []⟩]⟩⟩
def sc1 : List Dcl := [⟨1, [80], [fA], [], 0⟩]
def sc2 : List Dcl := [⟨1, [80], [fA, fB], [], 0⟩]
theorem tk1 : (tokF tx1).1 = 0 := by decide
theorem par1 : parseF tx1 = (sc1, 0, 0) := by rfl
theorem par2 : parseF tx2 = (sc2, 0, 0) := by rfl
end Go.Proofs

/- Contracts of desc: Row. -/
set_option linter.unusedSimpArgs false
set_option linter.unusedVariables false
set_option maxRecDepth 100000
namespace Go.Proofs
open Go.Sy Go.Lib

theorem Cmp2_c (a b : Int) : FnP Tryz.prog 126 [I64 a, I64 b] (· = I64 (cmpI a b)) := by
  refine Compare_w a b _ ?_
  unfold Compare_F IsNaN_F cmpI
  by_cases h1 : a < b
  · simp [h1]
  · by_cases h2 : b < a
    · simp [h1, h2]
    · simp [h1, h2]
theorem rowCmp_c (f : Fld) (t : Int) : FnP Tryz.prog 142 [.agg (Fld.c f), I64 t] (· = I64 (cmpI f.tag t)) := by
  refine FnP.intro Tryz.tabOK Tryz.wide_ Tryz.func142 rfl (by decide) rfl (fun X => ?_)
  repeat (first | refine sc rfl ?_ | refine so rfl ?_ | refine sb rfl ?_)
  refine O_call (Cmp2_c f.tag t) (by rfl) (by rfl) (by rfl) (by rfl) (fun r hr => ?_)
  subst hr
  repeat (first | refine sc rfl ?_ | refine so rfl ?_ | refine sb rfl ?_)
  exact ⟨_, rfl, rfl, rfl⟩

theorem cmp_eq (a b : Int) : cmpI a b = 0 ↔ a = b := by
  unfold cmpI
  split
  · constructor
    · intro h; cases h
    · intro h; omega
  · split
    · constructor
      · intro h; cases h
      · intro h; omega
    · constructor
      · intro _; omega
      · intro _; rfl
/-- The place of a tag in rows that stand in order. -/
theorem bin_c (R : List Fld) (hl : R.length ≤ 1000) (hs : ∀ i j, i < j → j < R.length → (R.getD i default).tag < (R.getD j default).tag) (t : Int) :
    FnP Tryz.prog 141 [SL 5 Fld.c R, I64 t, .v (.func (.func 142) #[] #[])] (fun r => ∃ (i : Nat) (v : Bool), r = .tup [I64 (i : Nat), B v] ∧ (v = true → i < R.length ∧ (R.getD i default).tag = t) ∧ (v = false → ∀ j, j < R.length → (R.getD j default).tag ≠ t)) := by
  refine FnP.intro Tryz.tabOK Tryz.wide_ Tryz.func141 rfl (by decide) rfl (fun X => ?_)
  repeat (first | refine sc rfl ?_ | refine so rfl ?_ | refine sb rfl ?_)
  refine C_loop (fun q : Nat × Nat => ⟨[(0, SL 5 Fld.c R), (1, I64 t), (2, .v (.func (.func 142) #[] #[])), (8, I64 (R.length : Nat)), (9, I64 (q.1 : Nat)), (10, I64 (q.2 : Nat))], []⟩)
    (fun q => q.1 ≤ q.2 ∧ q.2 ≤ R.length ∧ (∀ j, j < q.1 → (R.getD j default).tag < t) ∧ ∀ j, q.2 ≤ j → j < R.length → t ≤ (R.getD j default).tag) (fun q => q.2 - q.1) (0, R.length) ⟨Nat.zero_le _, Nat.le_refl _, fun j hj => absurd hj (Nat.not_lt_zero _), fun j h1 h2 => by simp only [] at h1; omega⟩ (Le.sub [] ⟨rfl, rfl, rfl, rfl, rfl, rfl, trivial⟩ rfl) ?_
  rintro ⟨i, j⟩ ⟨g1, g2, g3, g4⟩
  simp only [] at g1 g2 g3 g4
  repeat (first | refine sc rfl ?_ | refine so rfl ?_ | refine sb rfl ?_)
  refine C_if rfl (fun m1 => ?_) (fun m1 => ?_) <;> simp only [decide_eq_true_eq, decide_eq_false_iff_not, Bool.not_eq_true', Bool.not_eq_false', beq_iff_eq, beq_eq_false_iff_ne, bne_iff_ne, ne_eq, bne_eq_false_iff_eq, Decidable.not_not] at m1
  · have hij : i < j := by omega
    repeat (first | refine sc rfl ?_ | refine so rfl ?_ | refine sb rfl ?_)
    refine ⟨by decide, ?_⟩
    repeat (first | refine sc rfl ?_ | refine so rfl ?_ | refine sb rfl ?_)
    rw [mid_wrap (i := i) (j := j) (by omega)]
    have hc1 : i ≤ (i + j) / 2 := by omega
    have hc2 : (i + j) / 2 < j := by omega
    generalize (i + j) / 2 = c at hc1 hc2 ⊢
    repeat (first | refine sc rfl ?_ | refine so rfl ?_ | refine sb rfl ?_)
    refine ⟨by omega, ?_⟩
    rw [Int.toNat_natCast]
    repeat (first | refine sc rfl ?_ | refine so rfl ?_ | refine sb rfl ?_)
    refine O_callAV (isClo_func 142) rfl (FnP.toA (rowCmp_c (R.getD c default) t) []) rfl rfl rfl rfl (cs := []) (cr := []) (.refl _) rfl ?_
    rintro r cs' ⟨rfl, rfl⟩
    repeat (first | refine sc rfl ?_ | refine so rfl ?_ | refine sb rfl ?_)
    refine C_if rfl (fun m2 => ?_) (fun m2 => ?_) <;> rw [cmp_lt] at m2 <;> simp only [decide_eq_true_eq, decide_eq_false_iff_not, Bool.not_eq_true', Bool.not_eq_false', beq_iff_eq, beq_eq_false_iff_ne, bne_iff_ne, ne_eq, bne_eq_false_iff_eq, Decidable.not_not] at m2
    · repeat (first | refine sc rfl ?_ | refine so rfl ?_ | refine sb rfl ?_)
      rw [w64 (x := (c : Int) + 1) (by omega) (by omega)]
      refine ⟨(c + 1, j), ⟨by simp only []; omega, g2, fun q hq => ?_, g4⟩, by simp only []; omega, Le.sub [] ⟨rfl, rfl, rfl, rfl, rfl, rfl, trivial⟩ rfl⟩
      simp only [] at hq
      by_cases hqc : q < c
      · have := hs q c hqc (by omega); omega
      · obtain rfl : q = c := by omega
        exact m2
    · repeat (first | refine sc rfl ?_ | refine so rfl ?_ | refine sb rfl ?_)
      refine ⟨(i, c), ⟨hc1, by simp only []; omega, g3, fun q hq1 hq2 => ?_⟩, by simp only []; omega, Le.sub [] ⟨rfl, rfl, rfl, rfl, rfl, rfl, trivial⟩ rfl⟩
      simp only [] at hq1
      by_cases hqc : c < q
      · have := hs c q hqc hq2; omega
      · obtain rfl : q = c := by omega
        omega
  · obtain rfl : i = j := by omega
    repeat (first | refine sc rfl ?_ | refine so rfl ?_ | refine sb rfl ?_)
    refine O_case 39 rfl (fun k1 => ?_) (fun k1 => ?_) <;> simp only [decide_eq_true_eq, decide_eq_false_iff_not, Bool.not_eq_true', Bool.not_eq_false', beq_iff_eq, beq_eq_false_iff_ne, bne_iff_ne, ne_eq, bne_eq_false_iff_eq, Decidable.not_not] at k1
    · have hil : i < R.length := by omega
      repeat (first | refine sc rfl ?_ | refine so rfl ?_ | refine sb rfl ?_)
      refine ⟨by omega, ?_⟩
      rw [Int.toNat_natCast]
      repeat (first | refine sc rfl ?_ | refine so rfl ?_ | refine sb rfl ?_)
      refine O_callAV (isClo_func 142) rfl (FnP.toA (rowCmp_c (R.getD i default) t) []) rfl rfl rfl rfl (cs := []) (cr := []) (.refl _) rfl ?_
      rintro r cs' ⟨rfl, rfl⟩
      repeat (first | refine sc rfl ?_ | refine so rfl ?_ | refine sb rfl ?_)
      refine ⟨_, rfl, rfl, i, _, rfl, fun h => ⟨hil, ?_⟩, fun h q hq => ?_⟩
      · rw [beq_iff_eq] at h
        exact (cmp_eq _ _).1 h
      · rw [beq_eq_false_iff_ne] at h
        have hne : (R.getD i default).tag ≠ t := fun e => h ((cmp_eq _ _).2 e)
        have := g4 i (Nat.le_refl _) hil
        rcases Nat.lt_trichotomy q i with h1 | h1 | h1
        · have := g3 q h1; omega
        · rw [h1]; exact hne
        · have := hs i q h1 hq; omega
    · repeat (first | refine sc rfl ?_ | refine so rfl ?_ | refine sb rfl ?_)
      refine ⟨_, rfl, rfl, i, false, rfl, (fun h => by cases h), fun _ q hq => ?_⟩
      have := g3 q (by omega)
      omega
end Go.Proofs

/- Contracts of desc: Row. -/
set_option linter.unusedSimpArgs false
set_option linter.unusedVariables false
set_option maxRecDepth 100000
namespace Go.Proofs
open Go.Sy Go.Lib

def zeroF : List AV := [I64 0, .s [], I64 0, .s [], .v (.slice none 0 0)]
def rowV (R : List Fld) (tag : Int) : AV := match R.find? (fun f => f.tag == tag) with
  | some f => .tup [.agg (Fld.c f), B true]
  | none => .tup [.agg [I64 0, .s [], I64 0, .s [], .v (.slice none 0 0)], B false]

theorem rowV_some {R : List Fld} (hs : R.Pairwise (fun a b => a.tag < b.tag)) {f : Fld} (hf : f ∈ R) : rowV R f.tag = .tup [.agg (Fld.c f), B true] := by
  unfold rowV
  cases h : R.find? (fun g => g.tag == f.tag) with
  | none =>
    have := List.find?_eq_none.1 h f hf
    simp at this
  | some g =>
    have h1 := List.find?_some h
    have h2 := List.mem_of_find?_eq_some h
    simp only [beq_iff_eq] at h1
    have hn : (R.map (·.tag)).Nodup := by
      rw [List.Nodup, List.pairwise_map]
      exact hs.imp (fun hab e => by omega)
    rw [one_tag hn h2 hf h1]
theorem rowV_none {R : List Fld} {tag : Int} (h : ∀ f ∈ R, f.tag ≠ tag) : rowV R tag = .tup [.agg [I64 0, .s [], I64 0, .s [], .v (.slice none 0 0)], B false] := by
  unfold rowV
  rw [List.find?_eq_none.2 (fun x hx => by simpa using h x hx)]

theorem DRow_A (b : Nat) (l : List Dcl) (hP : Prep l) (hW : WellL l) (q : Option (List (List Fld))) (hq : Rdy l q) (nm : List UInt8) (tag : Int) :
    FnA Tryz.prog 86 [PT b 0, .s nm, I64 tag] [dsc b l q] (fun r cs' => ∃ Rs, RowsOK l Rs ∧ r = rowV (rowsL l Rs nm) tag ∧ cs' = [dsc b l (some Rs)]) := by
  refine FnA.intro Tryz.tabOK Tryz.wide_ Tryz.func86 rfl (by decide) rfl (fun X => ?_)
  repeat (first | refine sc rfl ?_ | refine so rfl ?_ | refine sb rfl ?_)
  refine O_Xd (X_ptrnil Tryz.underlying48 rfl rfl rfl) ?_
  repeat (first | refine sc rfl ?_ | refine so rfl ?_ | refine sb rfl ?_)
  refine C_false rfl rfl ?_
  repeat (first | refine sc rfl ?_ | refine so rfl ?_ | refine sb rfl ?_)
  first
    | refine O_callA [0] (ready_A b l hP q hq) (by rfl) (by rfl) (by rfl) (by rfl) (by rfl) ?_
    | refine O_callA [1] (ready_A b l hP q hq) (by rfl) (by rfl) (by rfl) (by rfl) (by rfl) ?_
    | refine O_callA [2] (ready_A b l hP q hq) (by rfl) (by rfl) (by rfl) (by rfl) (by rfl) ?_
    | refine O_callA [3] (ready_A b l hP q hq) (by rfl) (by rfl) (by rfl) (by rfl) (by rfl) ?_
    | refine O_callA [4] (ready_A b l hP q hq) (by rfl) (by rfl) (by rfl) (by rfl) (by rfl) ?_
  rintro r cs' ⟨rfl, Rs, hRs, rfl⟩
  have hlook : lookE nm (esOf l Rs) = (fndL nm l).map fun j => SL 5 Fld.c (Rs.getD j default) := by
    rw [esOf_look nm l Rs (Nat.le_of_eq hRs.1)]
    cases hf : fndL nm l with
    | none => rfl
    | some j => simp only [Option.map_some]; rw [if_pos (by rw [hRs.1]; exact fndL_lt hf)]
  repeat (first | refine sc rfl ?_ | refine so rfl ?_ | refine sb rfl ?_)
  refine O_loadP 0 (A := dsc b l (some Rs)) (reads_box 5) rfl rfl rfl rfl rfl rfl ?_
  repeat (first | refine sc rfl ?_ | refine so rfl ?_ | refine sb rfl ?_)
  refine O_Xd (X_lookIS (z := nilH) sK Tryz.underlying163 rfl rfl (fun e => by simp only [Rep]) rfl (fun e v h => kS e h) rfl rfl rfl rfl) ?_
  rw [hlook]
  cases hf : fndL nm l with
  | none =>
    simp only [lookAV, cond_false, Option.map_none, Option.getD_none]
    refine O_le _ (Le.conv 22 (y := SL 5 Fld.c []) rfl (fun e v h => by simp only [Rep] at h ⊢; exact repI_nil (by simpa only [RepI] using h))) ?_
    have hR : rowsL l Rs nm = [] := by simp [rowsL, hf]
    repeat (first | refine sc rfl ?_ | refine so rfl ?_ | refine sb rfl ?_)
    refine O_call (bin_c [] (by decide) (fun i j _ hj => absurd hj (Nat.not_lt_zero _)) tag) (by rfl) (by rfl) (by rfl) (by rfl) (fun r hr => ?_)
    obtain ⟨i, v, rfl, h1, h2⟩ := hr
    cases v with
    | true => exact absurd (h1 rfl).1 (Nat.not_lt_zero _)
    | false =>
      repeat (first | refine sc rfl ?_ | refine so rfl ?_ | refine sb rfl ?_)
      refine C_if rfl (fun m1 => ?_) (fun m1 => ?_)
      · repeat (first | refine sc rfl ?_ | refine so rfl ?_ | refine sb rfl ?_)
        first
          | exact ⟨_, [_], _, rfl, pickA_perm (is := [0]) (As := [_]) rfl, rfl, ⟨Rs, hRs, by rw [hR]; rfl, rfl⟩⟩
          | exact ⟨_, [_], _, rfl, pickA_perm (is := [1]) (As := [_]) rfl, rfl, ⟨Rs, hRs, by rw [hR]; rfl, rfl⟩⟩
          | exact ⟨_, [_], _, rfl, pickA_perm (is := [2]) (As := [_]) rfl, rfl, ⟨Rs, hRs, by rw [hR]; rfl, rfl⟩⟩
          | exact ⟨_, [_], _, rfl, pickA_perm (is := [3]) (As := [_]) rfl, rfl, ⟨Rs, hRs, by rw [hR]; rfl, rfl⟩⟩
          | exact ⟨_, [_], _, rfl, pickA_perm (is := [4]) (As := [_]) rfl, rfl, ⟨Rs, hRs, by rw [hR]; rfl, rfl⟩⟩
      · cases m1
  | some j =>
    have hj := fndL_lt hf
    have hS := hRs.2 j hj
    have hn : ((l.getD j default).fields.map (·.tag)).Nodup := (List.nodup_append.1 (hW j hj).tags).1
    have hpw := hS.pw hn
    have hst := (hS.facts hn).2
    have hmem := (hS.facts hn).1
    have hR : rowsL l Rs nm = Rs.getD j default := by simp [rowsL, hf]
    have hfw := hS.few (hP.few.2 j hj).f
    rw [hf] at hlook
    simp only [lookAV, cond_false, Option.map_some, Option.getD_some] at hlook ⊢
    obtain ⟨R, hRe⟩ : ∃ R, Rs.getD j default = R := ⟨_, rfl⟩
    rw [hRe] at hlook hS hR hpw hst hmem hfw ⊢
    repeat (first | refine sc rfl ?_ | refine so rfl ?_ | refine sb rfl ?_)
    refine O_call (bin_c R hfw.1 hst tag) (by rfl) (by rfl) (by rfl) (by rfl) (fun r hr => ?_)
    obtain ⟨i, v, rfl, h1, h2⟩ := hr
    cases v with
    | false =>
      repeat (first | refine sc rfl ?_ | refine so rfl ?_ | refine sb rfl ?_)
      refine C_if rfl (fun m1 => ?_) (fun m1 => ?_)
      · repeat (first | refine sc rfl ?_ | refine so rfl ?_ | refine sb rfl ?_)
        first
          | exact ⟨_, [_], _, rfl, pickA_perm (is := [0]) (As := [_]) rfl, rfl, ⟨Rs, hRs, by rw [hR]; exact (rowV_none fun f hf => by obtain ⟨k, hk, rfl⟩ := getD_mem hf; exact h2 rfl k hk).symm, rfl⟩⟩
          | exact ⟨_, [_], _, rfl, pickA_perm (is := [1]) (As := [_]) rfl, rfl, ⟨Rs, hRs, by rw [hR]; exact (rowV_none fun f hf => by obtain ⟨k, hk, rfl⟩ := getD_mem hf; exact h2 rfl k hk).symm, rfl⟩⟩
          | exact ⟨_, [_], _, rfl, pickA_perm (is := [2]) (As := [_]) rfl, rfl, ⟨Rs, hRs, by rw [hR]; exact (rowV_none fun f hf => by obtain ⟨k, hk, rfl⟩ := getD_mem hf; exact h2 rfl k hk).symm, rfl⟩⟩
          | exact ⟨_, [_], _, rfl, pickA_perm (is := [3]) (As := [_]) rfl, rfl, ⟨Rs, hRs, by rw [hR]; exact (rowV_none fun f hf => by obtain ⟨k, hk, rfl⟩ := getD_mem hf; exact h2 rfl k hk).symm, rfl⟩⟩
          | exact ⟨_, [_], _, rfl, pickA_perm (is := [4]) (As := [_]) rfl, rfl, ⟨Rs, hRs, by rw [hR]; exact (rowV_none fun f hf => by obtain ⟨k, hk, rfl⟩ := getD_mem hf; exact h2 rfl k hk).symm, rfl⟩⟩
      · cases m1
    | true =>
      obtain ⟨hi, ht⟩ := h1 rfl
      repeat (first | refine sc rfl ?_ | refine so rfl ?_ | refine sb rfl ?_)
      refine C_if rfl (fun m1 => by cases m1) (fun m1 => ?_)
      repeat (first | refine sc rfl ?_ | refine so rfl ?_ | refine sb rfl ?_)
      refine O_loadP 0 (A := dsc b l (some Rs)) (reads_box 5) rfl rfl rfl rfl rfl rfl ?_
      repeat (first | refine sc rfl ?_ | refine so rfl ?_ | refine sb rfl ?_)
      refine O_Xd (X_lookIS (z := nilH) sK Tryz.underlying163 rfl rfl (fun e => by simp only [Rep]) rfl (fun e v h => kS e h) rfl rfl rfl rfl) ?_
      rw [hlook]
      simp only [lookAV, cond_false, Option.map_some, Option.getD_some]
      repeat (first | refine sc rfl ?_ | refine so rfl ?_ | refine sb rfl ?_)
      refine ⟨by omega, ?_⟩
      rw [Int.toNat_natCast]
      repeat (first | refine sc rfl ?_ | refine so rfl ?_ | refine sb rfl ?_)
      refine O_call (own_c _ (R.getD i default).ty (Nat.le_refl _) (hfw.2 i hi)) (by rfl) (by rfl) (by rfl) (by rfl) (fun r hr => ?_)
      subst hr
      repeat (first | refine sc rfl ?_ | refine so rfl ?_ | refine sb rfl ?_)
      first
        | exact ⟨_, [_], _, rfl, pickA_perm (is := [0]) (As := [_]) rfl, rfl, ⟨Rs, hRs, by rw [hR, ← ht]; exact (rowV_some hpw (mem_getDf hi)).symm, rfl⟩⟩
        | exact ⟨_, [_], _, rfl, pickA_perm (is := [1]) (As := [_]) rfl, rfl, ⟨Rs, hRs, by rw [hR, ← ht]; exact (rowV_some hpw (mem_getDf hi)).symm, rfl⟩⟩
        | exact ⟨_, [_], _, rfl, pickA_perm (is := [2]) (As := [_]) rfl, rfl, ⟨Rs, hRs, by rw [hR, ← ht]; exact (rowV_some hpw (mem_getDf hi)).symm, rfl⟩⟩
        | exact ⟨_, [_], _, rfl, pickA_perm (is := [3]) (As := [_]) rfl, rfl, ⟨Rs, hRs, by rw [hR, ← ht]; exact (rowV_some hpw (mem_getDf hi)).symm, rfl⟩⟩
        | exact ⟨_, [_], _, rfl, pickA_perm (is := [4]) (As := [_]) rfl, rfl, ⟨Rs, hRs, by rw [hR, ← ht]; exact (rowV_some hpw (mem_getDf hi)).symm, rfl⟩⟩
theorem DRow_S (b : Nat) (l : List Dcl) (hP : Prep l) (hW : WellL l) (nm : List UInt8) (tag : Int) : FnA Tryz.prog 86 [PT b 0, .s nm, I64 tag] [dscS b l] (fun r cs' => r = rowV (rowsU l nm) tag ∧ cs' = [dscS b l]) :=
  FnA_ex (φ := fun r => r = rowV (rowsU l nm) tag) (fun q hq => (DRow_A b l hP hW q hq nm tag).mono (fun r cs' ⟨Rs, h1, h2, h3⟩ => ⟨by rw [h2, rowsU_eq hW h1], some Rs, fun _ h => by cases h; exact h1, h3⟩)) (DRow_A b l hP hW none (fun _ h => by cases h) nm tag).1
end Go.Proofs

/- Contracts of compat: Type, optional; Row with one shape of answer. -/
set_option linter.unusedSimpArgs false
set_option linter.unusedVariables false
set_option maxRecDepth 100000
namespace Go.Proofs
open Go.Sy Go.Lib

theorem CType_c : ∀ (n : Nat) (a b : Ty), SizeOf.sizeOf a ≤ n → FewT a → FnP Tryz.prog 44 [.agg (Ty.c a), .agg (Ty.c b)] (· = B (sameT a b))
  | 0, a, b, h, _ => by cases a; simp at h
  | n + 1, a, b, hn, ⟨hlen, hsub⟩ => by
    refine FnP.intro Tryz.tabOK Tryz.wide_ Tryz.func44 rfl (by decide) rfl (fun X => ?_)
    have hrec : ∀ i, i < a.of.length → FnP Tryz.prog 44 [.agg (Ty.c (a.of.getD i default)), .agg (Ty.c (b.of.getD i default))] (· = B (sameT (a.of.getD i default) (b.of.getD i default))) := fun i hi => CType_c n _ _ (by have := of_lt hi; omega) (hsub i hi)
    repeat (first | refine sc rfl ?_ | refine so rfl ?_ | refine sb rfl ?_)
    refine O_case 11 rfl (fun c1 => ?_) (fun c1 => ?_) <;> simp only [decide_eq_true_eq, decide_eq_false_iff_not, Bool.not_eq_true', Bool.not_eq_false', beq_iff_eq, beq_eq_false_iff_ne, bne_iff_ne, ne_eq, bne_eq_false_iff_eq, Decidable.not_not] at c1
    · repeat (first | refine sc rfl ?_ | refine so rfl ?_ | refine sb rfl ?_)
      refine C_true rfl rfl ?_
      repeat (first | refine sc rfl ?_ | refine so rfl ?_ | refine sb rfl ?_)
      exact ⟨_, rfl, rfl, by rw [sameT_false.2 (fun h => c1 (by rw [h]))]⟩
    repeat (first | refine sc rfl ?_ | refine so rfl ?_ | refine sb rfl ?_)
    refine O_case 18 rfl (fun c2 => ?_) (fun c2 => ?_) <;> simp only [decide_eq_true_eq, decide_eq_false_iff_not, Bool.not_eq_true', Bool.not_eq_false', beq_iff_eq, beq_eq_false_iff_ne, bne_iff_ne, ne_eq, bne_eq_false_iff_eq, Decidable.not_not] at c2
    · repeat (first | refine sc rfl ?_ | refine so rfl ?_ | refine sb rfl ?_)
      refine C_true rfl rfl ?_
      repeat (first | refine sc rfl ?_ | refine so rfl ?_ | refine sb rfl ?_)
      exact ⟨_, rfl, rfl, by rw [sameT_false.2 (fun h => c2 (by rw [h]))]⟩
    repeat (first | refine sc rfl ?_ | refine so rfl ?_ | refine sb rfl ?_)
    refine C_if rfl (fun c3 => ?_) (fun c3 => ?_) <;> simp only [decide_eq_true_eq, decide_eq_false_iff_not, Bool.not_eq_true', Bool.not_eq_false', beq_iff_eq, beq_eq_false_iff_ne, bne_iff_ne, ne_eq, bne_eq_false_iff_eq, Decidable.not_not] at c3
    · repeat (first | refine sc rfl ?_ | refine so rfl ?_ | refine sb rfl ?_)
      exact ⟨_, rfl, rfl, by rw [sameT_false.2 (fun h => c3 (by rw [h]))]⟩
    have hl : a.of.length = b.of.length := by omega
    repeat (first | refine sc rfl ?_ | refine so rfl ?_ | refine sb rfl ?_)
    refine C_loop (fun i : Nat => ⟨[(2, .bp 2 0), (3, .bp 3 0), (29, I64 (a.of.length : Nat)), (30, I64 (i : Nat))], [.box 2 63 (Ty.c a), .box 3 63 (Ty.c b)]⟩) (fun i => i ≤ a.of.length ∧ ∀ j, j < i → a.of.getD j default = b.of.getD j default) (fun i => a.of.length - i) 0 ⟨Nat.zero_le _, fun j hj => absurd hj (Nat.not_lt_zero _)⟩ (Le.sub [2, 3] ⟨rfl, rfl, rfl, rfl, trivial⟩ rfl) ?_
    rintro i ⟨hi, hall⟩
    repeat (first | refine sc rfl ?_ | refine so rfl ?_ | refine sb rfl ?_)
    refine C_if rfl (fun m1 => ?_) (fun m1 => ?_) <;> simp only [decide_eq_true_eq, decide_eq_false_iff_not, Bool.not_eq_true', Bool.not_eq_false', beq_iff_eq, beq_eq_false_iff_ne, bne_iff_ne, ne_eq, bne_eq_false_iff_eq, Decidable.not_not] at m1
    · have hil : i < a.of.length := by omega
      repeat (first | refine sc rfl ?_ | refine so rfl ?_ | refine sb rfl ?_)
      refine C_drawD rfl (by kernel_rfl) ?_
      refine sd rfl ?_
      refine sdw (SL 3 Ty.c a.of) rfl rfl rfl (.row (Ty.rows_eq _)) ?_
      refine sd rfl ?_
      refine sd rfl ⟨by omega, ?_⟩
      rw [Int.toNat_natCast]
      refine sd rfl ?_
      refine sd rfl ?_
      refine sdw (SL 3 Ty.c b.of) rfl rfl rfl (.row (Ty.rows_eq _)) ?_
      refine sd rfl ?_
      refine sd rfl ⟨by omega, ?_⟩
      rw [Int.toNat_natCast]
      refine sd rfl ?_
      refine D_call (hrec i hil) rfl rfl rfl rfl ?_
      repeat (first | refine sd rfl ?_ | refine sdb rfl ?_ | refine sds rfl ?_)
      repeat (first | refine sc rfl ?_ | refine so rfl ?_ | refine sb rfl ?_)
      cases hs : sameT (a.of.getD i default) (b.of.getD i default) with
      | true =>
        refine C_false rfl rfl ?_
        repeat (first | refine sc rfl ?_ | refine so rfl ?_ | refine sb rfl ?_)
        rw [w64 (x := (i : Int) + 1) (by omega) (by omega)]
        refine ⟨i + 1, ⟨hil, fun j hj => ?_⟩, by omega, Le.sub [2, 3] ⟨rfl, rfl, rfl, rfl, trivial⟩ rfl⟩
        by_cases hji : j < i
        · exact hall j hji
        · obtain rfl : j = i := by omega
          exact sameT_true.1 hs
      | false =>
        refine C_true rfl rfl ?_
        repeat (first | refine sc rfl ?_ | refine so rfl ?_ | refine sb rfl ?_)
        exact ⟨_, rfl, rfl, by rw [sameT_false.2 (fun h => (sameT_false.1 hs) (by rw [h]))]⟩
    · obtain rfl : i = a.of.length := by omega
      repeat (first | refine sc rfl ?_ | refine so rfl ?_ | refine sb rfl ?_)
      exact ⟨_, rfl, rfl, by rw [sameT_true.2 (ty_ext c1 c2 hl hall)]⟩
theorem optional_c (f : Fld) : FnP Tryz.prog 212 [.agg (Fld.c f)] (· = B (decide (f.ty.kind = 9))) := by
  refine FnP.intro Tryz.tabOK Tryz.wide_ Tryz.func212 rfl (by decide) rfl (fun X => ?_)
  repeat (first | refine sc rfl ?_ | refine so rfl ?_ | refine sb rfl ?_)
  exact ⟨_, rfl, rfl, rfl⟩

theorem FnA.conv {P : Program} {f : FuncId} {args : List AV} {cs : List Abs} {p q : AV → List Abs → Prop} (h : FnA P f args cs p) (hpq : ∀ r c, p r c → ∃ r', q r' c ∧ ∀ G y, RepI G r y → RepI G r' y) : FnA P f args cs q :=
  ⟨h.1, fun G w c h1 h2 h3 => (h.2 G w c h1 h2 h3).mono fun e w' ⟨r, cr, cs', G', k, k1, k2, rest⟩ => by
    obtain ⟨r', q1, q2⟩ := hpq r cs' k
    exact ⟨r', cr, cs', G', q1, k1, q2 _ _ k2, rest⟩⟩

def fldJ (R : List Fld) (t : Int) : Fld := (R.find? (fun f => f.tag == t)).getD default
def hasJ (R : List Fld) (t : Int) : Bool := (R.find? (fun f => f.tag == t)).isSome
theorem DRow_F (b : Nat) (l : List Dcl) (hP : Prep l) (hW : WellL l) (nm : List UInt8) (tag : Int) : FnA Tryz.prog 86 [PT b 0, .s nm, I64 tag] [dscS b l] (fun r cs' => r = .tup [.agg (Fld.c (fldJ (rowsU l nm) tag)), B (hasJ (rowsU l nm) tag)] ∧ cs' = [dscS b l]) := by
  refine FnA.conv (DRow_S b l hP hW nm tag) (fun r c h => ?_)
  obtain ⟨rfl, rfl⟩ := h
  refine ⟨_, ⟨rfl, rfl⟩, fun G y h => ?_⟩
  unfold rowV at h
  unfold fldJ hasJ
  cases hf : (rowsU l nm).find? (fun f => f.tag == tag) with
  | some g => rw [hf] at h; exact h
  | none =>
    rw [hf] at h
    simp only [Option.getD_none, Option.isSome_none]
    simp only [RepI, RepIT] at h ⊢
    obtain ⟨ys, hy, h⟩ := h
    refine ⟨ys, hy, ?_⟩
    obtain ⟨z, zs, e1, ⟨zz, e2, e3⟩, e4⟩ := h
    refine ⟨z, zs, e1, ⟨zz, e2, ?_⟩, e4⟩
    show RepIL G [I64 0, .s [], I64 0, .s [], .sl 0 3 (Ty.rows [])] zz.toList
    simp only [RepIL] at e3 ⊢
    obtain ⟨a1, b1, c1, d1, o1, a2, b2, c2, d2, o2, a3, b3, c3, d3, o3, a4, b4, c4, d4, o4, a5, b5, c5, d5, o5, e5⟩ := e3
    exact ⟨a1, b1, c1, d1, o1, a2, b2, c2, d2, o2, a3, b3, c3, d3, o3, a4, b4, c4, d4, o4, a5, b5, c5, repI_nil (by simpa only [RepI] using d5), o5, e5⟩
end Go.Proofs

/- Contracts of compat: the judge of one row. -/
set_option linter.unusedSimpArgs false
set_option linter.unusedVariables false
set_option maxRecDepth 100000
namespace Go.Proofs
open Go.Sy Go.Lib

def jdgC (o n : Nat) (d : Dcl) : List AV := PT o 0 :: PT n 0 :: Dcl.c d
noncomputable def rowE (R : List Fld) (d : Dcl) (f : Fld) : Int :=
  if hasJ R f.tag = true then (bif sameT f.ty (fldJ R f.tag).ty then 0 else 8) else if d.kind = 1 ∧ f.ty.kind = 9 then 0 else 9
def freshE (R : List Fld) (d : Dcl) (f : Fld) : Int :=
  if hasJ R f.tag = false ∧ d.kind = 1 ∧ f.ty.kind ≠ 9 then 9 else 0

def CJ1 (n : Nat) (l : List Dcl) (g : Fld) (b15 b16 : Bool) : List Ch :=
  (bif b15 then [.box 5 65 (bif b16 then Fld.c g else [I64 0, .s [], I64 0, .s [], .v (.slice none 0 0)])] else []) ++ [.abs (dscS n l)]
def PJ1 : Pl := ⟨[[], [], [], [], [], [], [], [], [], [], [], [], [], [], [], [], [15, 11], []], [11, 15, 16], [(15, 5)], []⟩

theorem jrow_A (o n : Nat) (l : List Dcl) (hP : Prep l) (hW : WellL l) (d : Dcl) (f : Fld) (hf : FewT f.ty) :
    FnA Tryz.prog 137 [.cp (jdgC o n d), .agg (Fld.c f)] [dscS n l] (fun r cs' => r = I64 (rowE (rowsU l d.name) d f) ∧ cs' = [dscS n l]) := by
  refine FnA.intro Tryz.tabOK Tryz.wide_ Tryz.func137 rfl (by decide) rfl (fun X => ?_)
  repeat (first | refine sc rfl ?_ | refine so rfl ?_ | refine sb rfl ?_)
  refine C_le _ (Le.freezebox 3 rfl rfl rfl) ?_
  refine C_drawM PJ1 (fun L => CJ1 n l (fldJ (rowsU l d.name) f.tag) (L 15) (L 16)) rfl (by kernel_rfl) (fun L L' h => by show CJ1 n l (fldJ (rowsU l d.name) f.tag) (L 15) (L 16) = CJ1 n l (fldJ (rowsU l d.name) f.tag) (L' 15) (L' 16); rw [h 15 (by decide), h 16 (by decide)]) rfl ?_
  repeat (refine sm rfl ⟨trivial, ?_⟩)
  refine SM (.tup [.agg (Fld.c (fldJ (rowsU l d.name) f.tag)), B (hasJ (rowsU l d.name) f.tag)]) rfl (fun L h1 h2 h3 => ?_) ?_
  · show StepX _ _ _ _ _ (CJ1 n l (fldJ (rowsU l d.name) f.tag) (L 15) (L 16)) (CJ1 n l (fldJ (rowsU l d.name) f.tag) (L 15) (L 16)) _ _ _
    rw [h2 16 (show (11 : Nat) ∈ PJ1.anc 16 by decide)]
    cases L 15
    · exact X_callA [0] (DRow_F n l hP hW d.name f.tag) rfl rfl rfl rfl rfl
    · exact (X_callA [1] (DRow_F n l hP hW d.name f.tag) rfl rfl rfl rfl rfl).perm (.swap _ _ _)
  repeat (refine sm rfl ⟨trivial, ?_⟩)
  refine SM (.bp 5 0) rfl (fun L h1 h2 h3 => ?_) ?_
  · show StepX _ _ _ _ _ (CJ1 n l (fldJ (rowsU l d.name) f.tag) (L 15) (L 16)) (CJ1 n l (fldJ (rowsU l d.name) f.tag) true (L 16)) _ _ _
    rw [show L 15 = false from h3, h2 16 (show (15 : Nat) ∈ PJ1.anc 16 by decide)]
    exact X_alloc rfl rfl rfl rfl (show ((15, 5) : Nat × Nat) ∈ PJ1.cre by decide) rfl rfl rfl
  refine SM .bad rfl (fun L h1 h2 h3 => ?_) ?_
  · show StepX _ _ _ _ _ (CJ1 n l (fldJ (rowsU l d.name) f.tag) (L 15) (L 16)) (CJ1 n l (fldJ (rowsU l d.name) f.tag) (L 15) true) _ _ _
    rw [show L 16 = false from h3, h1 15 (show (15 : Nat) ∈ PJ1.anc 16 by decide)]
    exact X_storeK rfl rfl rfl rfl rfl rfl rfl rfl rfl
  repeat (refine sm rfl ⟨trivial, ?_⟩)
  refine sm rfl ?_
  show SymC _ _ _ ⟨_, [.box 5 65 (Fld.c (fldJ (rowsU l d.name) f.tag)), .abs (dscS n l)]⟩ _
  cases hh : hasJ (rowsU l d.name) f.tag with
  | true =>
    repeat (first | refine sc rfl ?_ | refine so rfl ?_ | refine sb rfl ?_)
    refine C_false rfl rfl ?_
    repeat (first | refine sc rfl ?_ | refine so rfl ?_ | refine sb rfl ?_)
    refine C_false rfl rfl ?_
    repeat (first | refine sc rfl ?_ | refine so rfl ?_ | refine sb rfl ?_)
    refine O_call (CType_c _ f.ty (fldJ (rowsU l d.name) f.tag).ty (Nat.le_refl _) hf) (by rfl) (by rfl) (by rfl) (by rfl) (fun r hr => ?_)
    subst hr
    repeat (first | refine sc rfl ?_ | refine so rfl ?_ | refine sb rfl ?_)
    cases hs : sameT f.ty (fldJ (rowsU l d.name) f.tag).ty with
    | true =>
      refine C_false rfl rfl ?_
      repeat (first | refine sc rfl ?_ | refine so rfl ?_ | refine sb rfl ?_)
      first
        | exact ⟨_, [_], _, rfl, pickA_perm (is := [0]) (As := [_]) rfl, rfl, by rw [rowE, if_pos hh, hs]; rfl, rfl⟩
        | exact ⟨_, [_], _, rfl, pickA_perm (is := [1]) (As := [_]) rfl, rfl, by rw [rowE, if_pos hh, hs]; rfl, rfl⟩
        | exact ⟨_, [_], _, rfl, pickA_perm (is := [2]) (As := [_]) rfl, rfl, by rw [rowE, if_pos hh, hs]; rfl, rfl⟩
        | exact ⟨_, [_], _, rfl, pickA_perm (is := [3]) (As := [_]) rfl, rfl, by rw [rowE, if_pos hh, hs]; rfl, rfl⟩
        | exact ⟨_, [_], _, rfl, pickA_perm (is := [4]) (As := [_]) rfl, rfl, by rw [rowE, if_pos hh, hs]; rfl, rfl⟩
    | false =>
      refine C_true rfl rfl ?_
      repeat (first | refine sc rfl ?_ | refine so rfl ?_ | refine sb rfl ?_)
      first
        | exact ⟨_, [_], _, rfl, pickA_perm (is := [0]) (As := [_]) rfl, rfl, by rw [rowE, if_pos hh, hs]; rfl, rfl⟩
        | exact ⟨_, [_], _, rfl, pickA_perm (is := [1]) (As := [_]) rfl, rfl, by rw [rowE, if_pos hh, hs]; rfl, rfl⟩
        | exact ⟨_, [_], _, rfl, pickA_perm (is := [2]) (As := [_]) rfl, rfl, by rw [rowE, if_pos hh, hs]; rfl, rfl⟩
        | exact ⟨_, [_], _, rfl, pickA_perm (is := [3]) (As := [_]) rfl, rfl, by rw [rowE, if_pos hh, hs]; rfl, rfl⟩
        | exact ⟨_, [_], _, rfl, pickA_perm (is := [4]) (As := [_]) rfl, rfl, by rw [rowE, if_pos hh, hs]; rfl, rfl⟩
  | false =>
    repeat (first | refine sc rfl ?_ | refine so rfl ?_ | refine sb rfl ?_)
    refine O_case 33 rfl (fun k1 => ?_) (fun k1 => ?_) <;> simp only [decide_eq_true_eq, decide_eq_false_iff_not, Bool.not_eq_true', Bool.not_eq_false', beq_iff_eq, beq_eq_false_iff_ne, bne_iff_ne, ne_eq, bne_eq_false_iff_eq, Decidable.not_not] at k1
    · repeat (first | refine sc rfl ?_ | refine so rfl ?_ | refine sb rfl ?_)
      refine O_call (optional_c f) (by rfl) (by rfl) (by rfl) (by rfl) (fun r hr => ?_)
      subst hr
      repeat (first | refine sc rfl ?_ | refine so rfl ?_ | refine sb rfl ?_)
      refine C_if rfl (fun m1 => ?_) (fun m1 => ?_) <;> simp only [decide_eq_true_eq, decide_eq_false_iff_not, Bool.not_eq_true', Bool.not_eq_false', beq_iff_eq, beq_eq_false_iff_ne, bne_iff_ne, ne_eq, bne_eq_false_iff_eq, Decidable.not_not] at m1
      · repeat (first | refine sc rfl ?_ | refine so rfl ?_ | refine sb rfl ?_)
        first
          | exact ⟨_, [_], _, rfl, pickA_perm (is := [0]) (As := [_]) rfl, rfl, by rw [rowE, hh, if_neg (by decide), if_pos ⟨k1, m1⟩], rfl⟩
          | exact ⟨_, [_], _, rfl, pickA_perm (is := [1]) (As := [_]) rfl, rfl, by rw [rowE, hh, if_neg (by decide), if_pos ⟨k1, m1⟩], rfl⟩
          | exact ⟨_, [_], _, rfl, pickA_perm (is := [2]) (As := [_]) rfl, rfl, by rw [rowE, hh, if_neg (by decide), if_pos ⟨k1, m1⟩], rfl⟩
          | exact ⟨_, [_], _, rfl, pickA_perm (is := [3]) (As := [_]) rfl, rfl, by rw [rowE, hh, if_neg (by decide), if_pos ⟨k1, m1⟩], rfl⟩
          | exact ⟨_, [_], _, rfl, pickA_perm (is := [4]) (As := [_]) rfl, rfl, by rw [rowE, hh, if_neg (by decide), if_pos ⟨k1, m1⟩], rfl⟩
      · repeat (first | refine sc rfl ?_ | refine so rfl ?_ | refine sb rfl ?_)
        refine C_true rfl rfl ?_
        repeat (first | refine sc rfl ?_ | refine so rfl ?_ | refine sb rfl ?_)
        first
          | exact ⟨_, [_], _, rfl, pickA_perm (is := [0]) (As := [_]) rfl, rfl, by rw [rowE, hh, if_neg (by decide), if_neg (fun h => m1 h.2)], rfl⟩
          | exact ⟨_, [_], _, rfl, pickA_perm (is := [1]) (As := [_]) rfl, rfl, by rw [rowE, hh, if_neg (by decide), if_neg (fun h => m1 h.2)], rfl⟩
          | exact ⟨_, [_], _, rfl, pickA_perm (is := [2]) (As := [_]) rfl, rfl, by rw [rowE, hh, if_neg (by decide), if_neg (fun h => m1 h.2)], rfl⟩
          | exact ⟨_, [_], _, rfl, pickA_perm (is := [3]) (As := [_]) rfl, rfl, by rw [rowE, hh, if_neg (by decide), if_neg (fun h => m1 h.2)], rfl⟩
          | exact ⟨_, [_], _, rfl, pickA_perm (is := [4]) (As := [_]) rfl, rfl, by rw [rowE, hh, if_neg (by decide), if_neg (fun h => m1 h.2)], rfl⟩
    · repeat (first | refine sc rfl ?_ | refine so rfl ?_ | refine sb rfl ?_)
      refine C_false rfl rfl ?_
      repeat (first | refine sc rfl ?_ | refine so rfl ?_ | refine sb rfl ?_)
      refine C_true rfl rfl ?_
      repeat (first | refine sc rfl ?_ | refine so rfl ?_ | refine sb rfl ?_)
      first
        | exact ⟨_, [_], _, rfl, pickA_perm (is := [0]) (As := [_]) rfl, rfl, by rw [rowE, hh, if_neg (by decide), if_neg (fun h => k1 h.1)], rfl⟩
        | exact ⟨_, [_], _, rfl, pickA_perm (is := [1]) (As := [_]) rfl, rfl, by rw [rowE, hh, if_neg (by decide), if_neg (fun h => k1 h.1)], rfl⟩
        | exact ⟨_, [_], _, rfl, pickA_perm (is := [2]) (As := [_]) rfl, rfl, by rw [rowE, hh, if_neg (by decide), if_neg (fun h => k1 h.1)], rfl⟩
        | exact ⟨_, [_], _, rfl, pickA_perm (is := [3]) (As := [_]) rfl, rfl, by rw [rowE, hh, if_neg (by decide), if_neg (fun h => k1 h.1)], rfl⟩
        | exact ⟨_, [_], _, rfl, pickA_perm (is := [4]) (As := [_]) rfl, rfl, by rw [rowE, hh, if_neg (by decide), if_neg (fun h => k1 h.1)], rfl⟩

def PJ2 : Pl := PJ1
theorem jfresh_A (o n : Nat) (l : List Dcl) (hP : Prep l) (hW : WellL l) (d : Dcl) (f : Fld) :
    FnA Tryz.prog 140 [.cp (jdgC o n d), .agg (Fld.c f)] [dscS o l] (fun r cs' => r = I64 (freshE (rowsU l d.name) d f) ∧ cs' = [dscS o l]) := by
  refine FnA.intro Tryz.tabOK Tryz.wide_ Tryz.func140 rfl (by decide) rfl (fun X => ?_)
  repeat (first | refine sc rfl ?_ | refine so rfl ?_ | refine sb rfl ?_)
  refine C_le _ (Le.freezebox 3 rfl rfl rfl) ?_
  refine C_drawM PJ1 (fun L => CJ1 o l (fldJ (rowsU l d.name) f.tag) (L 15) (L 16)) rfl (by kernel_rfl) (fun L L' h => by show CJ1 o l (fldJ (rowsU l d.name) f.tag) (L 15) (L 16) = CJ1 o l (fldJ (rowsU l d.name) f.tag) (L' 15) (L' 16); rw [h 15 (by decide), h 16 (by decide)]) rfl ?_
  repeat (refine sm rfl ⟨trivial, ?_⟩)
  refine SM (.tup [.agg (Fld.c (fldJ (rowsU l d.name) f.tag)), B (hasJ (rowsU l d.name) f.tag)]) rfl (fun L h1 h2 h3 => ?_) ?_
  · show StepX _ _ _ _ _ (CJ1 o l (fldJ (rowsU l d.name) f.tag) (L 15) (L 16)) (CJ1 o l (fldJ (rowsU l d.name) f.tag) (L 15) (L 16)) _ _ _
    rw [h2 16 (show (11 : Nat) ∈ PJ1.anc 16 by decide)]
    cases L 15
    · exact X_callA [0] (DRow_F o l hP hW d.name f.tag) rfl rfl rfl rfl rfl
    · exact (X_callA [1] (DRow_F o l hP hW d.name f.tag) rfl rfl rfl rfl rfl).perm (.swap _ _ _)
  repeat (refine sm rfl ⟨trivial, ?_⟩)
  refine SM (.bp 5 0) rfl (fun L h1 h2 h3 => ?_) ?_
  · show StepX _ _ _ _ _ (CJ1 o l (fldJ (rowsU l d.name) f.tag) (L 15) (L 16)) (CJ1 o l (fldJ (rowsU l d.name) f.tag) true (L 16)) _ _ _
    rw [show L 15 = false from h3, h2 16 (show (15 : Nat) ∈ PJ1.anc 16 by decide)]
    exact X_alloc rfl rfl rfl rfl (show ((15, 5) : Nat × Nat) ∈ PJ1.cre by decide) rfl rfl rfl
  refine SM .bad rfl (fun L h1 h2 h3 => ?_) ?_
  · show StepX _ _ _ _ _ (CJ1 o l (fldJ (rowsU l d.name) f.tag) (L 15) (L 16)) (CJ1 o l (fldJ (rowsU l d.name) f.tag) (L 15) true) _ _ _
    rw [show L 16 = false from h3, h1 15 (show (15 : Nat) ∈ PJ1.anc 16 by decide)]
    exact X_storeK rfl rfl rfl rfl rfl rfl rfl rfl rfl
  repeat (refine sm rfl ⟨trivial, ?_⟩)
  refine sm rfl ?_
  show SymC _ _ _ ⟨_, [.box 5 65 (Fld.c (fldJ (rowsU l d.name) f.tag)), .abs (dscS o l)]⟩ _
  cases hh : hasJ (rowsU l d.name) f.tag with
  | true =>
    repeat (first | refine sc rfl ?_ | refine so rfl ?_ | refine sb rfl ?_)
    refine C_false rfl rfl ?_
    repeat (first | refine sc rfl ?_ | refine so rfl ?_ | refine sb rfl ?_)
    first
      | exact ⟨_, [_], _, rfl, pickA_perm (is := [0]) (As := [_]) rfl, rfl, by rw [freshE, hh, if_neg (fun h => by cases h.1)], rfl⟩
      | exact ⟨_, [_], _, rfl, pickA_perm (is := [1]) (As := [_]) rfl, rfl, by rw [freshE, hh, if_neg (fun h => by cases h.1)], rfl⟩
      | exact ⟨_, [_], _, rfl, pickA_perm (is := [2]) (As := [_]) rfl, rfl, by rw [freshE, hh, if_neg (fun h => by cases h.1)], rfl⟩
      | exact ⟨_, [_], _, rfl, pickA_perm (is := [3]) (As := [_]) rfl, rfl, by rw [freshE, hh, if_neg (fun h => by cases h.1)], rfl⟩
      | exact ⟨_, [_], _, rfl, pickA_perm (is := [4]) (As := [_]) rfl, rfl, by rw [freshE, hh, if_neg (fun h => by cases h.1)], rfl⟩
  | false =>
    repeat (first | refine sc rfl ?_ | refine so rfl ?_ | refine sb rfl ?_)
    refine O_case 32 rfl (fun k1 => ?_) (fun k1 => ?_) <;> simp only [decide_eq_true_eq, decide_eq_false_iff_not, Bool.not_eq_true', Bool.not_eq_false', beq_iff_eq, beq_eq_false_iff_ne, bne_iff_ne, ne_eq, bne_eq_false_iff_eq, Decidable.not_not] at k1
    · repeat (first | refine sc rfl ?_ | refine so rfl ?_ | refine sb rfl ?_)
      refine O_call (optional_c f) (by rfl) (by rfl) (by rfl) (by rfl) (fun r hr => ?_)
      subst hr
      repeat (first | refine sc rfl ?_ | refine so rfl ?_ | refine sb rfl ?_)
      refine C_if rfl (fun m1 => ?_) (fun m1 => ?_) <;> simp only [decide_eq_true_eq, decide_eq_false_iff_not, Bool.not_eq_true', Bool.not_eq_false', beq_iff_eq, beq_eq_false_iff_ne, bne_iff_ne, ne_eq, bne_eq_false_iff_eq, Decidable.not_not] at m1
      · repeat (first | refine sc rfl ?_ | refine so rfl ?_ | refine sb rfl ?_)
        first
          | exact ⟨_, [_], _, rfl, pickA_perm (is := [0]) (As := [_]) rfl, rfl, by rw [freshE, hh, if_pos ⟨rfl, k1, m1⟩], rfl⟩
          | exact ⟨_, [_], _, rfl, pickA_perm (is := [1]) (As := [_]) rfl, rfl, by rw [freshE, hh, if_pos ⟨rfl, k1, m1⟩], rfl⟩
          | exact ⟨_, [_], _, rfl, pickA_perm (is := [2]) (As := [_]) rfl, rfl, by rw [freshE, hh, if_pos ⟨rfl, k1, m1⟩], rfl⟩
          | exact ⟨_, [_], _, rfl, pickA_perm (is := [3]) (As := [_]) rfl, rfl, by rw [freshE, hh, if_pos ⟨rfl, k1, m1⟩], rfl⟩
          | exact ⟨_, [_], _, rfl, pickA_perm (is := [4]) (As := [_]) rfl, rfl, by rw [freshE, hh, if_pos ⟨rfl, k1, m1⟩], rfl⟩
      · repeat (first | refine sc rfl ?_ | refine so rfl ?_ | refine sb rfl ?_)
        first
          | exact ⟨_, [_], _, rfl, pickA_perm (is := [0]) (As := [_]) rfl, rfl, by rw [freshE, hh, if_neg (fun h => h.2.2 m1)], rfl⟩
          | exact ⟨_, [_], _, rfl, pickA_perm (is := [1]) (As := [_]) rfl, rfl, by rw [freshE, hh, if_neg (fun h => h.2.2 m1)], rfl⟩
          | exact ⟨_, [_], _, rfl, pickA_perm (is := [2]) (As := [_]) rfl, rfl, by rw [freshE, hh, if_neg (fun h => h.2.2 m1)], rfl⟩
          | exact ⟨_, [_], _, rfl, pickA_perm (is := [3]) (As := [_]) rfl, rfl, by rw [freshE, hh, if_neg (fun h => h.2.2 m1)], rfl⟩
          | exact ⟨_, [_], _, rfl, pickA_perm (is := [4]) (As := [_]) rfl, rfl, by rw [freshE, hh, if_neg (fun h => h.2.2 m1)], rfl⟩
    · repeat (first | refine sc rfl ?_ | refine so rfl ?_ | refine sb rfl ?_)
      refine C_false rfl rfl ?_
      repeat (first | refine sc rfl ?_ | refine so rfl ?_ | refine sb rfl ?_)
      first
        | exact ⟨_, [_], _, rfl, pickA_perm (is := [0]) (As := [_]) rfl, rfl, by rw [freshE, hh, if_neg (fun h => k1 h.2.1)], rfl⟩
        | exact ⟨_, [_], _, rfl, pickA_perm (is := [1]) (As := [_]) rfl, rfl, by rw [freshE, hh, if_neg (fun h => k1 h.2.1)], rfl⟩
        | exact ⟨_, [_], _, rfl, pickA_perm (is := [2]) (As := [_]) rfl, rfl, by rw [freshE, hh, if_neg (fun h => k1 h.2.1)], rfl⟩
        | exact ⟨_, [_], _, rfl, pickA_perm (is := [3]) (As := [_]) rfl, rfl, by rw [freshE, hh, if_neg (fun h => k1 h.2.1)], rfl⟩
        | exact ⟨_, [_], _, rfl, pickA_perm (is := [4]) (As := [_]) rfl, rfl, by rw [freshE, hh, if_neg (fun h => k1 h.2.1)], rfl⟩
end Go.Proofs

/- The symbolic walk, part 59: method values in drawn regions. -/
set_option linter.unusedSimpArgs false
set_option linter.unusedVariables false
namespace Go.Sy
open Go.RowKit
section
variable {P : Program} {T : Tab} {X : Ctx P T} {n : Nat} {e : Env} {st : St} {a : Act} {w : World} {ops : Array Oper} {K : St → Prop}

theorem X_makeBound {p : Pl} {f : FuncId} {fs : Array Operand} {favs : List AV} {d : Nat} {ty : TypeId} {pos : String} {aft : Array Edge} {gd : Option (Nat × Bool)} {j : Nat} {Si : List (Nat × AV)} {c : List Ch}
    (hg : guardA ops ⟨Si, c⟩ ⟨some d, .makeFunc (.func f) fs #[], ty, pos, aft, gd⟩ = some true) (ha : opds Si fs.toList = some favs) (himm : AV.imm.immL favs = true) (hd : Nat.blt d n = true) :
    StepX X n ops p Si c c j ⟨some d, .makeFunc (.func f) fs #[], ty, pos, aft, gd⟩ (.p (bndRP f favs)) :=
  StepX.val hg hd (fun e a w S r r' => by
    have h1 := RepT.toI favs himm (opds_sound r' ha)
    have hrun : (execOp a.eval ⟨some d, .makeFunc (.func f) fs #[], ty, pos, aft, gd⟩).run P w = .ok (.value (.func (.func f) (fs.map a.eval) #[])) w := by
      simp [execOp, Instr.makeFunc]
    exact ⟨_, w, e, hrun, r, by simp only [Rep]; exact ⟨_, rfl, by rw [map_eval]; exact h1⟩⟩)
end
end Go.Sy

/- Contracts of compat: the first fault of rows, the judge of a declaration. -/
set_option linter.unusedSimpArgs false
set_option linter.unusedVariables false
set_option maxRecDepth 100000
namespace Go.Proofs
open Go.Sy Go.Lib

theorem first_A (A : Abs) (R : List Fld) (hl : R.length ≤ 1000) (g : FuncId) (fs : List AV) (h : ∀ f, f ∈ R → FnA Tryz.prog g (fs ++ [.agg (Fld.c f)]) [A] (fun r cs' => r = I64 0 ∧ cs' = [A])) :
    FnA Tryz.prog 136 [SL 5 Fld.c R, .p (bndRP g fs)] [A] (fun r cs' => r = I64 0 ∧ cs' = [A]) := by
  refine FnA.intro Tryz.tabOK Tryz.wide_ Tryz.func136 rfl (by decide) rfl (fun X => ?_)
  repeat (first | refine sc rfl ?_ | refine so rfl ?_ | refine sb rfl ?_)
  refine C_loop (fun i : Nat => ⟨[(1, .p (bndRP g fs)), (8, SL 5 Fld.c R), (9, I64 (R.length : Nat)), (10, I64 (i : Nat))], [.abs A]⟩) (fun i => i ≤ R.length) (fun i => R.length - i) 0 (Nat.zero_le _) (Le.pick [0] ⟨rfl, rfl, rfl, rfl, trivial⟩ rfl) ?_
  intro i hi
  repeat (first | refine sc rfl ?_ | refine so rfl ?_ | refine sb rfl ?_)
  refine C_if rfl (fun m1 => ?_) (fun m1 => ?_) <;> simp only [decide_eq_true_eq, decide_eq_false_iff_not, Bool.not_eq_true', Bool.not_eq_false', beq_iff_eq, beq_eq_false_iff_ne, bne_iff_ne, ne_eq, bne_eq_false_iff_eq, Decidable.not_not] at m1
  · have hil : i < R.length := by omega
    repeat (first | refine sc rfl ?_ | refine so rfl ?_ | refine sb rfl ?_)
    refine ⟨by omega, ?_⟩
    rw [Int.toNat_natCast]
    repeat (first | refine sc rfl ?_ | refine so rfl ?_ | refine sb rfl ?_)
    first
      | refine O_callBound [0] (h _ (mem_getDf hil)) rfl rfl rfl rfl rfl rfl ?_
      | refine O_callBound [1] (h _ (mem_getDf hil)) rfl rfl rfl rfl rfl rfl ?_
    rintro r cs' ⟨rfl, rfl⟩
    repeat (first | refine sc rfl ?_ | refine so rfl ?_ | refine sb rfl ?_)
    refine C_false rfl rfl ?_
    repeat (first | refine sc rfl ?_ | refine so rfl ?_ | refine sb rfl ?_)
    rw [w64 (x := (i : Int) + 1) (by omega) (by omega)]
    first
      | exact ⟨i + 1, hil, by omega, Le.pick [0] ⟨rfl, rfl, rfl, rfl, trivial⟩ rfl⟩
      | exact ⟨i + 1, hil, by omega, Le.pick [1] ⟨rfl, rfl, rfl, rfl, trivial⟩ rfl⟩
  · repeat (first | refine sc rfl ?_ | refine so rfl ?_ | refine sb rfl ?_)
    first
      | exact ⟨_, [_], _, rfl, pickA_perm (is := [0]) (As := [_]) rfl, rfl, rfl, rfl⟩
      | exact ⟨_, [_], _, rfl, pickA_perm (is := [1]) (As := [_]) rfl, rfl, rfl, rfl⟩
      | exact ⟨_, [_], _, rfl, pickA_perm (is := [2]) (As := [_]) rfl, rfl, rfl, rfl⟩
      | exact ⟨_, [_], _, rfl, pickA_perm (is := [3]) (As := [_]) rfl, rfl, rfl, rfl⟩
      | exact ⟨_, [_], _, rfl, pickA_perm (is := [4]) (As := [_]) rfl, rfl, rfl, rfl⟩
theorem firstM_c (row : Nat → List AV) (x : RP) : FnP Tryz.prog 138 [.sl 0 5 row, .p x] (· = I64 0) := by
  refine FnP.intro Tryz.tabOK Tryz.wide_ Tryz.func138 rfl (by decide) rfl (fun X => ?_)
  repeat (first | refine sc rfl ?_ | refine so rfl ?_ | refine sb rfl ?_)
  refine C_loop (fun _ : Unit => ⟨[(9, I64 ((0 : Nat) : Int)), (10, I64 0)], []⟩) (fun _ => True) (fun _ => 0) () trivial (Le.sub [] ⟨rfl, rfl, trivial⟩ rfl) ?_
  intro _ _
  repeat (first | refine sc rfl ?_ | refine so rfl ?_ | refine sb rfl ?_)
  refine C_if rfl (fun m1 => ?_) (fun m1 => ?_) <;> simp only [decide_eq_true_eq, decide_eq_false_iff_not, Bool.not_eq_true', Bool.not_eq_false', beq_iff_eq, beq_eq_false_iff_ne, bne_iff_ne, ne_eq, bne_eq_false_iff_eq, Decidable.not_not] at m1
  · exact absurd m1 (by decide)
  · repeat (first | refine sc rfl ?_ | refine so rfl ?_ | refine sb rfl ?_)
    exact ⟨_, rfl, rfl, rfl⟩
end Go.Proofs

/- Contracts of compat: the judge of a declaration. -/
set_option linter.unusedSimpArgs false
set_option linter.unusedVariables false
set_option maxRecDepth 100000
namespace Go.Proofs
open Go.Sy Go.Lib

def PJ0 : Pl := ⟨[], [], [], []⟩

theorem fewU {l : List Dcl} {nm : List UInt8} (hP : Prep l) (hW : WellL l) (hex : ∃ Rs, RowsOK l Rs) : (rowsU l nm).length ≤ 1000 ∧ ∀ f, f ∈ rowsU l nm → FewT f.ty := by
  obtain ⟨Rs, hRs⟩ := hex
  rw [← rowsU_eq hW hRs]
  unfold rowsL
  cases hf : fndL nm l with
  | none => exact ⟨Nat.zero_le _, fun f h => by cases h⟩
  | some j =>
    have hj := fndL_lt hf
    have := (hRs.2 j hj).few (hP.few.2 j hj).f
    exact ⟨this.1, fun f h => by obtain ⟨i, hi, rfl⟩ := getD_mem h; exact this.2 i hi⟩

/-- All that is asked of two schemas so that the judge of a declaration finds no fault. -/
structure Fine (lo ln : List Dcl) (d : Dcl) : Prop where
  k0 : kindL ln d.name ≠ 0
  kd : kindL ln d.name = d.kind
  ro : ∀ f, f ∈ rowsU lo d.name → rowE (rowsU ln d.name) d f = 0
  ms : d.methods = []
  rn : ∀ f, f ∈ rowsU ln d.name → freshE (rowsU lo d.name) d f = 0

theorem jdecl_A (o n : Nat) (lo ln : List Dcl) (d : Dcl) (hPo : Prep lo) (hWo : WellL lo) (hPn : Prep ln) (hWn : WellL ln) (hfo : (rowsU lo d.name).length ≤ 1000 ∧ ∀ f, f ∈ rowsU lo d.name → FewT f.ty) (hfn : (rowsU ln d.name).length ≤ 1000) (hF : Fine lo ln d) :
    FnA Tryz.prog 85 [.cp (jdgC o n d)] [dscS o lo, dscS n ln] (fun r cs' => r = I64 0 ∧ cs' = [dscS o lo, dscS n ln]) := by
  obtain ⟨k0, kd, ro, ms, rn⟩ := hF
  obtain ⟨K, nm, F, M, ft⟩ := d
  obtain rfl : M = [] := ms
  refine FnA.intro Tryz.tabOK Tryz.wide_ Tryz.func85 rfl (by decide) rfl (fun X => ?_)
  repeat (first | refine sc rfl ?_ | refine so rfl ?_ | refine sb rfl ?_)
  refine C_drawM PJ0 (fun L => [.abs (dscS o lo), .abs (dscS n ln)]) rfl (by kernel_rfl) (fun L L' h => rfl) rfl ?_
  repeat (refine sm rfl ⟨trivial, ?_⟩)
  refine SM (I64 (kindL ln nm)) rfl (fun L h1 h2 h3 => ?_) ?_
  · show StepX _ _ _ _ _ [.abs (dscS o lo), .abs (dscS n ln)] [.abs (dscS o lo), .abs (dscS n ln)] _ _ _
    exact (X_callA [1] (DKind_S n ln hPn nm) rfl rfl rfl rfl rfl).perm (.swap _ _ _)
  refine sm rfl ?_
  show SymC _ _ _ ⟨_, [.abs (dscS o lo), .abs (dscS n ln)]⟩ _
  repeat (first | refine sc rfl ?_ | refine so rfl ?_ | refine sb rfl ?_)
  refine C_false rfl (by simpa using k0) ?_
  repeat (first | refine sc rfl ?_ | refine so rfl ?_ | refine sb rfl ?_)
  refine C_true rfl (by simpa using kd) ?_
  repeat (first | refine sc rfl ?_ | refine so rfl ?_ | refine sb rfl ?_)
  refine C_drawM PJ0 (fun L => [.abs (dscS o lo), .abs (dscS n ln)]) rfl (by kernel_rfl) (fun L L' h => rfl) rfl ?_
  repeat (refine sm rfl ⟨trivial, ?_⟩)
  refine SM (SL 5 Fld.c (rowsU lo nm)) rfl (fun L h1 h2 h3 => ?_) ?_
  · show StepX _ _ _ _ _ [.abs (dscS o lo), .abs (dscS n ln)] [.abs (dscS o lo), .abs (dscS n ln)] _ _ _
    exact X_callA [0] (DRows_S o lo hPo hWo nm) rfl rfl rfl rfl rfl
  repeat (refine sm rfl ⟨trivial, ?_⟩)
  refine SM (.p (bndRP 137 [.cp (jdgC o n ⟨K, nm, F, [], ft⟩)])) rfl (fun L h1 h2 h3 => X_makeBound rfl rfl rfl rfl) ?_
  refine SM (I64 0) rfl (fun L h1 h2 h3 => ?_) ?_
  · show StepX _ _ _ _ _ [.abs (dscS o lo), .abs (dscS n ln)] [.abs (dscS o lo), .abs (dscS n ln)] _ _ _
    exact (X_callA [1] (first_A (dscS n ln) (rowsU lo nm) hfo.1 137 [.cp (jdgC o n ⟨K, nm, F, [], ft⟩)] (fun f hf => (jrow_A o n ln hPn hWn _ f (hfo.2 f hf)).mono (fun r c h => ⟨by rw [h.1, ro f hf], h.2⟩))) rfl rfl rfl rfl rfl).perm (.swap _ _ _)
  repeat (refine sm rfl ⟨trivial, ?_⟩)
  refine sm rfl ?_
  show SymC _ _ _ ⟨_, [.abs (dscS o lo), .abs (dscS n ln)]⟩ _
  repeat (first | refine sc rfl ?_ | refine so rfl ?_ | refine sb rfl ?_)
  refine C_false rfl rfl ?_
  repeat (first | refine sc rfl ?_ | refine so rfl ?_ | refine sb rfl ?_)
  refine O_makeBound rfl rfl rfl rfl ?_
  repeat (first | refine sc rfl ?_ | refine so rfl ?_ | refine sb rfl ?_)
  refine O_call (firstM_c _ _) (by rfl) (by rfl) (by rfl) (by rfl) (fun r hr => ?_)
  subst hr
  repeat (first | refine sc rfl ?_ | refine so rfl ?_ | refine sb rfl ?_)
  refine C_false rfl rfl ?_
  repeat (first | refine sc rfl ?_ | refine so rfl ?_ | refine sb rfl ?_)
  refine C_drawM PJ0 (fun L => [.abs (dscS o lo), .abs (dscS n ln)]) rfl (by kernel_rfl) (fun L L' h => rfl) rfl ?_
  repeat (refine sm rfl ⟨trivial, ?_⟩)
  refine SM (SL 5 Fld.c (rowsU ln nm)) rfl (fun L h1 h2 h3 => ?_) ?_
  · show StepX _ _ _ _ _ [.abs (dscS o lo), .abs (dscS n ln)] [.abs (dscS o lo), .abs (dscS n ln)] _ _ _
    exact (X_callA [1] (DRows_S n ln hPn hWn nm) rfl rfl rfl rfl rfl).perm (.swap _ _ _)
  repeat (refine sm rfl ⟨trivial, ?_⟩)
  refine SM (.p (bndRP 140 [.cp (jdgC o n ⟨K, nm, F, [], ft⟩)])) rfl (fun L h1 h2 h3 => X_makeBound rfl rfl rfl rfl) ?_
  refine SM (I64 0) rfl (fun L h1 h2 h3 => ?_) ?_
  · show StepX _ _ _ _ _ [.abs (dscS o lo), .abs (dscS n ln)] [.abs (dscS o lo), .abs (dscS n ln)] _ _ _
    exact X_callA [0] (first_A (dscS o lo) (rowsU ln nm) hfn 140 [.cp (jdgC o n ⟨K, nm, F, [], ft⟩)] (fun f hf => (jfresh_A o n lo hPo hWo _ f).mono (fun r c h => ⟨by rw [h.1, rn f hf], h.2⟩))) rfl rfl rfl rfl rfl
  repeat (refine sm rfl ⟨trivial, ?_⟩)
  refine sm rfl ?_
  show SymC _ _ _ ⟨_, [.abs (dscS o lo), .abs (dscS n ln)]⟩ _
  repeat (first | refine sc rfl ?_ | refine so rfl ?_ | refine sb rfl ?_)
  exact ⟨_, [_, _], _, rfl, pickA_perm (is := [0, 0]) (As := [_, _]) rfl, rfl, rfl, rfl⟩
end Go.Proofs

/- Contracts of compat: Check, Gone. -/
set_option linter.unusedSimpArgs false
set_option linter.unusedVariables false
set_option maxRecDepth 100000
namespace Go.Proofs
open Go.Sy Go.Lib

theorem Check_A (o n : Nat) (lo ln : List Dcl) (hl : FewL lo) (hPo : Prep lo) (hWo : WellL lo) (hPn : Prep ln) (hWn : WellL ln) (hfo : ∀ nm, (rowsU lo nm).length ≤ 1000 ∧ ∀ f, f ∈ rowsU lo nm → FewT f.ty) (hfn : ∀ nm, (rowsU ln nm).length ≤ 1000)
    (hF : ∀ d, d ∈ lo → Fine lo ln d) : FnA Tryz.prog 35 [PT o 0, PT n 0] [dscS o lo, dscS n ln] (fun r cs' => r = .tup [I64 0, .s []] ∧ cs' = [dscS o lo, dscS n ln]) := by
  refine FnA.intro Tryz.tabOK Tryz.wide_ Tryz.func35 rfl (by decide) rfl (fun X => ?_)
  have hlen : lo.length ≤ 1000 := hl.1
  repeat (first | refine sc rfl ?_ | refine so rfl ?_ | refine sb rfl ?_)
  first
    | refine O_callA [0] (decls_S o lo hl) (by rfl) (by rfl) (by rfl) (by rfl) (by rfl) ?_
    | refine O_callA [1] (decls_S o lo hl) (by rfl) (by rfl) (by rfl) (by rfl) (by rfl) ?_
    | refine O_callA [2] (decls_S o lo hl) (by rfl) (by rfl) (by rfl) (by rfl) (by rfl) ?_
    | refine O_callA [3] (decls_S o lo hl) (by rfl) (by rfl) (by rfl) (by rfl) (by rfl) ?_
    | refine O_callA [4] (decls_S o lo hl) (by rfl) (by rfl) (by rfl) (by rfl) (by rfl) ?_
  rintro r cs' ⟨rfl, rfl⟩
  repeat (first | refine sc rfl ?_ | refine so rfl ?_ | refine sb rfl ?_)
  refine C_loop (fun i : Nat => ⟨[(0, PT o 0), (1, PT n 0), (11, SL 5 Dcl.c lo), (12, I64 (lo.length : Nat)), (13, I64 (i : Nat))], [.abs (dscS o lo), .abs (dscS n ln)]⟩) (fun i => i ≤ lo.length) (fun i => lo.length - i) 0 (Nat.zero_le _) (Le.pick [0, 0] ⟨rfl, rfl, rfl, rfl, rfl, trivial⟩ rfl) ?_
  intro i hi
  repeat (first | refine sc rfl ?_ | refine so rfl ?_ | refine sb rfl ?_)
  refine C_if rfl (fun m1 => ?_) (fun m1 => ?_) <;> simp only [decide_eq_true_eq, decide_eq_false_iff_not, Bool.not_eq_true', Bool.not_eq_false', beq_iff_eq, beq_eq_false_iff_ne, bne_iff_ne, ne_eq, bne_eq_false_iff_eq, Decidable.not_not] at m1
  · have hil : i < lo.length := by omega
    repeat (first | refine sc rfl ?_ | refine so rfl ?_ | refine sb rfl ?_)
    refine ⟨by omega, ?_⟩
    rw [Int.toNat_natCast]
    repeat (first | refine sc rfl ?_ | refine so rfl ?_ | refine sb rfl ?_)
    refine O_le _ (Le.freezebox 22 rfl rfl rfl) ?_
    have hd : lo.getD i default ∈ lo := by rw [getD_at hil]; exact List.getElem_mem hil
    first
      | refine O_callA [0, 0] (jdecl_A o n lo ln (lo.getD i default) hPo hWo hPn hWn (hfo _) (hfn _) (hF _ hd)) (by rfl) (by rfl) (by rfl) (by rfl) (by rfl) ?_
      | refine O_callA [1, 1] (jdecl_A o n lo ln (lo.getD i default) hPo hWo hPn hWn (hfo _) (hfn _) (hF _ hd)) (by rfl) (by rfl) (by rfl) (by rfl) (by rfl) ?_
      | refine O_callA [2, 2] (jdecl_A o n lo ln (lo.getD i default) hPo hWo hPn hWn (hfo _) (hfn _) (hF _ hd)) (by rfl) (by rfl) (by rfl) (by rfl) (by rfl) ?_
    rintro r cs' ⟨rfl, rfl⟩
    repeat (first | refine sc rfl ?_ | refine so rfl ?_ | refine sb rfl ?_)
    refine C_false rfl rfl ?_
    repeat (first | refine sc rfl ?_ | refine so rfl ?_ | refine sb rfl ?_)
    rw [w64 (x := (i : Int) + 1) (by omega) (by omega)]
    first
      | exact ⟨i + 1, hil, by omega, Le.pick [0, 0] ⟨rfl, rfl, rfl, rfl, rfl, trivial⟩ rfl⟩
      | exact ⟨i + 1, hil, by omega, Le.pick [1, 1] ⟨rfl, rfl, rfl, rfl, rfl, trivial⟩ rfl⟩
  · repeat (first | refine sc rfl ?_ | refine so rfl ?_ | refine sb rfl ?_)
    first
      | exact ⟨_, [_, _], _, rfl, pickA_perm (is := [0, 0]) (As := [_, _]) rfl, rfl, rfl, rfl⟩
      | exact ⟨_, [_, _], _, rfl, pickA_perm (is := [1, 1]) (As := [_, _]) rfl, rfl, rfl, rfl⟩

def goneF (R2 R : List Fld) : List Int := (R.filter (fun f => !hasJ R2 f.tag)).map (·.tag)
theorem goneF_snoc (R2 R : List Fld) (f : Fld) : goneF R2 (R ++ [f]) = goneF R2 R ++ (if hasJ R2 f.tag = true then [] else [f.tag]) := by
  unfold goneF
  cases h : hasJ R2 f.tag <;> simp [h]
theorem goneF_len (R2 R : List Fld) : (goneF R2 R).length ≤ R.length := by
  unfold goneF
  rw [List.length_map]
  exact List.length_filter_le _ _
theorem take_snoc {R : List Fld} {i : Nat} (h : i < R.length) : R.take (i + 1) = R.take i ++ [R.getD i default] := by
  rw [List.take_succ_eq_append_getElem h, getD_at h]

theorem Gone_A (o n : Nat) (lo ln : List Dcl) (hPo : Prep lo) (hWo : WellL lo) (hPn : Prep ln) (hWn : WellL ln) (nm : List UInt8) (hfo : (rowsU lo nm).length ≤ 1000) :
    FnA Tryz.prog 37 [PT o 0, PT n 0, .s nm] [dscS o lo, dscS n ln] (fun r cs' => r = SL 1 INTc (goneF (rowsU ln nm) (rowsU lo nm)) ∧ cs' = [dscS o lo, dscS n ln]) := by
  refine FnA.intro Tryz.tabOK Tryz.wide_ Tryz.func37 rfl (by decide) rfl (fun X => ?_)
  repeat (first | refine sc rfl ?_ | refine so rfl ?_ | refine sb rfl ?_)
  first
    | refine O_callA [0] (DRows_S o lo hPo hWo nm) (by rfl) (by rfl) (by rfl) (by rfl) (by rfl) ?_
    | refine O_callA [1] (DRows_S o lo hPo hWo nm) (by rfl) (by rfl) (by rfl) (by rfl) (by rfl) ?_
    | refine O_callA [2] (DRows_S o lo hPo hWo nm) (by rfl) (by rfl) (by rfl) (by rfl) (by rfl) ?_
    | refine O_callA [3] (DRows_S o lo hPo hWo nm) (by rfl) (by rfl) (by rfl) (by rfl) (by rfl) ?_
    | refine O_callA [4] (DRows_S o lo hPo hWo nm) (by rfl) (by rfl) (by rfl) (by rfl) (by rfl) ?_
  rintro r cs' ⟨rfl, rfl⟩
  generalize rowsU lo nm = R at *
  repeat (first | refine sc rfl ?_ | refine so rfl ?_ | refine sb rfl ?_)
  refine C_le _ (Le.nilvec INTc 7 34 3 1 rfl rfl rfl) ?_
  refine C_loop (fun i : Nat => ⟨[(0, PT o 0), (1, PT n 0), (2, .s nm), (7, .own 34), (14, SL 5 Fld.c R), (15, I64 (R.length : Nat)), (16, I64 (i : Nat))], [VEC 34 3 1 INTc (goneF (rowsU ln nm) (R.take i)), .abs (dscS o lo), .abs (dscS n ln)]⟩) (fun i => i ≤ R.length) (fun i => R.length - i) 0 (Nat.zero_le _) (Le.pick [0, 0, 0] ⟨rfl, rfl, rfl, rfl, rfl, rfl, rfl, trivial⟩ rfl) ?_
  intro i hi
  repeat (first | refine sc rfl ?_ | refine so rfl ?_ | refine sb rfl ?_)
  refine C_if rfl (fun m1 => ?_) (fun m1 => ?_) <;> simp only [decide_eq_true_eq, decide_eq_false_iff_not, Bool.not_eq_true', Bool.not_eq_false', beq_iff_eq, beq_eq_false_iff_ne, bne_iff_ne, ne_eq, bne_eq_false_iff_eq, Decidable.not_not] at m1
  · have hil : i < R.length := by omega
    have hg := goneF_len (rowsU ln nm) (R.take i)
    have hx := goneF_snoc (rowsU ln nm) (R.take i) (R.getD i default)
    rw [← take_snoc hil] at hx
    rw [List.length_take] at hg
    repeat (first | refine sc rfl ?_ | refine so rfl ?_ | refine sb rfl ?_)
    refine ⟨by omega, ?_⟩
    rw [Int.toNat_natCast]
    repeat (first | refine sc rfl ?_ | refine so rfl ?_ | refine sb rfl ?_)
    first
      | refine O_callA [0] (DRow_F n ln hPn hWn nm (R.getD i default).tag) (by rfl) (by rfl) (by rfl) (by rfl) (by rfl) ?_
      | refine O_callA [1] (DRow_F n ln hPn hWn nm (R.getD i default).tag) (by rfl) (by rfl) (by rfl) (by rfl) (by rfl) ?_
      | refine O_callA [2] (DRow_F n ln hPn hWn nm (R.getD i default).tag) (by rfl) (by rfl) (by rfl) (by rfl) (by rfl) ?_
      | refine O_callA [3] (DRow_F n ln hPn hWn nm (R.getD i default).tag) (by rfl) (by rfl) (by rfl) (by rfl) (by rfl) ?_
      | refine O_callA [4] (DRow_F n ln hPn hWn nm (R.getD i default).tag) (by rfl) (by rfl) (by rfl) (by rfl) (by rfl) ?_
    rintro r cs' ⟨rfl, rfl⟩
    repeat (first | refine sc rfl ?_ | refine so rfl ?_ | refine sb rfl ?_)
    cases hh : hasJ (rowsU ln nm) (R.getD i default).tag with
    | true =>
      refine C_false rfl rfl ?_
      rw [hh, if_pos rfl, List.append_nil] at hx
      repeat (first | refine sc rfl ?_ | refine so rfl ?_ | refine sb rfl ?_)
      rw [w64 (x := (i : Int) + 1) (by omega) (by omega)]
      refine ⟨i + 1, hil, by omega, ?_⟩
      rw [hx]
      exact Le.pick [3, 3, 1] ⟨rfl, rfl, rfl, rfl, rfl, rfl, rfl, trivial⟩ rfl
    | false =>
      refine C_true rfl rfl ?_
      rw [hh, if_neg (by decide)] at hx
      repeat (first | refine sc rfl ?_ | refine so rfl ?_ | refine sb rfl ?_)
      refine O_push INTc (goneF (rowsU ln nm) (R.take i)) (R.getD i default).tag [(0, PT o 0), (1, PT n 0), (2, .s nm), (14, SL 5 Fld.c R), (15, I64 (R.length : Nat)), (16, I64 (i : Nat))] rfl rfl rfl rfl rfl rfl rfl rfl rfl rfl ⟨rfl, rfl, rfl, rfl, rfl, rfl, trivial⟩ rfl rfl (by omega) (by simp only [maxLen]; omega) ?_
      rw [← hx]
      repeat (first | refine sc rfl ?_ | refine so rfl ?_ | refine sb rfl ?_)
      rw [w64 (x := (i : Int) + 1) (by omega) (by omega)]
      refine ⟨i + 1, hil, by omega, ?_⟩
      exact Le.pick [0, 4, 2] ⟨rfl, rfl, rfl, rfl, rfl, rfl, rfl, trivial⟩ rfl
  · obtain rfl : i = R.length := by omega
    rw [List.take_length]
    refine C_le _ (Le.freezeL 7 rfl rfl) ?_
    repeat (first | refine sc rfl ?_ | refine so rfl ?_ | refine sb rfl ?_)
    exact ⟨_, [_, _], _, rfl, pickA_perm (is := [0, 0]) (As := [_, _]) rfl, rfl, rfl, rfl⟩
end Go.Proofs
