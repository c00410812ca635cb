/- Contracts of lex: word, number, note, one. -/
import Derived.Test.YtgmdpfoccnalnaaGreatE8
import Derived.Test.YtgmdpfoccnalnaaGreatE5
import Derived.Test.YtgmdpfoccnalnaaGreatE4
set_option linter.unusedSimpArgs false
set_option linter.unusedVariables false
set_option maxRecDepth 100000
namespace Go.Proofs
open Go.Sy Go.Lib

def numF : List UInt8 → Int → Int
  | [], n => n
  | c :: l, n => numF l (10 * n + ((c.toNat : Int) - 48))

def wordF (s : List UInt8) (i : Nat) : Int × Nat × List Tok :=
  let w := (s.drop i).takeWhile innB
  if 16 < w.length then (6, i + w.length, []) else (0, i + w.length, [⟨1, w, 0, (i : Nat)⟩])
def nmbF (s : List UInt8) (i : Nat) : Int × Nat × List Tok :=
  let w := (s.drop i).takeWhile digB
  if 1 < w.length ∧ w.getD 0 0 = 48 then (1, i + w.length, []) else if 4 < w.length then (3, i + w.length, []) else (0, i + w.length, [⟨2, w, numF w 0, (i : Nat)⟩])

def LexP (b : Nat) (s : List UInt8) (ts : List Tok) (q : Int × Nat × List Tok) (r : AV) (cs' : List Abs) : Prop :=
  r = I64 q.1 ∧ ∃ h', cs' = [lexA b s q.2.1 h', tokA h' (ts ++ q.2.2)]

theorem word_A (b : Nat) (s : List UInt8) (i : Nat) (h : Value) (ts : List Tok) (hl : ts.length ≤ 100000) (hi : i ≤ s.length) (hs : s.length ≤ 1024) :
    FnA Tryz.prog 242 [PT b 0] [lexA b s i h, tokA h ts] (LexP b s ts (wordF s i)) := by
  refine FnA.intro Tryz.tabOK Tryz.wide_ Tryz.func242 rfl (by decide) rfl (fun X => ?_)
  repeat (first|refine sc rfl ?_|refine so rfl ?_|refine sb rfl ?_)
  refine O_loadP 0 (reads_box 1) rfl rfl rfl rfl rfl rfl ?_
  repeat (first|refine sc rfl ?_|refine so rfl ?_|refine sb rfl ?_)
  refine O_callA [0] (while_A 274 innB inner_c b s i h hi hs) (by rfl) (by rfl) (by rfl) (by rfl) (by rfl) ?_
  rintro r cs' ⟨rfl, rfl⟩
  repeat (first|refine sc rfl ?_|refine so rfl ?_|refine sb rfl ?_)
  refine C_if rfl (fun m1 => ?_) (fun m1 => ?_) <;> simp only [pL] at m1
  · repeat (first|refine sc rfl ?_|refine so rfl ?_|refine sb rfl ?_)
    refine ⟨_, [_, _], _, rfl, .refl _, rfl, ?_⟩
    unfold wordF
    simp only []
    rw [if_pos (by omega)]
    exact ⟨rfl, h, by rw [List.append_nil]⟩
  · repeat (first|refine sc rfl ?_|refine so rfl ?_|refine sb rfl ?_)
    refine O_callA [0, 0] (put_A b s _ h ts hl 1 _ 0 (i : Nat)) (by rfl) (by rfl) (by rfl) (by rfl) (by rfl) ?_
    rintro r cs' ⟨rfl, h', rfl⟩
    repeat (first|refine sc rfl ?_|refine so rfl ?_|refine sb rfl ?_)
    refine ⟨_, [_, _], _, rfl, .refl _, rfl, ?_⟩
    unfold wordF
    simp only []
    rw [if_neg (by omega)]
    exact ⟨rfl, h', rfl⟩

theorem tw_dig : ∀ (l : List UInt8) (j : Nat), j < (l.takeWhile digB).length → digB ((l.takeWhile digB).getD j 0) = true
  | [], j, h => by simp at h
  | c :: l, j, h => by
    rw [List.takeWhile_cons] at h ⊢
    cases hc : digB c with
    | false => rw [hc] at h; simp at h
    | true =>
      rw [hc] at h
      simp only [if_true] at h ⊢
      cases j with
      | zero => simpa using hc
      | succ j => simpa using tw_dig l j (by simpa using h)

theorem numF_snoc (c : UInt8) : ∀ (l : List UInt8) (n : Int), numF (l ++ [c]) n = 10 * numF l n + ((c.toNat : Int) - 48)
  | [], n => rfl
  | d :: l, n => numF_snoc c l _
theorem numF_le : ∀ (l : List UInt8) (n : Int), (∀ c ∈ l, digB c = true) → 0 ≤ n → 0 ≤ numF l n ∧ numF l n + 1 ≤ (n + 1) * 10 ^ l.length
  | [], n, _, h0 => by simp only [numF, List.length_nil]; omega
  | c :: l, n, hd, h0 => by
    have hc := hd c (by simp)
    simp only [digB, Bool.and_eq_true, decide_eq_true_eq] at hc
    have := numF_le l (10 * n + ((c.toNat : Int) - 48)) (fun d h => hd d (by simp [h])) (by omega)
    refine ⟨this.1, Int.le_trans this.2 ?_⟩
    rw [List.length_cons, Int.pow_succ, Int.mul_comm (10 ^ l.length) 10, ← Int.mul_assoc]
    exact Int.mul_le_mul_of_nonneg_right (by omega) (Int.pow_nonneg (by omega))
theorem numF_bound (l : List UInt8) (hd : ∀ c ∈ l, digB c = true) (h4 : l.length ≤ 4) : 0 ≤ numF l 0 ∧ numF l 0 ≤ 9999 := by
  have h := numF_le l 0 hd (by omega)
  refine ⟨h.1, ?_⟩
  have h2 := h.2
  match hl : l.length, h4 with
  | 0, _ => rw [hl] at h2; omega
  | 1, _ => rw [hl] at h2; omega
  | 2, _ => rw [hl] at h2; omega
  | 3, _ => rw [hl] at h2; omega
  | 4, _ => rw [hl] at h2; omega
theorem digit_take {w : List UInt8} (h : ∀ j, j < w.length → digB (w.getD j 0) = true) {k : Nat} {c : UInt8} (hc : c ∈ w.take k) : digB c = true := by
  have := List.mem_of_mem_take hc
  obtain ⟨j, hj, rfl⟩ := List.mem_iff_getElem.1 this
  have := h j hj
  rwa [List.getD_eq_getElem?_getD, List.getElem?_eq_getElem hj] at this
theorem numF_step {w : List UInt8} {k : Nat} (hk : k < w.length) (hd : digB (w.getD k 0) = true) : numF (w.take (k + 1)) 0 = 10 * numF (w.take k) 0 + (((w.getD k 0).toNat : Int) - 48) ∧ 48 ≤ (w.getD k 0).toNat ∧ (w.getD k 0).toNat ≤ 57 := by
  simp only [digB, Bool.and_eq_true, decide_eq_true_eq] at hd
  refine ⟨?_, hd⟩
  rw [List.take_add_one, List.getElem?_eq_getElem hk, Option.toList_some, numF_snoc, List.getD_eq_getElem?_getD, List.getElem?_eq_getElem hk]
  rfl

theorem u8_48 {c : UInt8} (h : (c.toNat : Int) = 48) : c = 48 := UInt8.toNat.inj (by show c.toNat = 48; omega)

theorem number_A (b : Nat) (s : List UInt8) (i : Nat) (h : Value) (ts : List Tok) (hl : ts.length ≤ 100000) (hi : i ≤ s.length) (hs : s.length ≤ 1024) :
    FnA Tryz.prog 244 [PT b 0] [lexA b s i h, tokA h ts] (LexP b s ts (nmbF s i)) := by
  refine FnA.intro Tryz.tabOK Tryz.wide_ Tryz.func244 rfl (by decide) rfl (fun X => ?_)
  repeat (first|refine sc rfl ?_|refine so rfl ?_|refine sb rfl ?_)
  refine O_loadP 0 (reads_box 1) rfl rfl rfl rfl rfl rfl ?_
  repeat (first|refine sc rfl ?_|refine so rfl ?_|refine sb rfl ?_)
  refine O_callA [0] (while_A 243 digB digit_c b s i h hi hs) (by rfl) (by rfl) (by rfl) (by rfl) (by rfl) ?_
  rintro r cs' ⟨rfl, rfl⟩
  have hdig : ∀ j, j < ((s.drop i).takeWhile digB).length → digB (((s.drop i).takeWhile digB).getD j 0) = true := tw_dig _
  have hwl : ((s.drop i).takeWhile digB).length ≤ 1024 := Nat.le_trans (List.takeWhile_sublist _).length_le (by rw [List.length_drop]; omega)
  unfold nmbF
  simp only []
  generalize (s.drop i).takeWhile digB = w at *
  repeat (first|refine sc rfl ?_|refine so rfl ?_|refine sb rfl ?_)
  refine O_case 17 rfl (fun m1 => ?_) (fun m1 => ?_) <;> simp only [pL] at m1
  rotate_left
  · repeat (first|refine sc rfl ?_|refine so rfl ?_|refine sb rfl ?_)
    refine C_false rfl rfl ?_
    repeat (first|refine sc rfl ?_|refine so rfl ?_|refine sb rfl ?_)
    have hn1 : ¬(1 < w.length ∧ w.getD 0 0 = 48) := by omega
    have hn2 : ¬ 4 < w.length := by omega
    rw [if_neg hn1, if_neg hn2]
    refine C_false rfl (by simp; omega) ?_
    repeat (first|refine sc rfl ?_|refine so rfl ?_|refine sb rfl ?_)
    refine C_loop (fun k : Nat => ⟨[(0, PT b 0), (3, I64 (i : Nat)), (4, .s w), (5, I64 (numF (w.take k) 0)), (27, I64 (w.length : Nat)), (28, I64 (k : Nat))], [.abs (lexA b s (i + w.length) h), .abs (tokA h ts)]⟩) (fun k => k ≤ w.length) (fun k => w.length - k) 0 (Nat.zero_le _) (Le.pick [0, 0] ⟨rfl, rfl, rfl, rfl, rfl, rfl, trivial⟩ rfl) ?_
    intro k hk
    repeat (first|refine sc rfl ?_|refine so rfl ?_|refine sb rfl ?_)
    refine C_if rfl (fun m2 => ?_) (fun m2 => ?_) <;> simp only [pL] at m2
    · have hkl : k < w.length := by omega
      have hd := hdig k hkl
      have hb := numF_bound (w.take k) (fun c hc => digit_take hdig hc) (by rw [List.length_take]; omega)
      obtain ⟨hs1, hd1, hd2⟩ := numF_step hkl hd
      repeat (first|refine sc rfl ?_|refine so rfl ?_|refine sb rfl ?_)
      refine ⟨by omega, ?_⟩
      rw [Int.toNat_natCast]
      repeat (first|refine sc rfl ?_|refine so rfl ?_|refine sb rfl ?_)
      have e8 : IntKind.u8.wrap (((w.getD k 0).toNat : Int) - 48) = ((w.getD k 0).toNat : Int) - 48 := w8 (by omega) (by omega)
      have e1 : IntKind.i64.wrap (IntKind.i64.wrap (10 * numF (List.take k w) 0) + IntKind.i64.wrap (IntKind.u8.wrap (((w.getD k 0).toNat : Int) - 48))) = numF (w.take (k + 1)) 0 := by
        rw [e8, w64 (x := 10 * numF (List.take k w) 0) (by omega) (by omega), w64 (x := ((w.getD k 0).toNat : Int) - 48) (by omega) (by omega), w64 (by omega) (by omega), hs1]
      rw [e1, w64 (x := (k : Int) + 1) (by omega) (by omega)]
      exact ⟨k + 1, hkl, by omega, Le.pick [0, 0] ⟨rfl, rfl, rfl, rfl, rfl, rfl, trivial⟩ rfl⟩
    · obtain rfl : k = w.length := by omega
      rw [List.take_length]
      repeat (first|refine sc rfl ?_|refine so rfl ?_|refine sb rfl ?_)
      refine O_callA [0, 0] (put_A b s _ h ts hl 2 w _ (i : Nat)) (by rfl) (by rfl) (by rfl) (by rfl) (by rfl) ?_
      rintro r cs' ⟨rfl, h', rfl⟩
      repeat (first|refine sc rfl ?_|refine so rfl ?_|refine sb rfl ?_)
      exact ⟨_, [_, _], _, rfl, .refl _, rfl, rfl, h', rfl⟩
  · repeat (first|refine sc rfl ?_|refine so rfl ?_|refine sb rfl ?_)
    refine ⟨by omega, ?_⟩
    repeat (first|refine sc rfl ?_|refine so rfl ?_|refine sb rfl ?_)
    refine C_if rfl (fun m3 => ?_) (fun m3 => ?_) <;> simp only [pL] at m3
    · repeat (first|refine sc rfl ?_|refine so rfl ?_|refine sb rfl ?_)
      have hn1 : 1 < w.length ∧ w.getD 0 0 = 48 := ⟨by omega, u8_48 m3⟩
      rw [if_pos hn1]
      exact ⟨_, [_, _], _, rfl, .refl _, rfl, rfl, h, by rw [List.append_nil]⟩
    have hn1 : ¬(1 < w.length ∧ w.getD 0 0 = 48) := fun hh => m3 (by have h0 : (w.getD (Int.toNat 0) 0) = w.getD 0 0 := rfl; rw [h0, hh.2]; rfl)
    rw [if_neg hn1]
    repeat (first|refine sc rfl ?_|refine so rfl ?_|refine sb rfl ?_)
    refine C_if rfl (fun m4 => ?_) (fun m4 => ?_) <;> simp only [pL] at m4
    · repeat (first|refine sc rfl ?_|refine so rfl ?_|refine sb rfl ?_)
      rw [if_pos (by omega)]
      exact ⟨_, [_, _], _, rfl, .refl _, rfl, rfl, h, by rw [List.append_nil]⟩
    rw [if_neg (by omega)]
    repeat (first|refine sc rfl ?_|refine so rfl ?_|refine sb rfl ?_)
    refine C_loop (fun k : Nat => ⟨[(0, PT b 0), (3, I64 (i : Nat)), (4, .s w), (5, I64 (numF (w.take k) 0)), (27, I64 (w.length : Nat)), (28, I64 (k : Nat))], [.abs (lexA b s (i + w.length) h), .abs (tokA h ts)]⟩) (fun k => k ≤ w.length) (fun k => w.length - k) 0 (Nat.zero_le _) (Le.pick [0, 0] ⟨rfl, rfl, rfl, rfl, rfl, rfl, trivial⟩ rfl) ?_
    intro k hk
    repeat (first|refine sc rfl ?_|refine so rfl ?_|refine sb rfl ?_)
    refine C_if rfl (fun m2 => ?_) (fun m2 => ?_) <;> simp only [pL] at m2
    · have hkl : k < w.length := by omega
      have hd := hdig k hkl
      have hb := numF_bound (w.take k) (fun c hc => digit_take hdig hc) (by rw [List.length_take]; omega)
      obtain ⟨hs1, hd1, hd2⟩ := numF_step hkl hd
      repeat (first|refine sc rfl ?_|refine so rfl ?_|refine sb rfl ?_)
      refine ⟨by omega, ?_⟩
      rw [Int.toNat_natCast]
      repeat (first|refine sc rfl ?_|refine so rfl ?_|refine sb rfl ?_)
      have e8 : IntKind.u8.wrap (((w.getD k 0).toNat : Int) - 48) = ((w.getD k 0).toNat : Int) - 48 := w8 (by omega) (by omega)
      have e1 : IntKind.i64.wrap (IntKind.i64.wrap (10 * numF (List.take k w) 0) + IntKind.i64.wrap (IntKind.u8.wrap (((w.getD k 0).toNat : Int) - 48))) = numF (w.take (k + 1)) 0 := by
        rw [e8, w64 (x := 10 * numF (List.take k w) 0) (by omega) (by omega), w64 (x := ((w.getD k 0).toNat : Int) - 48) (by omega) (by omega), w64 (by omega) (by omega), hs1]
      rw [e1, w64 (x := (k : Int) + 1) (by omega) (by omega)]
      exact ⟨k + 1, hkl, by omega, Le.pick [0, 0] ⟨rfl, rfl, rfl, rfl, rfl, rfl, trivial⟩ rfl⟩
    · obtain rfl : k = w.length := by omega
      rw [List.take_length]
      repeat (first|refine sc rfl ?_|refine so rfl ?_|refine sb rfl ?_)
      refine O_callA [0, 0] (put_A b s _ h ts hl 2 w _ (i : Nat)) (by rfl) (by rfl) (by rfl) (by rfl) (by rfl) ?_
      rintro r cs' ⟨rfl, h', rfl⟩
      repeat (first|refine sc rfl ?_|refine so rfl ?_|refine sb rfl ?_)
      exact ⟨_, [_, _], _, rfl, .refl _, rfl, rfl, h', rfl⟩

theorem isPre_take : ∀ (p s : List UInt8), p.isPrefixOf s = decide (p.length ≤ s.length ∧ s.take p.length = p)
  | [], s => by simp
  | c :: p, [] => by simp
  | c :: p, d :: s => by
    simp only [List.isPrefixOf, isPre_take p s, List.length_cons, List.take_succ_cons]
    rw [Bool.eq_iff_iff]
    simp only [Bool.and_eq_true, beq_iff_eq, decide_eq_true_eq, List.cons.injEq]
    constructor
    · rintro ⟨rfl, h1, h2⟩; exact ⟨by omega, rfl, h2⟩
    · rintro ⟨h1, h2, h3⟩; exact ⟨h2.symm, by omega, h3⟩
theorem HasPrefix2_c (s p : List UInt8) : FnP Tryz.prog 299 [.s s, .s p] (· = B (p.isPrefixOf s)) := by
  refine FnP.intro Tryz.tabOK Tryz.wide_ Tryz.func299 rfl (by decide) rfl (fun X => ?_)
  rw [isPre_take]
  repeat (first|refine sc rfl ?_|refine so rfl ?_|refine sb rfl ?_)
  refine O_case 10 rfl (fun m1 => ?_) (fun m1 => ?_) <;> simp only [pL] at m1
  · repeat (first|refine sc rfl ?_|refine so rfl ?_|refine sb rfl ?_)
    refine ⟨by omega, ?_⟩
    repeat (first|refine sc rfl ?_|refine so rfl ?_|refine sb rfl ?_)
    refine ⟨_, rfl, rfl, congrArg B ?_⟩
    rw [Int.toNat_natCast, Bool.eq_iff_iff]
    have hle : p.length ≤ s.length := by omega
    simp [hle]
  · repeat (first|refine sc rfl ?_|refine so rfl ?_|refine sb rfl ?_)
    refine ⟨_, rfl, rfl, congrArg B ?_⟩
    rw [decide_eq_false (by omega)]

theorem HasPrefix_c (s p : List UInt8) : FnP Tryz.prog 275 [.s s, .s p] (· = B (p.isPrefixOf s)) := by
  refine FnP.intro Tryz.tabOK Tryz.wide_ Tryz.func275 rfl (by decide) rfl (fun X => ?_)
  repeat (first|refine sc rfl ?_|refine so rfl ?_|refine sb rfl ?_)
  refine O_call (HasPrefix2_c s p) (by rfl) (by rfl) (by rfl) (by rfl) (fun r hr => ?_)
  subst hr
  repeat (first|refine sc rfl ?_|refine so rfl ?_|refine sb rfl ?_)
  exact ⟨_, rfl, rfl, rfl⟩
end Go.Proofs

namespace Go.Proofs
open Go.Sy Go.Lib

def slashes : List UInt8 := [47, 47]
def signsL : List UInt8 := [123, 125, 40, 41, 60, 62, 58, 59, 44, 63]
def oneF (s : List UInt8) (i : Nat) : Int × Nat × List Tok :=
  let c := s.getD i 0
  if letB c then wordF s i else if digB c then nmbF s i else
  if c.toNat = 47 then (if slashes.isPrefixOf (s.drop i) then (0, i + ((s.drop i).takeWhile nteB).length, []) else (5, i, [])) else
  if c.toNat = 32 ∨ c.toNat = 9 ∨ c.toNat = 10 ∨ c.toNat = 13 then (0, i + 1, []) else
  if Lib.indexByte signsL c < 0 then (5, i, []) else (0, i + 1, [⟨3, [c], 0, (i : Nat)⟩])

theorem note_A (b : Nat) (s : List UInt8) (i : Nat) (h : Value) (hi : i ≤ s.length) (hs : s.length ≤ 1024) :
    FnA Tryz.prog 245 [PT b 0] [lexA b s i h] (fun r cs' => r = B (slashes.isPrefixOf (s.drop i)) ∧ cs' = [lexA b s (if slashes.isPrefixOf (s.drop i) then i + ((s.drop i).takeWhile nteB).length else i) h]) := by
  refine FnA.intro Tryz.tabOK Tryz.wide_ Tryz.func245 rfl (by decide) rfl (fun X => ?_)
  repeat (first|refine sc rfl ?_|refine so rfl ?_|refine sb rfl ?_)
  refine C_drawD rfl (by kernel_rfl) ?_
  repeat (first|refine sd rfl ?_|refine sdb rfl ?_|refine sds rfl ?_)
  refine D_X (.s s) (X_loadP 0 (reads_box 0) rfl rfl rfl rfl rfl rfl) ?_
  repeat (first|refine sd rfl ?_|refine sdb rfl ?_|refine sds rfl ?_)
  refine D_X (I64 (i : Nat)) (X_loadP 0 (reads_box 1) rfl rfl rfl rfl rfl rfl) ?_
  repeat (first|refine sd rfl ?_|refine sdb rfl ?_|refine sds rfl ?_)
  refine ⟨by omega, ?_⟩
  rw [Int.toNat_natCast]
  refine D_call (HasPrefix_c (s.drop i) slashes) rfl rfl rfl rfl ?_
  repeat (first|refine sd rfl ?_|refine sdb rfl ?_|refine sds rfl ?_)
  repeat (first|refine sc rfl ?_|refine so rfl ?_|refine sb rfl ?_)
  cases hp : slashes.isPrefixOf (s.drop i) with
  | true =>
    refine C_false rfl rfl ?_
    repeat (first|refine sc rfl ?_|refine so rfl ?_|refine sb rfl ?_)
    refine O_callA [0] (while_A 276 nteB note1_c b s i h hi hs) (by rfl) (by rfl) (by rfl) (by rfl) (by rfl) ?_
    rintro r cs' ⟨rfl, rfl⟩
    repeat (first|refine sc rfl ?_|refine so rfl ?_|refine sb rfl ?_)
    exact ⟨_, [_], _, rfl, .refl _, rfl, rfl, rfl⟩
  | false =>
    refine C_true rfl rfl ?_
    repeat (first|refine sc rfl ?_|refine so rfl ?_|refine sb rfl ?_)
    exact ⟨_, [_], _, rfl, .refl _, rfl, rfl, rfl⟩

theorem IndexByte_c (s : List UInt8) (c : UInt8) : FnP Tryz.prog 246 [.s s, U8 c] (· = I64 (Lib.indexByte s c)) := by
  refine FnP.ofCalls (vs := [S s, .int .u8 (c.toNat : Int)]) (v := .int .i64 (Lib.indexByte s c)) ⟨_, Tryz.func246, rfl, by decide⟩ rfl rfl (fun G => by simp only [RepI]) (fun w => ?_)
  have h := Tryz.strings_IndexByte ⟨s.toArray⟩ (c.toNat : Int) w
  refine h.mono ?_
  rintro e w' ⟨rfl, rfl⟩
  refine ⟨?_, ⟨rfl, rfl, rfl, Nat.le_refl _, fun _ _ => rfl⟩⟩
  have : ((c.toNat : Int).toNat).toUInt8 = c := by simp
  rw [this]

theorem one_A (b : Nat) (s : List UInt8) (i : Nat) (h : Value) (ts : List Tok) (hl : ts.length ≤ 100000) (hi : i < s.length) (hs : s.length ≤ 1024) :
    FnA Tryz.prog 181 [PT b 0] [lexA b s i h, tokA h ts] (LexP b s ts (oneF s i)) := by
  refine FnA.intro Tryz.tabOK Tryz.wide_ Tryz.func181 rfl (by decide) rfl (fun X => ?_)
  repeat (first|refine sc rfl ?_|refine so rfl ?_|refine sb rfl ?_)
  refine C_drawD rfl (by kernel_rfl) ?_
  repeat (first|refine sd rfl ?_|refine sdb rfl ?_|refine sds rfl ?_)
  refine D_X (.s s) (X_loadP 0 (reads_box 0) rfl rfl rfl rfl rfl rfl) ?_
  repeat (first|refine sd rfl ?_|refine sdb rfl ?_|refine sds rfl ?_)
  refine D_X (I64 (i : Nat)) (X_loadP 0 (reads_box 1) rfl rfl rfl rfl rfl rfl) ?_
  repeat (first|refine sd rfl ?_|refine sdb rfl ?_|refine sds rfl ?_)
  refine ⟨by omega, ?_⟩
  rw [Int.toNat_natCast]
  repeat (first|refine sd rfl ?_|refine sdb rfl ?_|refine sds rfl ?_)
  repeat (first|refine sc rfl ?_|refine so rfl ?_|refine sb rfl ?_)
  have hF : oneF s i = (let c := s.getD i 0
    if letB c then wordF s i else if digB c then nmbF s i else
      if c.toNat = 47 then (if slashes.isPrefixOf (s.drop i) then (0, i + ((s.drop i).takeWhile nteB).length, []) else (5, i, [])) else
      if c.toNat = 32 ∨ c.toNat = 9 ∨ c.toNat = 10 ∨ c.toNat = 13 then (0, i + 1, []) else
      if Lib.indexByte signsL c < 0 then (5, i, []) else (0, i + 1, [⟨3, [c], 0, (i : Nat)⟩])) := rfl
  simp only [] at hF
  have hci : (s.drop i).take 1 = [s.getD i 0] := by
    rw [List.getD_eq_getElem?_getD, List.getElem?_eq_getElem hi, List.take_one, List.head?_drop, List.getElem?_eq_getElem hi]; rfl
  generalize hc : s.getD i 0 = c at hF hci ⊢
  refine O_call (letter_c c) (by rfl) (by rfl) (by rfl) (by rfl) (fun r hr => ?_)
  subst hr
  repeat (first|refine sc rfl ?_|refine so rfl ?_|refine sb rfl ?_)
  cases h1 : letB c with
  | true =>
    refine C_true rfl rfl ?_
    repeat (first|refine sc rfl ?_|refine so rfl ?_|refine sb rfl ?_)
    refine O_callA [0, 0] (word_A b s i h ts hl (by omega) hs) (by rfl) (by rfl) (by rfl) (by rfl) (by rfl) ?_
    rintro r cs' ⟨rfl, h', rfl⟩
    repeat (first|refine sc rfl ?_|refine so rfl ?_|refine sb rfl ?_)
    exact ⟨_, [_, _], _, rfl, .refl _, rfl, by rw [hF]; simp only [h1, if_true]; exact ⟨rfl, h', rfl⟩⟩
  | false =>
  refine C_false rfl rfl ?_
  repeat (first|refine sc rfl ?_|refine so rfl ?_|refine sb rfl ?_)
  refine O_call (digit_c c) (by rfl) (by rfl) (by rfl) (by rfl) (fun r hr => ?_)
  subst hr
  repeat (first|refine sc rfl ?_|refine so rfl ?_|refine sb rfl ?_)
  cases h2 : digB c with
  | true =>
    refine C_true rfl rfl ?_
    repeat (first|refine sc rfl ?_|refine so rfl ?_|refine sb rfl ?_)
    refine O_callA [0, 0] (number_A b s i h ts hl (by omega) hs) (by rfl) (by rfl) (by rfl) (by rfl) (by rfl) ?_
    rintro r cs' ⟨rfl, h', rfl⟩
    repeat (first|refine sc rfl ?_|refine so rfl ?_|refine sb rfl ?_)
    exact ⟨_, [_, _], _, rfl, .refl _, rfl, by rw [hF]; simp only [h1, h2, Bool.false_eq_true, if_false, if_true]; exact ⟨rfl, h', rfl⟩⟩
  | false =>
  refine C_false rfl rfl ?_
  repeat (first|refine sc rfl ?_|refine so rfl ?_|refine sb rfl ?_)
  refine C_if rfl (fun m1 => ?_) (fun m1 => ?_) <;> simp only [pL] at m1
  · have n1 : c.toNat = 47 := by omega
    repeat (first|refine sc rfl ?_|refine so rfl ?_|refine sb rfl ?_)
    refine O_callA [0] (note_A b s i h (by omega) hs) (by rfl) (by rfl) (by rfl) (by rfl) (by rfl) ?_
    rintro r cs' ⟨rfl, rfl⟩
    repeat (first|refine sc rfl ?_|refine so rfl ?_|refine sb rfl ?_)
    cases hp : slashes.isPrefixOf (s.drop i) with
    | true =>
      refine C_false rfl rfl ?_
      repeat (first|refine sc rfl ?_|refine so rfl ?_|refine sb rfl ?_)
      exact ⟨_, [_, _], _, rfl, .refl _, rfl, by rw [hF]; simp only [h1, h2, n1, hp, Bool.false_eq_true, if_false, if_true]; exact ⟨rfl, h, by rw [List.append_nil]⟩⟩
    | false =>
      refine C_true rfl rfl ?_
      repeat (first|refine sc rfl ?_|refine so rfl ?_|refine sb rfl ?_)
      exact ⟨_, [_, _], _, rfl, .refl _, rfl, by rw [hF]; simp only [h1, h2, n1, hp, Bool.false_eq_true, if_false, if_true]; exact ⟨rfl, h, by rw [List.append_nil]⟩⟩
  have n1 : ¬ c.toNat = 47 := by omega
  repeat (first|refine sc rfl ?_|refine so rfl ?_|refine sb rfl ?_)
  refine C_if rfl (fun m2 => ?_) (fun m2 => ?_) <;> simp only [pL] at m2
  · have nb : (c.toNat = 32 ∨ c.toNat = 9 ∨ c.toNat = 10 ∨ c.toNat = 13) = True := eq_true (by omega)
    repeat (first|refine sc rfl ?_|refine so rfl ?_|refine sb rfl ?_)
    refine O_loadP 0 (reads_box 1) rfl rfl rfl rfl rfl rfl ?_
    repeat (first|refine sc rfl ?_|refine so rfl ?_|refine sb rfl ?_)
    refine O_Xn (X_storeP 0 (writes_box (by show 1 < 3; decide)) rfl rfl rfl rfl rfl rfl rfl) ?_
    repeat (first|refine sc rfl ?_|refine so rfl ?_|refine sb rfl ?_)
    rw [w64 (x := (i : Int) + 1) (by omega) (by omega)]
    exact ⟨_, [lexA b s (i + 1) h, tokA h ts], _, rfl, .refl _, rfl, by rw [hF]; simp only [h1, h2, n1, nb, Bool.false_eq_true, if_false, if_true]; exact ⟨rfl, h, by rw [List.append_nil]⟩⟩
  repeat (first|refine sc rfl ?_|refine so rfl ?_|refine sb rfl ?_)
  refine C_if rfl (fun m3 => ?_) (fun m3 => ?_) <;> simp only [pL] at m3
  · repeat (first|refine sc rfl ?_|refine so rfl ?_|refine sb rfl ?_)
    refine C_true rfl (by simp [m3]) ?_
    have nb : (c.toNat = 32 ∨ c.toNat = 9 ∨ c.toNat = 10 ∨ c.toNat = 13) = True := eq_true (by omega)
    repeat (first|refine sc rfl ?_|refine so rfl ?_|refine sb rfl ?_)
    refine O_loadP 0 (reads_box 1) rfl rfl rfl rfl rfl rfl ?_
    repeat (first|refine sc rfl ?_|refine so rfl ?_|refine sb rfl ?_)
    refine O_Xn (X_storeP 0 (writes_box (by show 1 < 3; decide)) rfl rfl rfl rfl rfl rfl rfl) ?_
    repeat (first|refine sc rfl ?_|refine so rfl ?_|refine sb rfl ?_)
    rw [w64 (x := (i : Int) + 1) (by omega) (by omega)]
    exact ⟨_, [lexA b s (i + 1) h, tokA h ts], _, rfl, .refl _, rfl, by rw [hF]; simp only [h1, h2, n1, nb, Bool.false_eq_true, if_false, if_true]; exact ⟨rfl, h, by rw [List.append_nil]⟩⟩
  repeat (first|refine sc rfl ?_|refine so rfl ?_|refine sb rfl ?_)
  refine C_if rfl (fun m4 => ?_) (fun m4 => ?_) <;> simp only [pL] at m4
  · repeat (first|refine sc rfl ?_|refine so rfl ?_|refine sb rfl ?_)
    refine C_true rfl (by simp [m4]) ?_
    have nb : (c.toNat = 32 ∨ c.toNat = 9 ∨ c.toNat = 10 ∨ c.toNat = 13) = True := eq_true (by omega)
    repeat (first|refine sc rfl ?_|refine so rfl ?_|refine sb rfl ?_)
    refine O_loadP 0 (reads_box 1) rfl rfl rfl rfl rfl rfl ?_
    repeat (first|refine sc rfl ?_|refine so rfl ?_|refine sb rfl ?_)
    refine O_Xn (X_storeP 0 (writes_box (by show 1 < 3; decide)) rfl rfl rfl rfl rfl rfl rfl) ?_
    repeat (first|refine sc rfl ?_|refine so rfl ?_|refine sb rfl ?_)
    rw [w64 (x := (i : Int) + 1) (by omega) (by omega)]
    exact ⟨_, [lexA b s (i + 1) h, tokA h ts], _, rfl, .refl _, rfl, by rw [hF]; simp only [h1, h2, n1, nb, Bool.false_eq_true, if_false, if_true]; exact ⟨rfl, h, by rw [List.append_nil]⟩⟩
  repeat (first|refine sc rfl ?_|refine so rfl ?_|refine sb rfl ?_)
  refine C_if rfl (fun m5 => ?_) (fun m5 => ?_) <;> simp only [pL] at m5
  · have nb : (c.toNat = 32 ∨ c.toNat = 9 ∨ c.toNat = 10 ∨ c.toNat = 13) = True := eq_true (by omega)
    repeat (first|refine sc rfl ?_|refine so rfl ?_|refine sb rfl ?_)
    refine O_loadP 0 (reads_box 1) rfl rfl rfl rfl rfl rfl ?_
    repeat (first|refine sc rfl ?_|refine so rfl ?_|refine sb rfl ?_)
    refine O_Xn (X_storeP 0 (writes_box (by show 1 < 3; decide)) rfl rfl rfl rfl rfl rfl rfl) ?_
    repeat (first|refine sc rfl ?_|refine so rfl ?_|refine sb rfl ?_)
    rw [w64 (x := (i : Int) + 1) (by omega) (by omega)]
    exact ⟨_, [lexA b s (i + 1) h, tokA h ts], _, rfl, .refl _, rfl, by rw [hF]; simp only [h1, h2, n1, nb, Bool.false_eq_true, if_false, if_true]; exact ⟨rfl, h, by rw [List.append_nil]⟩⟩
  have nb : (c.toNat = 32 ∨ c.toNat = 9 ∨ c.toNat = 10 ∨ c.toNat = 13) = False := eq_false (by omega)
  repeat (first|refine sc rfl ?_|refine so rfl ?_|refine sb rfl ?_)
  refine O_call (IndexByte_c signsL c) (by rfl) (by rfl) (by rfl) (by rfl) (fun r hr => ?_)
  subst hr
  repeat (first|refine sc rfl ?_|refine so rfl ?_|refine sb rfl ?_)
  refine C_if rfl (fun m6 => ?_) (fun m6 => ?_) <;> simp only [pL] at m6
  · repeat (first|refine sc rfl ?_|refine so rfl ?_|refine sb rfl ?_)
    exact ⟨_, [_, _], _, rfl, .refl _, rfl, by rw [hF]; simp only [h1, h2, n1, nb, m6, Bool.false_eq_true, if_false, if_true]; exact ⟨rfl, h, by rw [List.append_nil]⟩⟩
  repeat (first|refine sc rfl ?_|refine so rfl ?_|refine sb rfl ?_)
  refine O_loadP 0 (reads_box 1) rfl rfl rfl rfl rfl rfl ?_
  repeat (first|refine sc rfl ?_|refine so rfl ?_|refine sb rfl ?_)
  refine O_Xn (X_storeP 0 (writes_box (by show 1 < 3; decide)) rfl rfl rfl rfl rfl rfl rfl) ?_
  rw [w64 (x := (i : Int) + 1) (by omega) (by omega)]
  repeat (first|refine sc rfl ?_|refine so rfl ?_|refine sb rfl ?_)
  refine C_drawT 20 20 rfl (by kernel_rfl) (by kernel_rfl) ?_
  repeat (first|refine sd rfl ?_|refine sdb rfl ?_|refine sds rfl ?_)
  refine D_X (.s s) (X_loadP 0 (reads_box 0) rfl rfl rfl rfl rfl rfl) ?_
  repeat (first|refine sd rfl ?_|refine sdb rfl ?_|refine sds rfl ?_)
  refine D_X (I64 ((i : Int) + 1)) (X_loadP 0 (reads_box 1) rfl rfl rfl rfl rfl rfl) ?_
  repeat (first|refine sd rfl ?_|refine sdb rfl ?_|refine sds rfl ?_)
  rw [w64 (x := (i : Int) + 1 - 1) (by omega) (by omega), Int.add_sub_cancel]
  repeat (first|refine sd rfl ?_|refine sdb rfl ?_|refine sds rfl ?_)
  refine D_X (I64 ((i : Int) + 1)) (X_loadP 0 (reads_box 1) rfl rfl rfl rfl rfl rfl) ?_
  repeat (first|refine sd rfl ?_|refine sdb rfl ?_|refine sds rfl ?_)
  refine ⟨by omega, ?_⟩
  rw [Int.toNat_natCast, show (((i : Int) + 1).toNat - i) = 1 by omega, hci]
  repeat (first|refine sd rfl ?_|refine sdb rfl ?_|refine sds rfl ?_)
  refine D_X (I64 ((i : Int) + 1)) (X_loadP 0 (reads_box 1) rfl rfl rfl rfl rfl rfl) ?_
  repeat (first|refine sd rfl ?_|refine sdb rfl ?_|refine sds rfl ?_)
  rw [w64 (x := (i : Int) + 1 - 1) (by omega) (by omega), Int.add_sub_cancel]
  repeat (first|refine sd rfl ?_|refine sdb rfl ?_|refine sds rfl ?_)
  refine O_callA [0, 0] (put_A b s (i + 1) h ts hl 3 [c] 0 (i : Nat)) (by rfl) (by rfl) (by rfl) (by rfl) (by rfl) ?_
  rintro r cs' ⟨rfl, h', rfl⟩
  repeat (first|refine sc rfl ?_|refine so rfl ?_|refine sb rfl ?_)
  exact ⟨_, [_, _], _, rfl, .refl _, rfl, by rw [hF]; simp only [h1, h2, n1, nb, m6, Bool.false_eq_true, if_false, if_true]; exact ⟨rfl, h', rfl⟩⟩

def lexF (s : List UInt8) : Nat → Nat → List Tok → Int × Int × List Tok
  | 0, i, ts => (0, 0, ts)
  | n + 1, i, ts => if i < s.length then (let q := oneF s i
      if q.1 = 0 then lexF s n q.2.1 (ts ++ q.2.2) else (q.1, (i : Nat), [])) else (0, 0, ts ++ [⟨4, [], 0, (s.length : Nat)⟩])
def tokF (s : List UInt8) : Int × Int × List Tok := if 1024 < s.length then (3, 0, []) else lexF s (s.length + 1) 0 []

theorem tw_pos {p : UInt8 → Bool} {s : List UInt8} {i : Nat} (hi : i < s.length) (h : p (s.getD i 0) = true) : 0 < ((s.drop i).takeWhile p).length := by
  have : s.drop i = s[i] :: s.drop (i + 1) := List.drop_eq_getElem_cons hi
  rw [this, List.takeWhile_cons]
  rw [List.getD_eq_getElem?_getD, List.getElem?_eq_getElem hi] at h
  simp only [Option.getD_some] at h
  rw [h]; simp
theorem tw_le {p : UInt8 → Bool} {s : List UInt8} {i : Nat} (hi : i ≤ s.length) : i + ((s.drop i).takeWhile p).length ≤ s.length := by
  have := (List.takeWhile_sublist p (l := s.drop i)).length_le
  rw [List.length_drop] at this; omega
theorem oneF_ok {s : List UInt8} {i : Nat} (hi : i < s.length) (h0 : (oneF s i).1 = 0) : i < (oneF s i).2.1 ∧ (oneF s i).2.1 ≤ s.length ∧ (oneF s i).2.2.length ≤ 1 := by
  unfold oneF at h0 ⊢
  simp only [] at h0 ⊢
  cases h1 : letB (s.getD i 0) with
  | true =>
    have h2 := tw_pos (p := innB) hi (by unfold innB; rw [h1]; rfl)
    have h3 := tw_le (p := innB) (Nat.le_of_lt hi)
    simp only [if_true, wordF]
    split <;> simp <;> omega
  | false =>
    rw [h1] at h0
    simp only [Bool.false_eq_true, if_false] at h0 ⊢
    cases h2 : digB (s.getD i 0) with
    | true =>
      have h3 := tw_pos (p := digB) hi h2
      have h4 := tw_le (p := digB) (Nat.le_of_lt hi)
      simp only [if_true, nmbF]
      repeat' split
      all_goals simp
      all_goals omega
    | false =>
      rw [h2] at h0
      simp only [Bool.false_eq_true, if_false] at h0 ⊢
      by_cases h3 : (s.getD i 0).toNat = 47
      · have h4 := tw_pos (p := nteB) hi (by unfold nteB; rw [h3]; rfl)
        have h5 := tw_le (p := nteB) (Nat.le_of_lt hi)
        simp only [h3, if_true] at h0 ⊢
        split at h0
        · rename_i h6; simp only [h6, if_true]; simp; omega
        · cases h0
      · simp only [h3, if_false] at h0 ⊢
        split at h0
        · rename_i h6; simp only [h6, if_true]; simp; omega
        · rename_i h6
          simp only [h6, if_false]
          split at h0
          · cases h0
          · rename_i h7; simp only [h7, if_false]; simp; omega

def TokP (s : List UInt8) (r : AV) : Prop :=
  ((tokF s).1 ≠ 0 ∧ r = .tup [.v (.slice none 0 0), .agg [I64 (tokF s).1, I64 (tokF s).2.1]]) ∨ ((tokF s).1 = 0 ∧ r = .tup [SL 4 Tok.c (tokF s).2.2, .agg [I64 0, I64 0]])

theorem Tokens_c (s : List UInt8) : FnP Tryz.prog 112 [.s s] (TokP s) := by
  refine FnP.intro Tryz.tabOK Tryz.wide_ Tryz.func112 rfl (by decide) rfl (fun X => ?_)
  repeat (first|refine sc rfl ?_|refine so rfl ?_|refine sb rfl ?_)
  refine C_if rfl (fun m1 => ?_) (fun m1 => ?_) <;> simp only [pL] at m1
  · repeat (first|refine sc rfl ?_|refine so rfl ?_|refine sb rfl ?_)
    have e : tokF s = (3, 0, []) := by unfold tokF; rw [if_pos (by omega)]
    exact ⟨_, rfl, rfl, .inl ⟨by rw [e]; decide, by rw [e]; rfl⟩⟩
  have hs : s.length ≤ 1024 := by omega
  have e : tokF s = lexF s (s.length + 1) 0 [] := by unfold tokF; rw [if_neg (by omega)]
  repeat (first|refine sc rfl ?_|refine so rfl ?_|refine sb rfl ?_)
  refine C_absb 4 rfl rfl rfl (fun b => ?_)
  refine C_le _ (Le.addVec 222 4 (fun i => Tok.c (([] : List Tok).getD i default))) ?_
  refine C_loop (fun q : Nat × Value × List Tok => ⟨[(0, .s s), (2, .v (.slice none 0 0)), (3, .bp 3 0), (4, PT b 0)], [.box 3 50 [I64 0, I64 0], .abs (lexA b s q.1 q.2.1), .abs (tokA q.2.1 q.2.2)]⟩)
    (fun q => q.1 ≤ s.length ∧ q.2.2.length ≤ q.1 ∧ ∃ n, s.length - q.1 < n ∧ tokF s = lexF s n q.1 q.2.2) (fun q => s.length - q.1) (0, .slice none 0 0, []) ⟨Nat.zero_le _, Nat.le_refl _, s.length + 1, by simp, e⟩ (Le.pick [2, 1, 0] ⟨rfl, rfl, rfl, rfl, trivial⟩ rfl) ?_
  rintro ⟨i, h, ts⟩ ⟨hi, htl, n, hn, hF⟩
  simp only [] at hi htl hn hF
  repeat (first|refine sc rfl ?_|refine so rfl ?_|refine sb rfl ?_)
  refine O_loadP 1 (reads_box 1) rfl rfl rfl rfl rfl rfl ?_
  repeat (first|refine sc rfl ?_|refine so rfl ?_|refine sb rfl ?_)
  refine C_if rfl (fun m2 => ?_) (fun m2 => ?_) <;> simp only [pL] at m2
  · have hil : i < s.length := by omega
    repeat (first|refine sc rfl ?_|refine so rfl ?_|refine sb rfl ?_)
    refine O_loadP 1 (reads_box 1) rfl rfl rfl rfl rfl rfl ?_
    repeat (first|refine sc rfl ?_|refine so rfl ?_|refine sb rfl ?_)
    refine O_callA [1, 1] (one_A b s i h ts (by omega) hil hs) (by rfl) (by rfl) (by rfl) (by rfl) (by rfl) ?_
    rintro r cs' ⟨rfl, h', rfl⟩
    obtain ⟨n, rfl⟩ : ∃ n', n = n' + 1 := ⟨n - 1, by omega⟩
    simp only [lexF, if_pos hil] at hF
    repeat (first|refine sc rfl ?_|refine so rfl ?_|refine sb rfl ?_)
    refine C_if rfl (fun m3 => ?_) (fun m3 => ?_) <;> simp only [pL] at m3
    · repeat (first|refine sc rfl ?_|refine so rfl ?_|refine sb rfl ?_)
      rw [if_neg m3] at hF
      exact ⟨_, rfl, rfl, .inl ⟨by rw [hF]; exact m3, by rw [hF]; rfl⟩⟩
    · rw [if_pos m3] at hF
      have hok := oneF_ok hil m3
      repeat (first|refine sc rfl ?_|refine so rfl ?_|refine sb rfl ?_)
      exact ⟨((oneF s i).2.1, h', ts ++ (oneF s i).2.2), ⟨hok.2.1, by simp only [List.length_append]; omega, n, by simp only []; omega, hF⟩, by simp only []; omega, Le.pick [2, 0, 0] ⟨rfl, rfl, rfl, rfl, trivial⟩ rfl⟩
  · obtain rfl : i = s.length := by omega
    obtain ⟨n, rfl⟩ : ∃ n', n = n' + 1 := ⟨n - 1, by omega⟩
    simp only [lexF, if_neg (Nat.lt_irrefl _)] at hF
    repeat (first|refine sc rfl ?_|refine so rfl ?_|refine sb rfl ?_)
    refine O_callA [1, 1] (put_A b s s.length h ts (by omega) 4 [] 0 (s.length : Nat)) (by rfl) (by rfl) (by rfl) (by rfl) (by rfl) ?_
    rintro r cs' ⟨rfl, h', rfl⟩
    repeat (first|refine sc rfl ?_|refine so rfl ?_|refine sb rfl ?_)
    refine O_loadP 0 (reads_box 2) rfl rfl rfl rfl rfl rfl ?_
    generalize hts : ts ++ [(⟨4, [], 0, (s.length : Nat)⟩ : Tok)] = T at *
    refine O_le _ (Le.frVec 1 (fun i => Tok.c (T.getD i default)) rfl (fun i hi => rfl)) ?_
    refine O_le _ (Le.slotA 0 39 rfl rfl) ?_
    repeat (first|refine sc rfl ?_|refine so rfl ?_|refine sb rfl ?_)
    exact ⟨_, rfl, rfl, .inr ⟨by rw [hF], by rw [hF]; rfl⟩⟩
end Go.Proofs

namespace Go.Sy
open Go.RowKit

section
variable {P : Program} {T : Tab} {X : Ctx P T} {n : Nat} {e : Env} {st : St} {a : Act} {w : World} {ops : Array Oper} {K : St → Prop}

theorem X_field {p : Pl} {t : TypeId} {fields : Array Field} {x : Operand} {f : Nat} {fd : Field} {cells : List AV} {av : AV} {ti : TI} {d : Option Nat} {ty : TypeId} {pos : String} {aft : Array Edge} {gd : Option (Nat × Bool)} {j : Nat} {Si : List (Nat × AV)} {c : List Ch}
    (hP : P.underlying t = some (.struct fields)) (hf : fields[f]? = some fd) (hT : T fd.type = some ti) (hag : ti.agg = false) (hg : guardA ops ⟨Si, c⟩ ⟨d, .field t x f, ty, pos, aft, gd⟩ = some true) (hx : opd Si x = some (.agg cells)) (hav : cells[fd.offset]? = some av) (hd : dstOK n d = true) :
    StepX X n ops p Si c c j ⟨d, .field t x f, ty, pos, aft, gd⟩ av :=
  StepX.val hg hd (fun e a w S r r' => by
    have h1 := opd_sound r' hx
    simp only [Rep] at h1
    obtain ⟨ys, h1, h2⟩ := h1
    obtain ⟨z, z1, z2, z3⟩ := h2.get _ _ hav
    have z1' : ys[fd.offset]? = some z := by simpa using z1
    refine ⟨z, w, e, ?_, r, z2⟩
    simp only [execOp, h1, Instr.field, Sem.run_bind, run_underlying hP, Result.andThen_ok, hf, asAgg, part, Sem.run_pure, X.ok.isAgg hT, hag, Bool.false_eq_true, if_false, z1'])
end
end Go.Sy

namespace Go.Sy
open Go.RowKit

def WritesN (A : Abs) (b o : Nat) (new : List AV) (A' : Abs) : Prop :=
  b ∈ A.bs ∧ A'.bs = A.bs ∧ ∀ (G : IM) (w : World) (ys : List Value), A.ok G w → RepIL G new ys →
    ∃ cur tt, w.heap[b]? = some (.cells cur tt (0, 0)) ∧ o + ys.length ≤ cur.size ∧ ∀ w', w'.heap[b]? = some (.cells (writeAt cur o ys) tt (0, 0)) → A'.ok G w'

theorem writesN_box {b : Nat} {t : TypeId} {cells new : List AV} {o : Nat} (ho : o + new.length ≤ cells.length) : WritesN (boxA b t cells) b o new (boxA b t (cells.take o ++ new ++ cells.drop (o + new.length))) := by
  refine ⟨by simp [boxA], rfl, ?_⟩
  rintro G w ys ⟨arr, h1, h2⟩ hx
  have hl := RepIL.len h2
  have hl2 := RepIL.len hx
  simp only [Array.length_toList] at hl
  have hfit : o + ys.length ≤ arr.size := by omega
  refine ⟨arr, t, h1, hfit, fun w' hw => ⟨_, hw, RepIL.mk ?_ (fun j c hc => ?_)⟩⟩
  · simp only [Array.length_toList, writeAt_size, List.length_append, List.length_take, List.length_drop]; omega
  · rw [Array.getElem?_toList, writeAt_get _ _ _ _ hfit]
    by_cases hj : j < o
    · rw [List.append_assoc, List.getElem?_append_left (by rw [List.length_take]; omega), List.getElem?_take, if_pos hj] at hc
      rw [if_neg (by omega)]
      obtain ⟨z, z1, z2, z3⟩ := h2.get _ c hc
      exact ⟨z, by simpa using z1, z2, z3⟩
    · by_cases hj2 : j < o + new.length
      · rw [List.append_assoc, List.getElem?_append_right (by rw [List.length_take]; omega), List.length_take, List.getElem?_append_left (by omega)] at hc
        rw [if_pos (by omega)]
        obtain ⟨z, z1, z2, z3⟩ := hx.get _ c hc
        rw [show j - min o cells.length = j - o by omega] at z1
        exact ⟨z, z1, z2, z3⟩
      · rw [List.getElem?_append_right (by simp only [List.length_append, List.length_take]; omega), List.getElem?_drop] at hc
        rw [if_neg (by omega)]
        obtain ⟨z, z1, z2, z3⟩ := h2.get _ c hc
        simp only [List.length_append, List.length_take] at z1
        rw [show o + new.length + (j - (min o cells.length + new.length)) = j by omega] at z1
        exact ⟨z, by simpa using z1, z2, z3⟩

section
variable {P : Program} {T : Tab} {X : Ctx P T} {n : Nat} {e : Env} {st : St} {a : Act} {w : World} {ops : Array Oper} {K : St → Prop}

theorem X_storeB (q : Nat) {p : Pl} {A A' : Abs} {t : TypeId} {esz by_ : Nat} {z : List Value} {dd : TD} {ad xo : Operand} {b o : Nat} {new : List AV} {ty : TypeId} {pos : String} {aft : Array Edge} {gd : Option (Nat × Bool)} {jj : Nat} {Si : List (Nat × AV)} {c cr : List Ch}
    (hW : WritesN A b o new A') (hg : guardA ops ⟨Si, c⟩ ⟨none, .store t ad xo, ty, pos, aft, gd⟩ = some true) (hT : T t = some ⟨esz, by_, true, z, dd⟩) (hp : nthA q c = some (A, cr)) (had : opd Si ad = some (PT b o)) (hx : opd Si xo = some (.agg new)) (hlen : new.length = esz) (himm : AV.imm.immL new = true) :
    StepX X n ops p Si c (.abs A' :: cr) jj ⟨none, .store t ad xo, ty, pos, aft, gd⟩ .bad :=
  StepX.skip hg rfl (fun e a w S r r' => by
    have h1 := opd_sound r' had
    have h2 := opd_sound r' hx
    simp only [Rep] at h1 h2
    obtain ⟨ys, h2, h3⟩ := h2
    obtain ⟨hok, _⟩ := r.heap.nth hp
    have hri := RepL.toI new himm h3
    obtain ⟨cur, tt, hgc, hfit, hA'⟩ := hW.2.2 _ _ _ hok hri
    have hyl : ys.toList.length = esz := by rw [← hlen]; exact RepIL.len hri
    have hone : ∀ v ∈ ys.toList, v.oneCell' = true := RepL.one h3
    have hrun0 := run_storeCells_cells (P := P) b o ys.toList 0 w (fun j hj => by
        rw [Nat.add_zero, cell_of_row w b _ cur tt (0, 0) hgc]
        rw [Array.getElem?_eq_getElem (by omega)]; rfl) (fun j hj => by simp [World.frozen?, hgc]) hone
    rw [Nat.add_zero] at hrun0
    have hsz : ys.size = esz := by simpa using hyl
    have hrun : (execOp a.eval ⟨none, .store t ad xo, ty, pos, aft, gd⟩).run P w = .ok .skip (w.setCells b o ys.toList) := by
      simp only [execOp, Instr.storeAt, h1, h2, Instr.sureAddr, Sem.run_bind, Sem.run_pure, Result.andThen_ok, storeVar, X.ok.size hT]
      have hc : (Value.agg ys).cells = ys := rfl
      simp [hc, hsz, hrun0]
    refine ⟨_, e, hrun, r.absTurn (st := ⟨S, c⟩) hp hW.2.1 ?_ (fun b' hb => ?_) ?_ ?_⟩
    · exact hA' _ (setCells_heap ys.toList b o w cur tt (0, 0) hgc)
    · exact setCells_other ys.toList b o b' w (fun he => hb (by subst he; exact hW.1))
    · exact (setCells_misc ys.toList b o w).2
    · exact (setCells_misc ys.toList b o w).1)
end
end Go.Sy

namespace Go.Proofs
open Go.Sy Go.Lib

structure PS where
  i : Nat
  err : Int
  fat : Int
abbrev PS.c (ts : List Tok) (p : PS) : List AV := [SL 4 Tok.c ts, I64 (p.i : Nat), I64 p.err, I64 p.fat]

def psA (m : Int) (b : Nat) (ts : List Tok) (p : PS) : Abs where
  bs := [b]
  ok := fun G w => (boxA b 219 (PS.c ts p)).ok G w ∧ G 0 0 = some (.int .i64 m)
  keep := fun hG hb h => ⟨(boxA b 219 (PS.c ts p)).keep hG hb h.1, hG.1 _ _ _ h.2⟩
theorem reads_ps {m : Int} {b : Nat} {ts : List Tok} {p : PS} (o : Nat) : Reads (psA m b ts p) b o ((PS.c ts p).drop o) := fun G w h => reads_box o G w h.1
theorem writes_ps {m : Int} {b : Nat} {ts : List Tok} {p p' : PS} {o : Nat} {x : AV} (ho : o < 4) (he : (PS.c ts p).set o x = PS.c ts p') : Writes (psA m b ts p) b o x (psA m b ts p') := by
  obtain ⟨h1, h2, h3⟩ := writes_box (b := b) (t := 219) (cells := PS.c ts p) (x := x) (o := o) (by show o < 4; exact ho)
  refine ⟨by simp [psA], rfl, fun G w v h hx hv => ?_⟩
  obtain ⟨a1, a2, a3⟩ := h3 G w v h.1 hx hv
  rw [he] at a3
  exact ⟨a1, a2, a3, h.2⟩

theorem writesN_ps {m : Int} {b : Nat} {ts : List Tok} {p p' : PS} {o : Nat} {new : List AV} (ho : o + new.length ≤ 4) (he : (PS.c ts p).take o ++ new ++ (PS.c ts p).drop (o + new.length) = PS.c ts p') : WritesN (psA m b ts p) b o new (psA m b ts p') := by
  obtain ⟨h1, h2, h3⟩ := writesN_box (b := b) (t := 219) (cells := PS.c ts p) (new := new) (o := o) (by show o + new.length ≤ 4; exact ho)
  refine ⟨by simp [psA], rfl, fun G w ys h hx => ?_⟩
  obtain ⟨cur, tt, a1, a2, a3⟩ := h3 G w ys h.1 hx
  rw [he] at a3
  exact ⟨cur, tt, a1, a2, fun w' hw => ⟨a3 w' hw, h.2⟩⟩

structure TsOK (ts : List Tok) : Prop where
  len : ts.length ≤ 2000
  go : ∀ i, i < ts.length → ((ts.getD i default).kind = 1 ∨ (ts.getD i default).kind = 2 ∨ (ts.getD i default).text ≠ []) → i + 1 < ts.length
  txt : ∀ i, i < ts.length → (ts.getD i default).text.length ≤ 1024

def nowF (ts : List Tok) (p : PS) : Tok := ts.getD p.i default
def failF (ts : List Tok) (e : Int) (p : PS) : PS := if p.err = 0 then ⟨p.i, e, (nowF ts p).at_⟩ else p
def mayF (ts : List Tok) (s : List UInt8) (p : PS) : Bool := p.err == 0 && ((nowF ts p).text == s && !(s == []))
def PS.next (p : PS) : PS := ⟨p.i + 1, p.err, p.fat⟩
def mayP (ts : List Tok) (s : List UInt8) (p : PS) : PS := if mayF ts s p then p.next else p
def needF (ts : List Tok) (s : List UInt8) (p : PS) : PS := if mayF ts s p then p.next else failF ts 5 p
def numB (ts : List Tok) (p : PS) : PS := if (nowF ts p).kind ≠ 2 then failF ts 5 p else p
def numV (ts : List Tok) (p : PS) : Int := if (numB ts p).err ≠ 0 then 0 else (nowF ts p).num
def numP (ts : List Tok) (p : PS) : PS := if (numB ts p).err ≠ 0 then numB ts p else (numB ts p).next

section
variable (m : Int) (b : Nat) (ts : List Tok) (hT : TsOK ts)

theorem well_A (p : PS) : FnA Tryz.prog 114 [PT b 0] [psA m b ts p] (fun r cs' => r = B (p.err == 0) ∧ cs' = [psA m b ts p]) := by
  refine FnA.intro Tryz.tabOK Tryz.wide_ Tryz.func114 rfl (by decide) rfl (fun X => ?_)
  repeat (first|refine sc rfl ?_|refine so rfl ?_|refine sb rfl ?_)
  refine O_loadP 0 (reads_ps 2) rfl rfl rfl rfl rfl rfl ?_
  repeat (first|refine sc rfl ?_|refine so rfl ?_|refine sb rfl ?_)
  exact ⟨_, [_], _, rfl, .refl _, rfl, rfl, rfl⟩

include hT in
theorem now_A (p : PS) (hp : p.i < ts.length) : FnA Tryz.prog 115 [PT b 0] [psA m b ts p] (fun r cs' => r = .agg (Tok.c (nowF ts p)) ∧ cs' = [psA m b ts p]) := by
  refine FnA.intro Tryz.tabOK Tryz.wide_ Tryz.func115 rfl (by decide) rfl (fun X => ?_)
  have := hT.len
  repeat (first|refine sc rfl ?_|refine so rfl ?_|refine sb rfl ?_)
  refine C_drawT 20 10 rfl (by kernel_rfl) (by kernel_rfl) ?_
  repeat (first|refine sd rfl ?_|refine sdb rfl ?_|refine sds rfl ?_)
  refine D_X (SL 4 Tok.c ts) (X_loadP 1 (reads_ps 0) rfl rfl rfl rfl rfl rfl) ?_
  repeat (first|refine sd rfl ?_|refine sdb rfl ?_|refine sds rfl ?_)
  refine D_X (I64 (p.i : Nat)) (X_loadP 1 (reads_ps 1) rfl rfl rfl rfl rfl rfl) ?_
  repeat (first|refine sd rfl ?_|refine sdb rfl ?_|refine sds rfl ?_)
  refine ⟨by omega, ?_⟩
  rw [Int.toNat_natCast]
  repeat (first|refine sd rfl ?_|refine sdb rfl ?_|refine sds rfl ?_)
  repeat (first|refine sc rfl ?_|refine so rfl ?_|refine sb rfl ?_)
  exact ⟨_, [_], _, rfl, pickA_perm (is := [1]) (As := [_]) rfl, rfl, rfl, rfl⟩

include hT in
theorem fail_A (p : PS) (hp : p.i < ts.length) (e : Int) : FnA Tryz.prog 116 [PT b 0, I64 e] [psA m b ts p] (fun r cs' => r = .tup [] ∧ cs' = [psA m b ts (failF ts e p)]) := by
  refine FnA.intro Tryz.tabOK Tryz.wide_ Tryz.func116 rfl (by decide) rfl (fun X => ?_)
  repeat (first|refine sc rfl ?_|refine so rfl ?_|refine sb rfl ?_)
  refine O_callA [0] (well_A m b ts p) (by rfl) (by rfl) (by rfl) (by rfl) (by rfl) ?_
  rintro r cs' ⟨rfl, rfl⟩
  repeat (first|refine sc rfl ?_|refine so rfl ?_|refine sb rfl ?_)
  refine C_if rfl (fun m1 => ?_) (fun m1 => ?_) <;> simp only [pL] at m1
  · repeat (first|refine sc rfl ?_|refine so rfl ?_|refine sb rfl ?_)
    refine O_callA [0] (now_A m b ts hT p hp) (by rfl) (by rfl) (by rfl) (by rfl) (by rfl) ?_
    rintro r cs' ⟨rfl, rfl⟩
    repeat (first|refine sc rfl ?_|refine so rfl ?_|refine sb rfl ?_)
    refine O_Xd (X_field Tryz.underlying222 rfl rfl rfl rfl rfl rfl rfl) ?_
    repeat (first|refine sc rfl ?_|refine so rfl ?_|refine sb rfl ?_)
    refine O_Xn (X_storeB 0 (writesN_ps (o := 2) (new := [I64 e, I64 (nowF ts p).at_]) (p' := failF ts e p) (by show 2 + 2 ≤ 4; decide) (by unfold failF; rw [if_pos m1]; rfl)) rfl rfl rfl rfl rfl rfl rfl) ?_
    repeat (first|refine sc rfl ?_|refine so rfl ?_|refine sb rfl ?_)
    exact ⟨_, [_], _, rfl, .refl _, rfl, rfl, rfl⟩
  · repeat (first|refine sc rfl ?_|refine so rfl ?_|refine sb rfl ?_)
    exact ⟨_, [_], _, rfl, .refl _, rfl, rfl, by unfold failF; rw [if_neg m1]⟩

theorem failF_i (ts : List Tok) (e : Int) (p : PS) : (failF ts e p).i = p.i := by unfold failF; split <;> rfl

include hT in
theorem may_A (p : PS) (hp : p.i < ts.length) (s : List UInt8) : FnA Tryz.prog 188 [PT b 0, .s s] [psA m b ts p] (fun r cs' => r = B (mayF ts s p) ∧ cs' = [psA m b ts (mayP ts s p)]) := by
  refine FnA.intro Tryz.tabOK Tryz.wide_ Tryz.func188 rfl (by decide) rfl (fun X => ?_)
  have hlen := hT.len
  unfold mayP mayF
  repeat (first|refine sc rfl ?_|refine so rfl ?_|refine sb rfl ?_)
  refine O_callA [0] (well_A m b ts p) (by rfl) (by rfl) (by rfl) (by rfl) (by rfl) ?_
  rintro r cs' ⟨rfl, rfl⟩
  repeat (first|refine sc rfl ?_|refine so rfl ?_|refine sb rfl ?_)
  cases h1 : p.err == 0 with
  | false =>
    repeat (first|refine sc rfl ?_|refine so rfl ?_|refine sb rfl ?_)
    refine C_true rfl rfl ?_
    repeat (first|refine sc rfl ?_|refine so rfl ?_|refine sb rfl ?_)
    exact ⟨_, [_], _, rfl, .refl _, rfl, rfl, rfl⟩
  | true =>
    repeat (first|refine sc rfl ?_|refine so rfl ?_|refine sb rfl ?_)
    refine O_callA [0] (now_A m b ts hT p hp) (by rfl) (by rfl) (by rfl) (by rfl) (by rfl) ?_
    rintro r cs' ⟨rfl, rfl⟩
    repeat (first|refine sc rfl ?_|refine so rfl ?_|refine sb rfl ?_)
    refine O_Xd (X_field Tryz.underlying222 rfl rfl rfl rfl rfl rfl rfl) ?_
    repeat (first|refine sc rfl ?_|refine so rfl ?_|refine sb rfl ?_)
    cases h2 : (nowF ts p).text == s with
    | false =>
      repeat (first|refine sc rfl ?_|refine so rfl ?_|refine sb rfl ?_)
      refine C_true rfl rfl ?_
      repeat (first|refine sc rfl ?_|refine so rfl ?_|refine sb rfl ?_)
      exact ⟨_, [_], _, rfl, .refl _, rfl, rfl, rfl⟩
    | true =>
      repeat (first|refine sc rfl ?_|refine so rfl ?_|refine sb rfl ?_)
      cases h3 : s == [] with
      | true =>
        refine C_true rfl rfl ?_
        repeat (first|refine sc rfl ?_|refine so rfl ?_|refine sb rfl ?_)
        exact ⟨_, [_], _, rfl, .refl _, rfl, rfl, rfl⟩
      | false =>
        refine C_false rfl rfl ?_
        repeat (first|refine sc rfl ?_|refine so rfl ?_|refine sb rfl ?_)
        refine O_loadP 0 (reads_ps 1) rfl rfl rfl rfl rfl rfl ?_
        repeat (first|refine sc rfl ?_|refine so rfl ?_|refine sb rfl ?_)
        rw [w64 (x := (p.i : Int) + 1) (by omega) (by omega)]
        refine O_Xn (X_storeP 0 (writes_ps (p' := p.next) (by decide) rfl) rfl rfl rfl rfl rfl rfl rfl) ?_
        repeat (first|refine sc rfl ?_|refine so rfl ?_|refine sb rfl ?_)
        exact ⟨_, [_], _, rfl, .refl _, rfl, rfl, rfl⟩

include hT in
theorem need_A (p : PS) (hp : p.i < ts.length) (s : List UInt8) : FnA Tryz.prog 186 [PT b 0, .s s] [psA m b ts p] (fun r cs' => r = .tup [] ∧ cs' = [psA m b ts (needF ts s p)]) := by
  refine FnA.intro Tryz.tabOK Tryz.wide_ Tryz.func186 rfl (by decide) rfl (fun X => ?_)
  repeat (first|refine sc rfl ?_|refine so rfl ?_|refine sb rfl ?_)
  refine O_callA [0] (may_A m b ts hT p hp s) (by rfl) (by rfl) (by rfl) (by rfl) (by rfl) ?_
  rintro r cs' ⟨rfl, rfl⟩
  unfold mayP needF
  repeat (first|refine sc rfl ?_|refine so rfl ?_|refine sb rfl ?_)
  cases h1 : mayF ts s p with
  | true =>
    refine C_false rfl rfl ?_
    repeat (first|refine sc rfl ?_|refine so rfl ?_|refine sb rfl ?_)
    exact ⟨_, [_], _, rfl, .refl _, rfl, rfl, rfl⟩
  | false =>
    refine C_true rfl rfl ?_
    simp only [Bool.false_eq_true, if_false]
    repeat (first|refine sc rfl ?_|refine so rfl ?_|refine sb rfl ?_)
    refine O_callA [0] (fail_A m b ts hT p hp 5) (by rfl) (by rfl) (by rfl) (by rfl) (by rfl) ?_
    rintro r cs' ⟨rfl, rfl⟩
    repeat (first|refine sc rfl ?_|refine so rfl ?_|refine sb rfl ?_)
    exact ⟨_, [_], _, rfl, .refl _, rfl, rfl, rfl⟩

include hT in
theorem number_A2 (p : PS) (hp : p.i < ts.length) : FnA Tryz.prog 184 [PT b 0] [psA m b ts p] (fun r cs' => r = I64 (numV ts p) ∧ cs' = [psA m b ts (numP ts p)]) := by
  refine FnA.intro Tryz.tabOK Tryz.wide_ Tryz.func184 rfl (by decide) rfl (fun X => ?_)
  have hlen := hT.len
  unfold numV numP
  repeat (first|refine sc rfl ?_|refine so rfl ?_|refine sb rfl ?_)
  refine O_callA [0] (now_A m b ts hT p hp) (by rfl) (by rfl) (by rfl) (by rfl) (by rfl) ?_
  rintro r cs' ⟨rfl, rfl⟩
  repeat (first|refine sc rfl ?_|refine so rfl ?_|refine sb rfl ?_)
  refine C_ifJ ⟨[(0, PT b 0), (3, .bp 3 0)], [.box 3 222 (Tok.c (nowF ts p)), .abs (psA m b ts (numB ts p))]⟩ rfl (fun m1 => ?_) (fun m1 => ?_) (fun st h => C_le _ h ?_)
  · simp only [pL] at m1
    repeat (first|refine sc rfl ?_|refine so rfl ?_|refine sb rfl ?_)
    refine O_callA [1] (fail_A m b ts hT p hp 5) (by rfl) (by rfl) (by rfl) (by rfl) (by rfl) ?_
    rintro r cs' ⟨rfl, rfl⟩
    repeat (first|refine sc rfl ?_|refine so rfl ?_|refine sb rfl ?_)
    have e1 : numB ts p = failF ts 5 p := by unfold numB; rw [if_pos m1]
    rw [e1]
    exact Le.pick [1, 0] ⟨rfl, rfl, trivial⟩ rfl
  · simp only [pL] at m1
    repeat (first|refine sc rfl ?_|refine so rfl ?_|refine sb rfl ?_)
    have e1 : numB ts p = p := by unfold numB; rw [if_neg (fun h => h m1)]
    rw [e1]
    exact Le.pick [0, 0] ⟨rfl, rfl, trivial⟩ rfl
  have hi : (numB ts p).i = p.i := by unfold numB; split; exact failF_i ts 5 p; rfl
  generalize numB ts p = q at *
  repeat (first|refine sc rfl ?_|refine so rfl ?_|refine sb rfl ?_)
  refine O_callA [1] (well_A m b ts q) (by rfl) (by rfl) (by rfl) (by rfl) (by rfl) ?_
  rintro r cs' ⟨rfl, rfl⟩
  repeat (first|refine sc rfl ?_|refine so rfl ?_|refine sb rfl ?_)
  refine C_if rfl (fun m2 => ?_) (fun m2 => ?_) <;> simp only [pL] at m2
  · repeat (first|refine sc rfl ?_|refine so rfl ?_|refine sb rfl ?_)
    exact ⟨_, [_], _, rfl, .refl _, rfl, by rw [if_pos m2], by rw [if_pos m2]⟩
  · repeat (first|refine sc rfl ?_|refine so rfl ?_|refine sb rfl ?_)
    refine O_loadP 0 (reads_ps 1) rfl rfl rfl rfl rfl rfl ?_
    repeat (first|refine sc rfl ?_|refine so rfl ?_|refine sb rfl ?_)
    rw [w64 (x := (q.i : Int) + 1) (by omega) (by omega)]
    refine O_Xn (X_storeP 0 (writes_ps (p' := q.next) (by decide) rfl) rfl rfl rfl rfl rfl rfl rfl) ?_
    repeat (first|refine sc rfl ?_|refine so rfl ?_|refine sb rfl ?_)
    exact ⟨_, [_], _, rfl, .refl _, rfl, by rw [if_neg (fun h => h m2)], by rw [if_neg (fun h => h m2)]⟩
end
end Go.Proofs

namespace Go.Proofs
open Go.Sy Go.Lib

def plainF (t : List UInt8) : Int := if t = [98, 111, 111, 108] then 1 else if t = [105, 110, 116] then 2 else if t = [117, 105, 110, 116] then 3 else if t = [116, 101, 120, 116] then 4 else if t = [98, 121, 116, 101, 115] then 5 else 0

theorem plain_c (t : List UInt8) : FnP Tryz.prog 279 [.s t] (· = I64 (plainF t)) := by
  refine FnP.intro Tryz.tabOK Tryz.wide_ Tryz.func279 rfl (by decide) rfl (fun X => ?_)
  unfold plainF
  repeat (first|refine sc rfl ?_|refine so rfl ?_|refine sb rfl ?_)
  refine C_if rfl (fun h1 => ?_) (fun h1 => ?_) <;> simp only [pL] at h1
  · repeat (first|refine sc rfl ?_|refine so rfl ?_|refine sb rfl ?_)
    exact ⟨_, rfl, rfl, by rw [if_pos h1]⟩
  repeat (first|refine sc rfl ?_|refine so rfl ?_|refine sb rfl ?_)
  refine C_if rfl (fun h2 => ?_) (fun h2 => ?_) <;> simp only [pL] at h2
  · repeat (first|refine sc rfl ?_|refine so rfl ?_|refine sb rfl ?_)
    exact ⟨_, rfl, rfl, by rw [if_neg h1, if_pos h2]⟩
  repeat (first|refine sc rfl ?_|refine so rfl ?_|refine sb rfl ?_)
  refine C_if rfl (fun h3 => ?_) (fun h3 => ?_) <;> simp only [pL] at h3
  · repeat (first|refine sc rfl ?_|refine so rfl ?_|refine sb rfl ?_)
    exact ⟨_, rfl, rfl, by rw [if_neg h1, if_neg h2, if_pos h3]⟩
  repeat (first|refine sc rfl ?_|refine so rfl ?_|refine sb rfl ?_)
  refine C_if rfl (fun h4 => ?_) (fun h4 => ?_) <;> simp only [pL] at h4
  · repeat (first|refine sc rfl ?_|refine so rfl ?_|refine sb rfl ?_)
    exact ⟨_, rfl, rfl, by rw [if_neg h1, if_neg h2, if_neg h3, if_pos h4]⟩
  repeat (first|refine sc rfl ?_|refine so rfl ?_|refine sb rfl ?_)
  refine C_if rfl (fun h5 => ?_) (fun h5 => ?_) <;> simp only [pL] at h5
  · repeat (first|refine sc rfl ?_|refine so rfl ?_|refine sb rfl ?_)
    exact ⟨_, rfl, rfl, by rw [if_neg h1, if_neg h2, if_neg h3, if_neg h4, if_pos h5]⟩
  repeat (first|refine sc rfl ?_|refine so rfl ?_|refine sb rfl ?_)
  exact ⟨_, rfl, rfl, by rw [if_neg h1, if_neg h2, if_neg h3, if_neg h4, if_neg h5]⟩

def Knows (m : Int) (A : Abs) : Prop := ∀ G w, A.ok G w → G 0 0 = some (.int .i64 m)
theorem knows_ps (m : Int) (b : Nat) (ts : List Tok) (p : PS) : Knows m (psA m b ts p) := fun G w h => h.2

theorem Contains_A {m : Int} {A : Abs} (hA : Knows m A) (s sub : List UInt8) (hs : s.length < 4294967281) : FnA Tryz.prog 278 [.s s, .s sub] [A] (fun r cs' => r = B (Lib.contains s sub) ∧ cs' = [A]) := by
  refine ⟨⟨_, Tryz.func278, rfl, by decide⟩, fun G w cargs him hr hok => ?_⟩
  simp only [RepIT, RepI] at hr
  obtain ⟨_, _, rfl, rfl, _, _, rfl, rfl, rfl⟩ := hr
  have hm := him.1 _ _ _ (hA G w (hok.1 A (by simp)))
  refine (Tryz.strings_Contains ⟨s.toArray⟩ ⟨sub.toArray⟩ m w (by show s.toArray.size < _; simpa using hs) hm).mono ?_
  rintro e w' ⟨rfl, rfl⟩
  exact ⟨B (Lib.contains s sub), _, [A], G, ⟨rfl, rfl⟩, rfl, by simp only [RepI], IM.le_refl _, ⟨fun b o v h => .inl h, fun b x h => .inl h⟩, him, hok, fun b hb => .inr hb, rfl, rfl, rfl, Nat.le_refl _, fun _ _ _ _ => rfl⟩

def wordsL : List UInt8 := [32, 115, 116, 114, 117, 99, 116, 32, 117, 110, 105, 111, 110, 32, 101, 110, 117, 109, 32, 115, 101, 114, 118, 105, 99, 101, 32, 98, 111, 111, 108, 32, 105, 110, 116, 32, 117, 105, 110, 116, 32, 116, 101, 120, 116, 32, 98, 121, 116, 101, 115, 32, 108, 105, 115, 116, 32, 109, 97, 112, 32, 111, 110, 101, 119, 97, 121, 32]
def wordB (t : List UInt8) : Bool := !(t == []) && (!(Lib.contains t [32]) && Lib.contains wordsL ([32] ++ t ++ [32]))

theorem Word_A {m : Int} {A : Abs} (hA : Knows m A) (t : List UInt8) (ht : t.length ≤ 1024) : FnA Tryz.prog 247 [.s t] [A] (fun r cs' => r = B (wordB t) ∧ cs' = [A]) := by
  refine FnA.intro Tryz.tabOK Tryz.wide_ Tryz.func247 rfl (by decide) rfl (fun X => ?_)
  unfold wordB
  repeat (first|refine sc rfl ?_|refine so rfl ?_|refine sb rfl ?_)
  cases h1 : t == [] with
  | true =>
    repeat (first|refine sc rfl ?_|refine so rfl ?_|refine sb rfl ?_)
    exact ⟨_, [_], _, rfl, .refl _, rfl, rfl, rfl⟩
  | false =>
    repeat (first|refine sc rfl ?_|refine so rfl ?_|refine sb rfl ?_)
    refine O_callA [0] (Contains_A hA t [32] (by omega)) (by rfl) (by rfl) (by rfl) (by rfl) (by rfl) ?_
    rintro r cs' ⟨rfl, rfl⟩
    repeat (first|refine sc rfl ?_|refine so rfl ?_|refine sb rfl ?_)
    cases h2 : Lib.contains t [32] with
    | true =>
      repeat (first|refine sc rfl ?_|refine so rfl ?_|refine sb rfl ?_)
      exact ⟨_, [_], _, rfl, .refl _, rfl, rfl, rfl⟩
    | false =>
      repeat (first|refine sc rfl ?_|refine so rfl ?_|refine sb rfl ?_)
      refine ⟨by simp only [List.length_cons, List.length_nil]; omega, ?_⟩
      repeat (first|refine sc rfl ?_|refine so rfl ?_|refine sb rfl ?_)
      refine ⟨by simp only [List.length_append, List.length_cons, List.length_nil]; omega, ?_⟩
      repeat (first|refine sc rfl ?_|refine so rfl ?_|refine sb rfl ?_)
      refine O_callA [0] (Contains_A hA wordsL ([32] ++ t ++ [32]) (by decide)) (by rfl) (by rfl) (by rfl) (by rfl) (by rfl) ?_
      rintro r cs' ⟨rfl, rfl⟩
      repeat (first|refine sc rfl ?_|refine so rfl ?_|refine sb rfl ?_)
      exact ⟨_, [_], _, rfl, .refl _, rfl, rfl, rfl⟩

def badN (t : Tok) : Bool := t.kind != 1 || wordB t.text
def nmB (ts : List Tok) (p : PS) : PS := if badN (nowF ts p) then failF ts 5 p else p
def nameV (ts : List Tok) (p : PS) : List UInt8 := if (nmB ts p).err ≠ 0 then [] else (nowF ts p).text
def nameP (ts : List Tok) (p : PS) : PS := if (nmB ts p).err ≠ 0 then nmB ts p else (nmB ts p).next

section
variable (m : Int) (b : Nat) (ts : List Tok) (hT : TsOK ts)
include hT in
theorem name_A (p : PS) (hp : p.i < ts.length) : FnA Tryz.prog 185 [PT b 0] [psA m b ts p] (fun r cs' => r = .s (nameV ts p) ∧ cs' = [psA m b ts (nameP ts p)]) := by
  refine FnA.intro Tryz.tabOK Tryz.wide_ Tryz.func185 rfl (by decide) rfl (fun X => ?_)
  have hlen := hT.len
  have htx := hT.txt p.i hp
  unfold nameV nameP
  repeat (first|refine sc rfl ?_|refine so rfl ?_|refine sb rfl ?_)
  refine O_callA [0] (now_A m b ts hT p hp) (by rfl) (by rfl) (by rfl) (by rfl) (by rfl) ?_
  rintro r cs' ⟨rfl, rfl⟩
  iterate 6 (first|refine sc rfl ?_|refine so rfl ?_|refine sb rfl ?_)
  refine O_join ⟨[(0, PT b 0), (3, .bp 3 0), (13, B (badN (nowF ts p)))], [.box 3 222 (Tok.c (nowF ts p)), .abs (psA m b ts p)]⟩ ?_ (fun s hs => ?_)
  · repeat (first|refine sc rfl ?_|refine so rfl ?_|refine sb rfl ?_)
    cases h1 : (nowF ts p).kind != 1 with
    | true =>
      repeat (first|refine sc rfl ?_|refine so rfl ?_|refine sb rfl ?_)
      have e1 : badN (nowF ts p) = true := by unfold badN; rw [h1]; rfl
      rw [e1]
      exact Le.pick [0, 0] ⟨rfl, rfl, rfl, trivial⟩ rfl
    | false =>
      repeat (first|refine sc rfl ?_|refine so rfl ?_|refine sb rfl ?_)
      refine O_callA [1] (Word_A (knows_ps m b ts p) (nowF ts p).text htx) (by rfl) (by rfl) (by rfl) (by rfl) (by rfl) ?_
      rintro r cs' ⟨rfl, rfl⟩
      repeat (first|refine sc rfl ?_|refine so rfl ?_|refine sb rfl ?_)
      have e1 : badN (nowF ts p) = wordB (nowF ts p).text := by unfold badN; rw [h1]; rfl
      rw [e1]
      exact Le.pick [1, 0] ⟨rfl, rfl, rfl, trivial⟩ rfl
  refine C_le _ hs ?_
  repeat (first|refine sc rfl ?_|refine so rfl ?_|refine sb rfl ?_)
  refine C_ifJ ⟨[(0, PT b 0), (3, .bp 3 0)], [.box 3 222 (Tok.c (nowF ts p)), .abs (psA m b ts (nmB ts p))]⟩ rfl (fun m1 => ?_) (fun m1 => ?_) (fun st h => C_le _ h ?_)
  · repeat (first|refine sc rfl ?_|refine so rfl ?_|refine sb rfl ?_)
    refine O_callA [1] (fail_A m b ts hT p hp 5) (by rfl) (by rfl) (by rfl) (by rfl) (by rfl) ?_
    rintro r cs' ⟨rfl, rfl⟩
    repeat (first|refine sc rfl ?_|refine so rfl ?_|refine sb rfl ?_)
    have e1 : nmB ts p = failF ts 5 p := by unfold nmB; rw [if_pos m1]
    rw [e1]
    exact Le.pick [1, 0] ⟨rfl, rfl, trivial⟩ rfl
  · repeat (first|refine sc rfl ?_|refine so rfl ?_|refine sb rfl ?_)
    have e1 : nmB ts p = p := by unfold nmB; rw [m1]; rfl
    rw [e1]
    exact Le.pick [0, 0] ⟨rfl, rfl, trivial⟩ rfl
  have hi : (nmB ts p).i = p.i := by unfold nmB; split; exact failF_i ts 5 p; rfl
  generalize nmB ts p = q at *
  repeat (first|refine sc rfl ?_|refine so rfl ?_|refine sb rfl ?_)
  refine O_callA [1] (well_A m b ts q) (by rfl) (by rfl) (by rfl) (by rfl) (by rfl) ?_
  rintro r cs' ⟨rfl, rfl⟩
  repeat (first|refine sc rfl ?_|refine so rfl ?_|refine sb rfl ?_)
  refine C_if rfl (fun m2 => ?_) (fun m2 => ?_) <;> simp only [pL] at m2
  · repeat (first|refine sc rfl ?_|refine so rfl ?_|refine sb rfl ?_)
    exact ⟨_, [_], _, rfl, .refl _, rfl, by rw [if_pos m2], by rw [if_pos m2]⟩
  · repeat (first|refine sc rfl ?_|refine so rfl ?_|refine sb rfl ?_)
    refine O_loadP 0 (reads_ps 1) rfl rfl rfl rfl rfl rfl ?_
    repeat (first|refine sc rfl ?_|refine so rfl ?_|refine sb rfl ?_)
    rw [w64 (x := (q.i : Int) + 1) (by omega) (by omega)]
    refine O_Xn (X_storeP 0 (writes_ps (p' := q.next) (by decide) rfl) rfl rfl rfl rfl rfl rfl rfl) ?_
    repeat (first|refine sc rfl ?_|refine so rfl ?_|refine sb rfl ?_)
    exact ⟨_, [_], _, rfl, .refl _, rfl, by rw [if_neg (fun h => h m2)], by rw [if_neg (fun h => h m2)]⟩
end
end Go.Proofs

namespace Go.Proofs
open Go.Sy Go.Lib

def dpP (ts : List Tok) (deep : Int) (p : PS) : PS := if 8 < deep then failF ts 10 p else p
def baseF (ts : List Tok) (rec : Int → PS → Ty × PS) (deep : Int) (p : PS) : Ty × PS :=
  if 0 < plainF (nowF ts p).text then (⟨plainF (nowF ts p).text, [], []⟩, p.next) else
  if mayF ts [108, 105, 115, 116] p then (⟨7, [], [(rec (deep + 1) (needF ts [60] p.next)).1]⟩, needF ts [62] (rec (deep + 1) (needF ts [60] p.next)).2) else
  if mayF ts [109, 97, 112] p then (⟨8, [], [(rec (deep + 1) (needF ts [60] p.next)).1, (rec (deep + 1) (needF ts [44] (rec (deep + 1) (needF ts [60] p.next)).2)).1]⟩,
    needF ts [62] (rec (deep + 1) (needF ts [44] (rec (deep + 1) (needF ts [60] p.next)).2)).2) else
  (⟨6, nameV ts p, []⟩, nameP ts p)
def typF (ts : List Tok) : Nat → Int → PS → Ty × PS
  | 0, _, p => (default, p)
  | n + 1, deep, p => if (dpP ts deep p).err ≠ 0 then (⟨0, [], []⟩, dpP ts deep p) else
    if mayF ts [63] (baseF ts (typF ts n) deep (dpP ts deep p)).2 then (⟨9, [], [(baseF ts (typF ts n) deep (dpP ts deep p)).1]⟩, (baseF ts (typF ts n) deep (dpP ts deep p)).2.next)
    else baseF ts (typF ts n) deep (dpP ts deep p)

section
variable {ts : List Tok} (hT : TsOK ts)
theorem failF_err (ts : List Tok) {e : Int} (he : e ≠ 0) (p : PS) : (failF ts e p).err ≠ 0 := by
  unfold failF; split
  · exact he
  · assumption
include hT in
theorem next_lt {p : PS} {s : List UInt8} (hp : p.i < ts.length) (h : mayF ts s p = true) : p.next.i < ts.length := by
  simp only [mayF, Bool.and_eq_true, beq_iff_eq, Bool.not_eq_true', beq_eq_false_iff_ne] at h
  exact hT.go p.i hp (.inr (.inr (by show (nowF ts p).text ≠ []; rw [h.2.1]; exact h.2.2)))
include hT in
theorem may_lt {p : PS} (hp : p.i < ts.length) (s : List UInt8) : (mayP ts s p).i < ts.length := by
  unfold mayP; split
  · exact next_lt hT hp (by assumption)
  · exact hp
include hT in
theorem need_lt {p : PS} (hp : p.i < ts.length) (s : List UInt8) : (needF ts s p).i < ts.length := by
  unfold needF; split
  · exact next_lt hT hp (by assumption)
  · rw [failF_i]; exact hp
include hT in
theorem name_lt {p : PS} (hp : p.i < ts.length) : (nameP ts p).i < ts.length := by
  unfold nameP
  have hi : (nmB ts p).i = p.i := by unfold nmB; split; exact failF_i ts 5 p; rfl
  split
  · rw [hi]; exact hp
  · rename_i h
    show (nmB ts p).i + 1 < _
    rw [hi]
    refine hT.go p.i hp (.inl ?_)
    cases hb : badN (nowF ts p) with
    | true => exact absurd (by unfold nmB; rw [if_pos hb]; exact failF_err ts (by decide) p) h
    | false =>
      simp only [badN, Bool.or_eq_false_iff, bne_eq_false_iff_eq] at hb
      exact hb.1
include hT in
theorem num_lt {p : PS} (hp : p.i < ts.length) : (numP ts p).i < ts.length := by
  unfold numP
  have hi : (numB ts p).i = p.i := by unfold numB; split; exact failF_i ts 5 p; rfl
  split
  · rw [hi]; exact hp
  · rename_i h
    show (numB ts p).i + 1 < _
    rw [hi]
    refine hT.go p.i hp (.inr (.inl ?_))
    by_cases hb : (nowF ts p).kind = 2
    · exact hb
    · exact absurd (by unfold numB; rw [if_pos hb]; exact failF_err ts (by decide) p) h
theorem plainF_text {t : List UInt8} (h : 0 < plainF t) : t ≠ [] := by
  rintro rfl
  revert h; decide
include hT in
theorem base_lt {rec : Int → PS → Ty × PS} {deep : Int} (hr : ∀ p : PS, p.i < ts.length → (rec (deep + 1) p).2.i < ts.length) {p : PS} (hp : p.i < ts.length) : (baseF ts rec deep p).2.i < ts.length := by
  unfold baseF
  split
  · rename_i h; exact hT.go p.i hp (.inr (.inr (plainF_text h)))
  · split
    · rename_i h; exact need_lt hT (hr _ (need_lt hT (next_lt hT hp h) _)) _
    · split
      · rename_i h; exact need_lt hT (hr _ (need_lt hT (hr _ (need_lt hT (next_lt hT hp h) _)) _)) _
      · exact name_lt hT hp
include hT in
theorem typ_lt : ∀ (n : Nat) (deep : Int) (p : PS), p.i < ts.length → (typF ts n deep p).2.i < ts.length
  | 0, _, p, hp => hp
  | n + 1, deep, p, hp => by
    have hd : (dpP ts deep p).i < ts.length := by unfold dpP; split; rw [failF_i]; exact hp; exact hp
    have hb := base_lt hT (rec := typF ts n) (deep := deep) (fun q hq => typ_lt n (deep + 1) q hq) hd
    unfold typF
    split
    · exact hd
    · split
      · rename_i h; exact next_lt hT hb h
      · exact hb
end

section
variable (m : Int) (b : Nat) (ts : List Tok) (hT : TsOK ts)
include hT in
theorem base_A (rec : Int → PS → Ty × PS) (deep : Int) (hd : 0 ≤ deep ∧ deep ≤ 8) (hrl : ∀ p : PS, p.i < ts.length → (rec (deep + 1) p).2.i < ts.length)
    (hrec : ∀ p : PS, p.i < ts.length → FnA Tryz.prog 187 [PT b 0, I64 (deep + 1)] [psA m b ts p] (fun r cs' => r = .agg (Ty.c (rec (deep + 1) p).1) ∧ cs' = [psA m b ts (rec (deep + 1) p).2])) (p : PS) (hp : p.i < ts.length) :
    FnA Tryz.prog 248 [PT b 0, I64 deep] [psA m b ts p] (fun r cs' => r = .agg (Ty.c (baseF ts rec deep p).1) ∧ cs' = [psA m b ts (baseF ts rec deep p).2]) := by
  refine FnA.intro Tryz.tabOK Tryz.wide_ Tryz.func248 rfl (by decide) rfl (fun X => ?_)
  have hlen := hT.len
  repeat (first|refine sc rfl ?_|refine so rfl ?_|refine sb rfl ?_)
  first
    | refine O_callA [0] (now_A m b ts hT p hp) (by rfl) (by rfl) (by rfl) (by rfl) (by rfl) ?_
    | refine O_callA [1] (now_A m b ts hT p hp) (by rfl) (by rfl) (by rfl) (by rfl) (by rfl) ?_
    | refine O_callA [2] (now_A m b ts hT p hp) (by rfl) (by rfl) (by rfl) (by rfl) (by rfl) ?_
    | refine O_callA [3] (now_A m b ts hT p hp) (by rfl) (by rfl) (by rfl) (by rfl) (by rfl) ?_
    | refine O_callA [4] (now_A m b ts hT p hp) (by rfl) (by rfl) (by rfl) (by rfl) (by rfl) ?_
  rintro r cs' ⟨rfl, rfl⟩
  repeat (first|refine sc rfl ?_|refine so rfl ?_|refine sb rfl ?_)
  refine O_call (plain_c (nowF ts p).text) (by rfl) (by rfl) (by rfl) (by rfl) (fun r hr => ?_)
  subst hr
  repeat (first|refine sc rfl ?_|refine so rfl ?_|refine sb rfl ?_)
  refine C_if rfl (fun m1 => ?_) (fun m1 => ?_) <;> simp only [pL] at m1
  · have hF : baseF ts rec deep p = (⟨plainF (nowF ts p).text, [], []⟩, p.next) := by unfold baseF; rw [if_pos m1]
    rw [hF]
    repeat (first|refine sc rfl ?_|refine so rfl ?_|refine sb rfl ?_)
    first
      | refine O_loadP 0 (reads_ps 1) rfl rfl rfl rfl rfl rfl ?_
      | refine O_loadP 1 (reads_ps 1) rfl rfl rfl rfl rfl rfl ?_
      | refine O_loadP 2 (reads_ps 1) rfl rfl rfl rfl rfl rfl ?_
      | refine O_loadP 3 (reads_ps 1) rfl rfl rfl rfl rfl rfl ?_
      | refine O_loadP 4 (reads_ps 1) rfl rfl rfl rfl rfl rfl ?_
    repeat (first|refine sc rfl ?_|refine so rfl ?_|refine sb rfl ?_)
    rw [w64 (x := (p.i : Int) + 1) (by omega) (by omega)]
    first
      | refine O_Xn (X_storeP 0 (writes_ps (p' := p.next) (by decide) rfl) rfl rfl rfl rfl rfl rfl rfl) ?_
      | refine O_Xn (X_storeP 1 (writes_ps (p' := p.next) (by decide) rfl) rfl rfl rfl rfl rfl rfl rfl) ?_
      | refine O_Xn (X_storeP 2 (writes_ps (p' := p.next) (by decide) rfl) rfl rfl rfl rfl rfl rfl rfl) ?_
      | refine O_Xn (X_storeP 3 (writes_ps (p' := p.next) (by decide) rfl) rfl rfl rfl rfl rfl rfl rfl) ?_
      | refine O_Xn (X_storeP 4 (writes_ps (p' := p.next) (by decide) rfl) rfl rfl rfl rfl rfl rfl rfl) ?_
    repeat (first | refine O_le _ (Le.agg 25 [I64 (plainF (nowF ts p).text), .s [], .sl ([] : List Ty).length 3 (Ty.rows ([] : List Ty))] rfl (.cons .refl (.cons .refl (.cons .nil .nil)))) ?_ | refine sc rfl ?_ | refine so rfl ?_ | refine sb rfl ?_)
    first
      | exact ⟨_, [_], _, rfl, pickA_perm (is := [0]) (As := [_]) rfl, rfl, rfl, rfl⟩
      | exact ⟨_, [_], _, rfl, pickA_perm (is := [1]) (As := [_]) rfl, rfl, rfl, rfl⟩
      | exact ⟨_, [_], _, rfl, pickA_perm (is := [2]) (As := [_]) rfl, rfl, rfl, rfl⟩
      | exact ⟨_, [_], _, rfl, pickA_perm (is := [3]) (As := [_]) rfl, rfl, rfl, rfl⟩
      | exact ⟨_, [_], _, rfl, pickA_perm (is := [4]) (As := [_]) rfl, rfl, rfl, rfl⟩
  repeat (first|refine sc rfl ?_|refine so rfl ?_|refine sb rfl ?_)
  first
    | refine O_callA [0] (may_A m b ts hT p hp [108, 105, 115, 116]) (by rfl) (by rfl) (by rfl) (by rfl) (by rfl) ?_
    | refine O_callA [1] (may_A m b ts hT p hp [108, 105, 115, 116]) (by rfl) (by rfl) (by rfl) (by rfl) (by rfl) ?_
    | refine O_callA [2] (may_A m b ts hT p hp [108, 105, 115, 116]) (by rfl) (by rfl) (by rfl) (by rfl) (by rfl) ?_
    | refine O_callA [3] (may_A m b ts hT p hp [108, 105, 115, 116]) (by rfl) (by rfl) (by rfl) (by rfl) (by rfl) ?_
    | refine O_callA [4] (may_A m b ts hT p hp [108, 105, 115, 116]) (by rfl) (by rfl) (by rfl) (by rfl) (by rfl) ?_
  rintro r cs' ⟨rfl, rfl⟩
  unfold mayP
  repeat (first|refine sc rfl ?_|refine so rfl ?_|refine sb rfl ?_)
  cases h2 : mayF ts [108, 105, 115, 116] p with
  | true =>
    have hF : baseF ts rec deep p = (⟨7, [], [(rec (deep + 1) (needF ts [60] p.next)).1]⟩, needF ts [62] (rec (deep + 1) (needF ts [60] p.next)).2) := by unfold baseF; rw [if_neg m1, if_pos h2]
    have l1 := next_lt hT hp h2
    have l2 := need_lt hT l1 [60]
    rw [hF]
    refine C_true rfl rfl ?_
    simp only [if_true]
    repeat (first|refine sc rfl ?_|refine so rfl ?_|refine sb rfl ?_)
    first
      | refine O_callA [0] (need_A m b ts hT p.next l1 [60]) (by rfl) (by rfl) (by rfl) (by rfl) (by rfl) ?_
      | refine O_callA [1] (need_A m b ts hT p.next l1 [60]) (by rfl) (by rfl) (by rfl) (by rfl) (by rfl) ?_
      | refine O_callA [2] (need_A m b ts hT p.next l1 [60]) (by rfl) (by rfl) (by rfl) (by rfl) (by rfl) ?_
      | refine O_callA [3] (need_A m b ts hT p.next l1 [60]) (by rfl) (by rfl) (by rfl) (by rfl) (by rfl) ?_
      | refine O_callA [4] (need_A m b ts hT p.next l1 [60]) (by rfl) (by rfl) (by rfl) (by rfl) (by rfl) ?_
    rintro r cs' ⟨rfl, rfl⟩
    repeat (first|refine sc rfl ?_|refine so rfl ?_|refine sb rfl ?_)
    rw [w64 (x := deep + 1) (by omega) (by omega)]
    generalize needF ts [60] p.next = p2 at *
    first
      | refine O_callA [0] (hrec p2 l2) (by rfl) (by rfl) (by rfl) (by rfl) (by rfl) ?_
      | refine O_callA [1] (hrec p2 l2) (by rfl) (by rfl) (by rfl) (by rfl) (by rfl) ?_
      | refine O_callA [2] (hrec p2 l2) (by rfl) (by rfl) (by rfl) (by rfl) (by rfl) ?_
      | refine O_callA [3] (hrec p2 l2) (by rfl) (by rfl) (by rfl) (by rfl) (by rfl) ?_
      | refine O_callA [4] (hrec p2 l2) (by rfl) (by rfl) (by rfl) (by rfl) (by rfl) ?_
    rintro r cs' ⟨rfl, rfl⟩
    have l3 := hrl p2 l2
    generalize rec (deep + 1) p2 = x at *
    obtain ⟨x1, p3⟩ := x
    simp only [] at l3 ⊢
    repeat (first|refine sc rfl ?_|refine so rfl ?_|refine sb rfl ?_)
    first
      | refine O_callA [0] (need_A m b ts hT p3 l3 [62]) (by rfl) (by rfl) (by rfl) (by rfl) (by rfl) ?_
      | refine O_callA [1] (need_A m b ts hT p3 l3 [62]) (by rfl) (by rfl) (by rfl) (by rfl) (by rfl) ?_
      | refine O_callA [2] (need_A m b ts hT p3 l3 [62]) (by rfl) (by rfl) (by rfl) (by rfl) (by rfl) ?_
      | refine O_callA [3] (need_A m b ts hT p3 l3 [62]) (by rfl) (by rfl) (by rfl) (by rfl) (by rfl) ?_
      | refine O_callA [4] (need_A m b ts hT p3 l3 [62]) (by rfl) (by rfl) (by rfl) (by rfl) (by rfl) ?_
    rintro r cs' ⟨rfl, rfl⟩
    repeat (first | refine O_le _ (Le.lit 38 Ty.c ([x1] : List Ty) rfl rfl rfl (by intro j hj; match j, hj with | 0, _ => rfl)) ?_ | refine O_le _ (Le.agg 39 [I64 7, .s [], .sl ([x1] : List Ty).length 3 (Ty.rows ([x1] : List Ty))] rfl (.cons .refl (.cons .refl (.cons (.row (fun i hi => (Ty.rows_eq _ i hi).symm)) .nil)))) ?_ | refine sc rfl ?_ | refine so rfl ?_ | refine sb rfl ?_)
    first
      | exact ⟨_, [_], _, rfl, pickA_perm (is := [0]) (As := [_]) rfl, rfl, rfl, rfl⟩
      | exact ⟨_, [_], _, rfl, pickA_perm (is := [1]) (As := [_]) rfl, rfl, rfl, rfl⟩
      | exact ⟨_, [_], _, rfl, pickA_perm (is := [2]) (As := [_]) rfl, rfl, rfl, rfl⟩
      | exact ⟨_, [_], _, rfl, pickA_perm (is := [3]) (As := [_]) rfl, rfl, rfl, rfl⟩
      | exact ⟨_, [_], _, rfl, pickA_perm (is := [4]) (As := [_]) rfl, rfl, rfl, rfl⟩
  | false =>
  refine C_false rfl rfl ?_
  simp only [Bool.false_eq_true, if_false]
  repeat (first|refine sc rfl ?_|refine so rfl ?_|refine sb rfl ?_)
  first
    | refine O_callA [0] (may_A m b ts hT p hp [109, 97, 112]) (by rfl) (by rfl) (by rfl) (by rfl) (by rfl) ?_
    | refine O_callA [1] (may_A m b ts hT p hp [109, 97, 112]) (by rfl) (by rfl) (by rfl) (by rfl) (by rfl) ?_
    | refine O_callA [2] (may_A m b ts hT p hp [109, 97, 112]) (by rfl) (by rfl) (by rfl) (by rfl) (by rfl) ?_
    | refine O_callA [3] (may_A m b ts hT p hp [109, 97, 112]) (by rfl) (by rfl) (by rfl) (by rfl) (by rfl) ?_
    | refine O_callA [4] (may_A m b ts hT p hp [109, 97, 112]) (by rfl) (by rfl) (by rfl) (by rfl) (by rfl) ?_
  rintro r cs' ⟨rfl, rfl⟩
  unfold mayP
  repeat (first|refine sc rfl ?_|refine so rfl ?_|refine sb rfl ?_)
  cases h3 : mayF ts [109, 97, 112] p with
  | true =>
    have hF : baseF ts rec deep p = (⟨8, [], [(rec (deep + 1) (needF ts [60] p.next)).1, (rec (deep + 1) (needF ts [44] (rec (deep + 1) (needF ts [60] p.next)).2)).1]⟩,
      needF ts [62] (rec (deep + 1) (needF ts [44] (rec (deep + 1) (needF ts [60] p.next)).2)).2) := by unfold baseF; rw [if_neg m1, if_neg (by rw [h2]; decide), if_pos h3]
    have l1 := next_lt hT hp h3
    have l2 := need_lt hT l1 [60]
    rw [hF]
    refine C_true rfl rfl ?_
    simp only [if_true]
    repeat (first|refine sc rfl ?_|refine so rfl ?_|refine sb rfl ?_)
    first
      | refine O_callA [0] (need_A m b ts hT p.next l1 [60]) (by rfl) (by rfl) (by rfl) (by rfl) (by rfl) ?_
      | refine O_callA [1] (need_A m b ts hT p.next l1 [60]) (by rfl) (by rfl) (by rfl) (by rfl) (by rfl) ?_
      | refine O_callA [2] (need_A m b ts hT p.next l1 [60]) (by rfl) (by rfl) (by rfl) (by rfl) (by rfl) ?_
      | refine O_callA [3] (need_A m b ts hT p.next l1 [60]) (by rfl) (by rfl) (by rfl) (by rfl) (by rfl) ?_
      | refine O_callA [4] (need_A m b ts hT p.next l1 [60]) (by rfl) (by rfl) (by rfl) (by rfl) (by rfl) ?_
    rintro r cs' ⟨rfl, rfl⟩
    repeat (first|refine sc rfl ?_|refine so rfl ?_|refine sb rfl ?_)
    rw [w64 (x := deep + 1) (by omega) (by omega)]
    generalize needF ts [60] p.next = p2 at *
    first
      | refine O_callA [0] (hrec p2 l2) (by rfl) (by rfl) (by rfl) (by rfl) (by rfl) ?_
      | refine O_callA [1] (hrec p2 l2) (by rfl) (by rfl) (by rfl) (by rfl) (by rfl) ?_
      | refine O_callA [2] (hrec p2 l2) (by rfl) (by rfl) (by rfl) (by rfl) (by rfl) ?_
      | refine O_callA [3] (hrec p2 l2) (by rfl) (by rfl) (by rfl) (by rfl) (by rfl) ?_
      | refine O_callA [4] (hrec p2 l2) (by rfl) (by rfl) (by rfl) (by rfl) (by rfl) ?_
    rintro r cs' ⟨rfl, rfl⟩
    have l3 := hrl p2 l2
    generalize rec (deep + 1) p2 = x at *
    obtain ⟨x1, p3⟩ := x
    simp only [] at l3 ⊢
    repeat (first|refine sc rfl ?_|refine so rfl ?_|refine sb rfl ?_)
    first
      | refine O_callA [0] (need_A m b ts hT p3 l3 [44]) (by rfl) (by rfl) (by rfl) (by rfl) (by rfl) ?_
      | refine O_callA [1] (need_A m b ts hT p3 l3 [44]) (by rfl) (by rfl) (by rfl) (by rfl) (by rfl) ?_
      | refine O_callA [2] (need_A m b ts hT p3 l3 [44]) (by rfl) (by rfl) (by rfl) (by rfl) (by rfl) ?_
      | refine O_callA [3] (need_A m b ts hT p3 l3 [44]) (by rfl) (by rfl) (by rfl) (by rfl) (by rfl) ?_
      | refine O_callA [4] (need_A m b ts hT p3 l3 [44]) (by rfl) (by rfl) (by rfl) (by rfl) (by rfl) ?_
    rintro r cs' ⟨rfl, rfl⟩
    have l4 := need_lt hT l3 [44]
    generalize needF ts [44] p3 = p4 at *
    repeat (first|refine sc rfl ?_|refine so rfl ?_|refine sb rfl ?_)
    rw [w64 (x := deep + 1) (by omega) (by omega)]
    first
      | refine O_callA [0] (hrec p4 l4) (by rfl) (by rfl) (by rfl) (by rfl) (by rfl) ?_
      | refine O_callA [1] (hrec p4 l4) (by rfl) (by rfl) (by rfl) (by rfl) (by rfl) ?_
      | refine O_callA [2] (hrec p4 l4) (by rfl) (by rfl) (by rfl) (by rfl) (by rfl) ?_
      | refine O_callA [3] (hrec p4 l4) (by rfl) (by rfl) (by rfl) (by rfl) (by rfl) ?_
      | refine O_callA [4] (hrec p4 l4) (by rfl) (by rfl) (by rfl) (by rfl) (by rfl) ?_
    rintro r cs' ⟨rfl, rfl⟩
    have l5 := hrl p4 l4
    generalize rec (deep + 1) p4 = y at *
    obtain ⟨x2, p5⟩ := y
    simp only [] at l5 ⊢
    repeat (first|refine sc rfl ?_|refine so rfl ?_|refine sb rfl ?_)
    first
      | refine O_callA [0] (need_A m b ts hT p5 l5 [62]) (by rfl) (by rfl) (by rfl) (by rfl) (by rfl) ?_
      | refine O_callA [1] (need_A m b ts hT p5 l5 [62]) (by rfl) (by rfl) (by rfl) (by rfl) (by rfl) ?_
      | refine O_callA [2] (need_A m b ts hT p5 l5 [62]) (by rfl) (by rfl) (by rfl) (by rfl) (by rfl) ?_
      | refine O_callA [3] (need_A m b ts hT p5 l5 [62]) (by rfl) (by rfl) (by rfl) (by rfl) (by rfl) ?_
      | refine O_callA [4] (need_A m b ts hT p5 l5 [62]) (by rfl) (by rfl) (by rfl) (by rfl) (by rfl) ?_
    rintro r cs' ⟨rfl, rfl⟩
    repeat (first | refine O_le _ (Le.lit 59 Ty.c ([x1, x2] : List Ty) rfl rfl rfl (by intro j hj; match j, hj with | 0, _ => rfl | 1, _ => rfl)) ?_ | refine O_le _ (Le.agg 60 [I64 8, .s [], .sl ([x1, x2] : List Ty).length 3 (Ty.rows ([x1, x2] : List Ty))] rfl (.cons .refl (.cons .refl (.cons (.row (fun i hi => (Ty.rows_eq _ i hi).symm)) .nil)))) ?_ | refine sc rfl ?_ | refine so rfl ?_ | refine sb rfl ?_)
    first
      | exact ⟨_, [_], _, rfl, pickA_perm (is := [0]) (As := [_]) rfl, rfl, rfl, rfl⟩
      | exact ⟨_, [_], _, rfl, pickA_perm (is := [1]) (As := [_]) rfl, rfl, rfl, rfl⟩
      | exact ⟨_, [_], _, rfl, pickA_perm (is := [2]) (As := [_]) rfl, rfl, rfl, rfl⟩
      | exact ⟨_, [_], _, rfl, pickA_perm (is := [3]) (As := [_]) rfl, rfl, rfl, rfl⟩
      | exact ⟨_, [_], _, rfl, pickA_perm (is := [4]) (As := [_]) rfl, rfl, rfl, rfl⟩
  | false =>
  have hF : baseF ts rec deep p = (⟨6, nameV ts p, []⟩, nameP ts p) := by unfold baseF; rw [if_neg m1, if_neg (by rw [h2]; decide), if_neg (by rw [h3]; decide)]
  rw [hF]
  refine C_false rfl rfl ?_
  simp only [Bool.false_eq_true, if_false]
  repeat (first|refine sc rfl ?_|refine so rfl ?_|refine sb rfl ?_)
  first
    | refine O_callA [0] (name_A m b ts hT p hp) (by rfl) (by rfl) (by rfl) (by rfl) (by rfl) ?_
    | refine O_callA [1] (name_A m b ts hT p hp) (by rfl) (by rfl) (by rfl) (by rfl) (by rfl) ?_
    | refine O_callA [2] (name_A m b ts hT p hp) (by rfl) (by rfl) (by rfl) (by rfl) (by rfl) ?_
    | refine O_callA [3] (name_A m b ts hT p hp) (by rfl) (by rfl) (by rfl) (by rfl) (by rfl) ?_
    | refine O_callA [4] (name_A m b ts hT p hp) (by rfl) (by rfl) (by rfl) (by rfl) (by rfl) ?_
  rintro r cs' ⟨rfl, rfl⟩
  repeat (first | refine O_le _ (Le.agg 63 [I64 6, .s (nameV ts p), .sl ([] : List Ty).length 3 (Ty.rows ([] : List Ty))] rfl (.cons .refl (.cons .refl (.cons .nil .nil)))) ?_ | refine sc rfl ?_ | refine so rfl ?_ | refine sb rfl ?_)
  first
    | exact ⟨_, [_], _, rfl, pickA_perm (is := [0]) (As := [_]) rfl, rfl, rfl, rfl⟩
    | exact ⟨_, [_], _, rfl, pickA_perm (is := [1]) (As := [_]) rfl, rfl, rfl, rfl⟩
    | exact ⟨_, [_], _, rfl, pickA_perm (is := [2]) (As := [_]) rfl, rfl, rfl, rfl⟩
    | exact ⟨_, [_], _, rfl, pickA_perm (is := [3]) (As := [_]) rfl, rfl, rfl, rfl⟩
    | exact ⟨_, [_], _, rfl, pickA_perm (is := [4]) (As := [_]) rfl, rfl, rfl, rfl⟩

include hT in
theorem typ_A : ∀ (n : Nat) (deep : Int) (hd : 0 ≤ deep ∧ deep ≤ 9) (hn : 10 ≤ deep + n) (p : PS) (hp : p.i < ts.length),
    FnA Tryz.prog 187 [PT b 0, I64 deep] [psA m b ts p] (fun r cs' => r = .agg (Ty.c (typF ts n deep p).1) ∧ cs' = [psA m b ts (typF ts n deep p).2])
  | 0, deep, hd, hn, p, hp => by omega
  | n + 1, deep, hd, hn, p, hp => by
    refine FnA.intro Tryz.tabOK Tryz.wide_ Tryz.func187 rfl (by decide) rfl (fun X => ?_)
    have hlen := hT.len
    have hdl : (dpP ts deep p).i < ts.length := by unfold dpP; split; rw [failF_i]; exact hp; exact hp
    have hbl := base_lt hT (rec := typF ts n) (deep := deep) (fun q hq => typ_lt hT n (deep + 1) q hq) hdl
    have hd8 : (dpP ts deep p).err = 0 → deep ≤ 8 := fun h => by
      by_cases h8 : 8 < deep
      · exact absurd h (by unfold dpP; rw [if_pos h8]; exact failF_err ts (by decide) p)
      · omega
    have hF : typF ts (n + 1) deep p = (if (dpP ts deep p).err ≠ 0 then (⟨0, [], []⟩, dpP ts deep p) else
      if mayF ts [63] (baseF ts (typF ts n) deep (dpP ts deep p)).2 then (⟨9, [], [(baseF ts (typF ts n) deep (dpP ts deep p)).1]⟩, (baseF ts (typF ts n) deep (dpP ts deep p)).2.next)
      else baseF ts (typF ts n) deep (dpP ts deep p)) := rfl
    repeat (first|refine sc rfl ?_|refine so rfl ?_|refine sb rfl ?_)
    refine C_ifJ ⟨[(0, PT b 0), (1, I64 deep), (4, .bp 4 0)], [.box 4 63 [I64 0, .s [], .v (.slice none 0 0)], .abs (psA m b ts (dpP ts deep p))]⟩ rfl (fun m1 => ?_) (fun m1 => ?_) (fun st h => C_le _ h ?_)
    · simp only [pL] at m1
      repeat (first|refine sc rfl ?_|refine so rfl ?_|refine sb rfl ?_)
      first
        | refine O_callA [0] (fail_A m b ts hT p hp 10) (by rfl) (by rfl) (by rfl) (by rfl) (by rfl) ?_
        | refine O_callA [1] (fail_A m b ts hT p hp 10) (by rfl) (by rfl) (by rfl) (by rfl) (by rfl) ?_
        | refine O_callA [2] (fail_A m b ts hT p hp 10) (by rfl) (by rfl) (by rfl) (by rfl) (by rfl) ?_
        | refine O_callA [3] (fail_A m b ts hT p hp 10) (by rfl) (by rfl) (by rfl) (by rfl) (by rfl) ?_
        | refine O_callA [4] (fail_A m b ts hT p hp 10) (by rfl) (by rfl) (by rfl) (by rfl) (by rfl) ?_
      rintro r cs' ⟨rfl, rfl⟩
      repeat (first|refine sc rfl ?_|refine so rfl ?_|refine sb rfl ?_)
      have e1 : dpP ts deep p = failF ts 10 p := by unfold dpP; rw [if_pos m1]
      rw [e1]
      exact Le.pick [1, 0] ⟨rfl, rfl, rfl, trivial⟩ rfl
    · simp only [pL] at m1
      repeat (first|refine sc rfl ?_|refine so rfl ?_|refine sb rfl ?_)
      have e1 : dpP ts deep p = p := by unfold dpP; rw [if_neg m1]
      rw [e1]
      exact Le.pick [0, 0] ⟨rfl, rfl, rfl, trivial⟩ rfl
    generalize dpP ts deep p = q at *
    repeat (first|refine sc rfl ?_|refine so rfl ?_|refine sb rfl ?_)
    first
      | refine O_callA [0] (well_A m b ts q) (by rfl) (by rfl) (by rfl) (by rfl) (by rfl) ?_
      | refine O_callA [1] (well_A m b ts q) (by rfl) (by rfl) (by rfl) (by rfl) (by rfl) ?_
      | refine O_callA [2] (well_A m b ts q) (by rfl) (by rfl) (by rfl) (by rfl) (by rfl) ?_
      | refine O_callA [3] (well_A m b ts q) (by rfl) (by rfl) (by rfl) (by rfl) (by rfl) ?_
      | refine O_callA [4] (well_A m b ts q) (by rfl) (by rfl) (by rfl) (by rfl) (by rfl) ?_
    rintro r cs' ⟨rfl, rfl⟩
    repeat (first|refine sc rfl ?_|refine so rfl ?_|refine sb rfl ?_)
    refine C_if rfl (fun m2 => ?_) (fun m2 => ?_) <;> simp only [pL] at m2
    · rw [if_pos m2] at hF
      rw [hF]
      repeat (first | refine O_le _ (Le.agg 13 [I64 0, .s [], .sl ([] : List Ty).length 3 (Ty.rows ([] : List Ty))] rfl (.cons .refl (.cons .refl (.cons .nil .nil)))) ?_ | refine sc rfl ?_ | refine so rfl ?_ | refine sb rfl ?_)
      first
        | exact ⟨_, [_], _, rfl, pickA_perm (is := [0]) (As := [_]) rfl, rfl, rfl, rfl⟩
        | exact ⟨_, [_], _, rfl, pickA_perm (is := [1]) (As := [_]) rfl, rfl, rfl, rfl⟩
        | exact ⟨_, [_], _, rfl, pickA_perm (is := [2]) (As := [_]) rfl, rfl, rfl, rfl⟩
        | exact ⟨_, [_], _, rfl, pickA_perm (is := [3]) (As := [_]) rfl, rfl, rfl, rfl⟩
        | exact ⟨_, [_], _, rfl, pickA_perm (is := [4]) (As := [_]) rfl, rfl, rfl, rfl⟩
    rw [if_neg (fun h => h m2)] at hF
    have hd8' := hd8 m2
    repeat (first|refine sc rfl ?_|refine so rfl ?_|refine sb rfl ?_)
    first
      | refine O_callA [0] (base_A m b ts hT (typF ts n) deep ⟨hd.1, hd8'⟩ (fun q hq => typ_lt hT n (deep + 1) q hq) (fun q hq => typ_A n (deep + 1) (by omega) (by omega) q hq) q hdl) (by rfl) (by rfl) (by rfl) (by rfl) (by rfl) ?_
      | refine O_callA [1] (base_A m b ts hT (typF ts n) deep ⟨hd.1, hd8'⟩ (fun q hq => typ_lt hT n (deep + 1) q hq) (fun q hq => typ_A n (deep + 1) (by omega) (by omega) q hq) q hdl) (by rfl) (by rfl) (by rfl) (by rfl) (by rfl) ?_
      | refine O_callA [2] (base_A m b ts hT (typF ts n) deep ⟨hd.1, hd8'⟩ (fun q hq => typ_lt hT n (deep + 1) q hq) (fun q hq => typ_A n (deep + 1) (by omega) (by omega) q hq) q hdl) (by rfl) (by rfl) (by rfl) (by rfl) (by rfl) ?_
      | refine O_callA [3] (base_A m b ts hT (typF ts n) deep ⟨hd.1, hd8'⟩ (fun q hq => typ_lt hT n (deep + 1) q hq) (fun q hq => typ_A n (deep + 1) (by omega) (by omega) q hq) q hdl) (by rfl) (by rfl) (by rfl) (by rfl) (by rfl) ?_
      | refine O_callA [4] (base_A m b ts hT (typF ts n) deep ⟨hd.1, hd8'⟩ (fun q hq => typ_lt hT n (deep + 1) q hq) (fun q hq => typ_A n (deep + 1) (by omega) (by omega) q hq) q hdl) (by rfl) (by rfl) (by rfl) (by rfl) (by rfl) ?_
    rintro r cs' ⟨rfl, rfl⟩
    generalize baseF ts (typF ts n) deep q = x at *
    obtain ⟨x1, p3⟩ := x
    simp only [] at hbl hF ⊢
    repeat (first|refine sc rfl ?_|refine so rfl ?_|refine sb rfl ?_)
    first
      | refine O_callA [0] (may_A m b ts hT p3 hbl [63]) (by rfl) (by rfl) (by rfl) (by rfl) (by rfl) ?_
      | refine O_callA [1] (may_A m b ts hT p3 hbl [63]) (by rfl) (by rfl) (by rfl) (by rfl) (by rfl) ?_
      | refine O_callA [2] (may_A m b ts hT p3 hbl [63]) (by rfl) (by rfl) (by rfl) (by rfl) (by rfl) ?_
      | refine O_callA [3] (may_A m b ts hT p3 hbl [63]) (by rfl) (by rfl) (by rfl) (by rfl) (by rfl) ?_
      | refine O_callA [4] (may_A m b ts hT p3 hbl [63]) (by rfl) (by rfl) (by rfl) (by rfl) (by rfl) ?_
    rintro r cs' ⟨rfl, rfl⟩
    unfold mayP
    repeat (first|refine sc rfl ?_|refine so rfl ?_|refine sb rfl ?_)
    cases h3 : mayF ts [63] p3 with
    | true =>
      rw [h3, if_pos rfl] at hF
      rw [hF]
      refine C_true rfl rfl ?_
      simp only [if_true]
      repeat (first | refine O_le _ (Le.lit 20 Ty.c ([x1] : List Ty) rfl rfl rfl (by intro j hj; match j, hj with | 0, _ => rfl)) ?_ | refine O_le _ (Le.agg 21 [I64 9, .s [], .sl ([x1] : List Ty).length 3 (Ty.rows ([x1] : List Ty))] rfl (.cons .refl (.cons .refl (.cons (.row (fun i hi => (Ty.rows_eq _ i hi).symm)) .nil)))) ?_ | refine sc rfl ?_ | refine so rfl ?_ | refine sb rfl ?_)
      first
        | exact ⟨_, [_], _, rfl, pickA_perm (is := [0]) (As := [_]) rfl, rfl, rfl, rfl⟩
        | exact ⟨_, [_], _, rfl, pickA_perm (is := [1]) (As := [_]) rfl, rfl, rfl, rfl⟩
        | exact ⟨_, [_], _, rfl, pickA_perm (is := [2]) (As := [_]) rfl, rfl, rfl, rfl⟩
        | exact ⟨_, [_], _, rfl, pickA_perm (is := [3]) (As := [_]) rfl, rfl, rfl, rfl⟩
        | exact ⟨_, [_], _, rfl, pickA_perm (is := [4]) (As := [_]) rfl, rfl, rfl, rfl⟩
    | false =>
      rw [h3, if_neg (by decide)] at hF
      rw [hF]
      refine C_false rfl rfl ?_
      simp only [Bool.false_eq_true, if_false]
      repeat (first|refine sc rfl ?_|refine so rfl ?_|refine sb rfl ?_)
      first
        | exact ⟨_, [_], _, rfl, pickA_perm (is := [0]) (As := [_]) rfl, rfl, rfl, rfl⟩
        | exact ⟨_, [_], _, rfl, pickA_perm (is := [1]) (As := [_]) rfl, rfl, rfl, rfl⟩
        | exact ⟨_, [_], _, rfl, pickA_perm (is := [2]) (As := [_]) rfl, rfl, rfl, rfl⟩
        | exact ⟨_, [_], _, rfl, pickA_perm (is := [3]) (As := [_]) rfl, rfl, rfl, rfl⟩
        | exact ⟨_, [_], _, rfl, pickA_perm (is := [4]) (As := [_]) rfl, rfl, rfl, rfl⟩
end
end Go.Proofs

namespace Go.Sy
open Go.RowKit

def setM (L : Nat → Bool) (i : Nat) : Nat → Bool := fun k => if k = i then true else L k

section
variable {P : Program} {T : Tab} {X : Ctx P T} {n : Nat} {e : Env} {st : St} {a : Act} {w : World} {ops : Array Oper} {K : St → Prop}

theorem any_of_M {p : Pl} {base : List (Nat × AV)} {C : (Nat → Bool) → List Ch} {D : Done} {Q : QX X} (hE : ∀ e ∈ p.E, e < ops.size) (hC : ∀ L L' : Nat → Bool, (∀ e ∈ p.E, L e = L' e) → C L = C L') (hA : p.ancB ops = true) (hbse : p.baseB base = true) (hD : D.length = ops.size)
    (hstep : ∀ i o, ops[i]? = some o → ∃ x, D[i]? = some (o.dst, x) ∧ p.creB i x = true ∧ ∀ L : Nat → Bool, (∀ a ∈ p.anc i, L a = true) → (∀ q, i ∈ p.anc q → L q = false) → L i = false → StepX X n ops p (availX p i (D.take i) o.after.toList base) (C L) (if i ∈ p.E then C (setM L i) else C L) i o x)
    (hedge : ∀ i o, ops[i]? = some o → ∀ e ∈ o.after, Region.binds .any e = true → e.on < i)
    (hdist : ∀ (i j : Nat) o o' d, ops[i]? = some o → ops[j]? = some o' → o.dst = some d → o'.dst = some d → i = j)
    (hbase : ∀ (i : Nat) o d, ops[i]? = some o → o.dst = some d → get base d = none)
    (hfin : ∀ e a w, Rel X n e ⟨finS base (killD p D), C (fun _ => true)⟩ a w → Q .normal a w) :
    ∀ (fuel : Nat) (listed : Array Bool) (a : Act) (w : World) (e : Env) (S : List (Nat × AV)), listed.size = ops.size → listed.toList.count false = fuel → ClosedL ops listed → Rel X n e ⟨S, C (fun e => listed.getD e false)⟩ a w →
      (∀ k y, get base k = some y → get S k = some y) →
      (∀ (i : Nat) d x, listed.getD i false = true → D[i]? = some (some d, x) → (∀ q ∈ p.ki, listed.getD q.1 false = true → x.noO q.2 = true) → get S d = some x) →
      (∀ k y, get S k = some y → ∀ q ∈ p.cre, listed.getD q.1 false = false → y.no q.2 = true) →
      wpAny P .any ops Q fuel listed a w := by
  have bspec : ∀ {l : List (Nat × AV)}, p.baseB l = true → ∀ k y, get l k = some y → (∀ q ∈ p.cre, y.no q.2 = true) ∧ ∀ q ∈ p.ki, y.noO q.2 = true := by
    intro l
    induction l with
    | nil => intro _ k y h; simp [get] at h
    | cons z l ih =>
      obtain ⟨j, v⟩ := z
      intro h k y hy
      simp only [Pl.baseB, Bool.and_eq_true, List.all_eq_true] at h
      rw [get_cons] at hy
      by_cases hj : j = k
      · rw [if_pos hj] at hy; cases hy; exact ⟨h.1.1, h.1.2⟩
      · rw [if_neg hj] at hy; exact ih h.2 k y hy
  have ancL : ∀ {listed : Array Bool}, ClosedL ops listed → ∀ i, i < ops.size → (∀ j ∈ predsB ops i, listed.getD j false = true) → ∀ a ∈ p.anc i, listed.getD a false = true := by
    intro listed hc i
    induction i using Nat.strongRecOn with
    | ind i ih =>
      intro hi hp a ha
      have h1 := List.all_eq_true.1 (List.all_eq_true.1 hA i (by simpa using hi)) a ha
      simp only [Bool.or_eq_true, List.contains_iff_mem, List.any_eq_true] at h1
      rcases h1 with h1 | ⟨q, hq, h1⟩
      · exact hp a h1
      · obtain ⟨o, ho, ed, he, hb, rfl⟩ := mem_preds hq
        have hlt := hedge i o ho ed he hb
        refine ih ed.on hlt (by omega) (fun j hj => ?_) a h1
        obtain ⟨o', ho', ed', he', hb', rfl⟩ := mem_preds hj
        exact hc ed.on o' (hp _ hq) ho' ed' he' hb'
  have ancLd : ∀ {listed : Array Bool}, listed.size = ops.size → ClosedL ops listed → ∀ i, listed.getD i false = true → ∀ a ∈ p.anc i, listed.getD a false = true := by
    intro listed hsz hc i hi
    have hlt : i < ops.size := by
      rcases Nat.lt_or_ge i ops.size with h | h
      · exact h
      · rw [← hsz] at h; simp [Nat.not_lt.2 h] at hi
    refine ancL hc i hlt (fun j hj => ?_)
    obtain ⟨o, ho, ed, he, hb, rfl⟩ := mem_preds hj
    exact hc i o hi ho ed he hb
  have progress : ∀ (listed : Array Bool), listed.size = ops.size → Region.ready .any ops listed = [] → ∀ i, i < ops.size → listed.getD i false = true := by
    intro listed hsz hr i
    induction i using Nat.strongRecOn with
    | ind i ih =>
      intro hi
      cases hl : listed.getD i true with
      | true =>
        have : i < listed.size := by omega
        simp [this] at hl ⊢
        exact hl
      | false =>
        exfalso
        have hmem : i ∈ Region.ready .any ops listed := by
          rw [mem_ready]
          refine ⟨hl, ops[i], by simp [hi], fun e he hb => ih e.on (hedge i ops[i] (by simp [hi]) e he hb) ?_⟩
          have := hedge i ops[i] (by simp [hi]) e he hb
          omega
        rw [hr] at hmem
        cases hmem
  have final : ∀ (listed : Array Bool) a w e S, listed.size = ops.size → Region.ready .any ops listed = [] → Rel X n e ⟨S, C (fun e => listed.getD e false)⟩ a w →
      (∀ k y, get base k = some y → get S k = some y) → (∀ (i : Nat) d x, listed.getD i false = true → D[i]? = some (some d, x) → (∀ q ∈ p.ki, listed.getD q.1 false = true → x.noO q.2 = true) → get S d = some x) → Q .normal a w := by
    intro listed a w e S hsz hr r hb hs
    rw [hC (fun e => listed.getD e false) (fun _ => true) (fun e he => progress listed hsz hr e (hE e he))] at r
    refine hfin e a w (r.less (fun k y hk => ?_) (fun h => h))
    rcases finS_get hk with ⟨i, hi⟩ | h
    · obtain ⟨hi, he⟩ := killD_get hi
      have hlt : i < D.length := by
        rcases Nat.lt_or_ge i D.length with h | h
        · exact h
        · rw [List.getElem?_eq_none h] at hi; cases hi
      exact hs i k y (progress listed hsz hr i (by omega)) hi (fun q hq _ => List.all_eq_true.1 he q hq)
    · exact hb k y h
  intro fuel
  induction fuel with
  | zero =>
    intro listed a w e S hsz hc hcl r hb hs hcr
    have hall : ∀ i, i < listed.size → listed.getD i true = true := by
      intro i hi
      cases hl : listed.getD i true with
      | true => rfl
      | false =>
        exfalso
        have : false ∈ listed.toList := by
          simp [hi] at hl
          exact List.mem_iff_getElem.2 ⟨i, by simpa using hi, by simpa using hl⟩
        have := List.count_pos_iff.2 this
        omega
    have hr : Region.ready .any ops listed = [] := by
      cases hrr : Region.ready .any ops listed with
      | nil => rfl
      | cons j js =>
        exfalso
        have hm : j ∈ Region.ready .any ops listed := by rw [hrr]; simp
        rw [mem_ready] at hm
        obtain ⟨h0, o, ho, _⟩ := hm
        have hlt : j < ops.size := (Array.getElem?_eq_some_iff.1 ho).1
        rw [hall j (by omega)] at h0
        cases h0
    exact ⟨hr, final listed a w e S hsz hr r hb hs⟩
  | succ fuel ih =>
    intro listed a w e S hsz hc hcl r hb hs hcr
    refine ⟨fun hr => final listed a w e S hsz hr r hb hs, fun i hi => ?_⟩
    rw [mem_ready] at hi
    obtain ⟨h0, o, ho, hpre⟩ := hi
    have hlt : i < ops.size := (Array.getElem?_eq_some_iff.1 ho).1
    have hif : listed.getD i false = false := by
      have : i < listed.size := by omega
      simp [this] at h0 ⊢
      exact h0
    have hlf : listed.toList[i]? = some false := by
      have : i < listed.size := by omega
      simp [this] at h0 ⊢
      exact h0
    have hpl : ∀ j ∈ predsB ops i, listed.getD j false = true := by
      intro j hj
      obtain ⟨o', ho', ed, he, hb', rfl⟩ := mem_preds hj
      rw [ho] at ho'
      cases ho'
      exact hpre ed he hb'
    have hanc := ancL hcl i hlt hpl
    obtain ⟨x, hx, hcre, hst⟩ := hstep i o ho
    unfold wpOp
    simp only [ho]
    have hhi : ∀ q, i ∈ p.anc q → listed.getD q false = false := fun q hq => by
      cases hb : listed.getD q false with
      | false => rfl
      | true => rw [ancLd hsz hcl q hb i hq] at hif; cases hif
    have hav : ∀ k y, get (availX p i (D.take i) o.after.toList base) k = some y → get S k = some y := by
      intro k y hk
      rcases availX_get hk with ⟨ed, h1, h2, h3, h5⟩ | h
      · have h4 : D[ed.on]? = some (some k, y) := by
          rw [List.getElem?_take] at h3
          split at h3
          · exact h3
          · cases h3
        refine hs ed.on k y (hpre ed (by simpa using h1) h2) h4 (fun q hq hql => ?_)
        have h6 := List.all_eq_true.1 h5 q hq
        simp only [Bool.or_eq_true, List.contains_iff_mem] at h6
        rcases h6 with (h6 | h6) | h6
        · exact h6
        · have := Nat.eq_of_beq_eq_true h6
          rw [← this, hif] at hql; cases hql
        · rw [ancLd hsz hcl q.1 hql i h6] at hif; cases hif
      · exact hb k y h
    have hset : ∀ j, j ≠ i → (listed.setIfInBounds i true).getD j false = listed.getD j false := fun j hj => getD_set_ne false (Ne.symm hj)
    have hseti : (listed.setIfInBounds i true).getD i false = true := by
      have : i < listed.size := by omega
      simp [this]
    have hphn : (if i ∈ p.E then C (setM (fun e => listed.getD e false) i) else C (fun e => listed.getD e false)) = C (fun e => (listed.setIfInBounds i true).getD e false) := by
      have h1 : C (setM (fun e => listed.getD e false) i) = C (fun e => (listed.setIfInBounds i true).getD e false) := by
        congr 1; funext k; unfold setM
        by_cases hk : k = i
        · rw [if_pos hk, hk, hseti]
        · rw [if_neg hk, hset k hk]
      by_cases hi : i ∈ p.E
      · rw [if_pos hi, h1]
      · rw [if_neg hi]
        exact hC _ _ (fun e he => (hset e (fun h => hi (h ▸ he))).symm)
    refine hst (fun e => listed.getD e false) hanc hhi hif e a w S _ Q r hav (fun k y hy q hq hqi => hcr k y hy q hq (by rw [hqi]; exact hif)) (fun e' a' w' S' r' hu => ?_)
    refine ih (listed.setIfInBounds i true) a' w' e' S' (by simpa using hsz) ?_ ?_ (by rw [← hphn]; exact r') (fun k y hk => ?_) (fun j d y hj hy hq => ?_) (fun k y hy q hq hql => ?_)
    · rw [Array.toList_setIfInBounds]
      have hlt' : i < listed.toList.length := by simpa using (by omega : i < listed.size)
      have hg : listed.toList[i] = false := by
        have := List.getElem?_eq_getElem hlt'
        rw [hlf] at this
        simpa using this.symm
      rw [List.count_set hlt', hg, hc]
      simp
    · intro j o' hj ho' ed he hb'
      by_cases hji : j = i
      · subst hji
        rw [ho] at ho'; cases ho'
        have := hpre ed he hb'
        by_cases h : ed.on = j
        · rw [h]; exact hseti
        · rw [hset _ h]; exact this
      · rw [hset j hji] at hj
        have := hcl j o' hj ho' ed he hb'
        by_cases h : ed.on = i
        · rw [h]; exact hseti
        · rw [hset _ h]; exact this
    · refine hu.2.1 k y (fun h => ?_) (hb k y hk) (fun q hq _ => (bspec hbse k y hk).2 q hq)
      rw [hbase i o k ho h] at hk; cases hk
    · by_cases hji : j = i
      · subst hji
        rw [hx] at hy
        simp only [Option.some.injEq, Prod.mk.injEq] at hy
        rw [← hy.2]
        exact hu.1 d hy.1
      · rw [hset j hji] at hj
        have hold := hs j d y hj hy (fun q hqk hql => hq q hqk (by
          by_cases h : q.1 = i
          · rw [h]; exact hseti
          · rw [hset _ h]; exact hql))
        refine hu.2.1 d y (fun h => ?_) hold (fun q hqk hqi => hq q hqk (by rw [hqi]; exact hseti))
        have hjl : j < ops.size := by
          rw [← hD]
          rcases Nat.lt_or_ge j D.length with h | h
          · exact h
          · rw [List.getElem?_eq_none h] at hy; cases hy
        obtain ⟨x', hx', _⟩ := hstep j ops[j] (by simp [hjl])
        rw [hx'] at hy
        simp only [Option.some.injEq, Prod.mk.injEq] at hy
        exact hji (hdist j i ops[j] o d (by simp [hjl]) ho hy.1 h)
    · have hqi : q.1 ≠ i := fun h => by rw [h, hseti] at hql; cases hql
      rw [hset _ hqi] at hql
      rcases hu.2.2 k y hy with ⟨_, rfl⟩ | h | rfl
      · have h6 := List.all_eq_true.1 hcre q hq
        simp only [Bool.or_eq_true, List.contains_iff_mem] at h6
        rcases h6 with (h6 | h6) | h6
        · exact absurd (Nat.eq_of_beq_eq_true h6) hqi
        · rw [hanc q.1 h6] at hql; cases hql
        · exact h6
      · exact hcr k y h q hq hql
      · rfl

def SymM {P : Program} {T : Tab} (X : Ctx P T) (n : Nat) (ops : Array Oper) (p : Pl) (base : List (Nat × AV)) (C : (Nat → Bool) → List Ch) (K : St → Prop) : List Oper → Done → Prop
  | [], done => K ⟨finS base (killD p done), C (fun _ => true)⟩
  | o :: rest, done => ∃ x, (p.creB done.length x = true ∧ ∀ L : Nat → Bool, (∀ a ∈ p.anc done.length, L a = true) → (∀ q, done.length ∈ p.anc q → L q = false) → L done.length = false → StepX X n ops p (availX p done.length done o.after.toList base) (C L) (if done.length ∈ p.E then C (setM L done.length) else C L) done.length o x) ∧
      SymM X n ops p base C K rest (done ++ [(o.dst, x)])

theorem SymM.plan {p : Pl} {base : List (Nat × AV)} {C : (Nat → Bool) → List Ch} : ∀ {l : List Oper} {done : Done}, SymM X n ops p base C K l done →
    ∃ D : Done, done <+: D ∧ D.length = done.length + l.length ∧ K ⟨finS base (killD p D), C (fun _ => true)⟩ ∧
      ∀ i o, l[i]? = some o → ∃ x, D[done.length + i]? = some (o.dst, x) ∧ p.creB (done.length + i) x = true ∧
        ∀ L : Nat → Bool, (∀ a ∈ p.anc (done.length + i), L a = true) → (∀ q, done.length + i ∈ p.anc q → L q = false) → L (done.length + i) = false → StepX X n ops p (availX p (done.length + i) (D.take (done.length + i)) o.after.toList base) (C L) (if done.length + i ∈ p.E then C (setM L (done.length + i)) else C L) (done.length + i) o x
  | [], done, h => ⟨done, List.prefix_refl _, by simp, h, fun i o hi => by simp at hi⟩
  | o :: rest, done, h => by
    obtain ⟨x, h1, h2⟩ := h
    obtain ⟨D, hp, hl, hK, hs⟩ := SymM.plan h2
    have hp' : done <+: D := (List.prefix_append done _).trans hp
    refine ⟨D, hp', by simp at hl ⊢; omega, hK, fun i o' hi => ?_⟩
    cases i with
    | zero =>
      simp only [List.getElem?_cons_zero, Option.some.injEq] at hi
      subst hi
      refine ⟨x, ?_, ?_⟩
      · obtain ⟨t, rfl⟩ := hp
        simp
      · obtain ⟨t, rfl⟩ := hp'
        simpa using h1
    | succ i =>
      obtain ⟨y, g1, g2⟩ := hs i o' (by simpa using hi)
      refine ⟨y, ?_, ?_⟩
      · simpa [Nat.add_assoc, Nat.add_comm 1 i] using g1
      · simpa [Nat.add_assoc, Nat.add_comm 1 i] using g2

theorem C_drawM (p : Pl) {id : Nat} {Q : Exit → St → Prop} {s base : List (Nat × AV)} {c : List Ch} (C : (Nat → Bool) → List Ch) (hb : eraseD ops.toList s = some base) (hchk : p.fine ops base = true) (hC : ∀ L L' : Nat → Bool, (∀ e ∈ p.E, L e = L' e) → C L = C L') (h0 : C (fun _ => false) = c)
    (h : SymM X n ops p base C (fun s => Q .normal s) ops.toList []) : SymC X n (.region id ops true) ⟨s, c⟩ Q := by
  intro e a w r
  have hbs : ∀ k y, get base k = some y → get s k = some y := fun k y hk => eraseD_get hb hk
  simp only [Pl.fine, Bool.and_eq_true] at hchk
  obtain ⟨⟨⟨g1, g2⟩, g3⟩, g4⟩ := hchk
  obtain ⟨D, _, hl, hK, hs⟩ := h.plan
  obtain ⟨c1, c2⟩ := chkD_spec g4
  have hbel : Below w.heap.size w { w with drawn := w.drawn + 1 } := ⟨rfl, rfl, rfl, Nat.le_refl _, fun _ _ => rfl⟩
  have hEs : ∀ e ∈ p.E, e < ops.size := fun e he => by
    have := List.all_eq_true.1 g3 e he
    simp [Nat.blt] at this; omega
  refine wp_region_any X.wide ?_
  have hrep : ∀ i, (Array.replicate ops.size false).getD i false = false := fun i => by
    rcases Nat.lt_or_ge i ops.size with h | h
    · simp [h]
    · simp [Nat.not_lt.2 h]
  refine any_of_M (X := X) (Q := concX X n Q) (n := n) (p := p) (base := base) (C := C) (D := D) hEs hC g1 g2 (by simpa using hl) (fun i o ho => ?_) (fun i o ho => ?_) (fun i j o o' d hi hj => c2 i j o o' d (by simpa using hi) (by simpa using hj)) (fun i o d ho hd => ((c1 i o (by simpa using ho)).2 d hd).1)
    (fun e a w r => ⟨e, _, r, hK⟩) _ _ a _ e base (by simp) (by simp) (fun j o hj => by rw [hrep] at hj; cases hj) ?_ (fun k y hk => hk) (fun i d x hi => by rw [hrep] at hi; cases hi) ?_
  · have := hs i o (by simpa using ho)
    simpa using this
  · simpa using (c1 i o (by simpa using ho)).1
  · have h1 : C (fun e => (Array.replicate ops.size false).getD e false) = C (fun _ => false) := hC _ _ (fun e _ => hrep e)
    rw [h1, h0]
    exact (r.below hbel).less hbs (fun h => h)
  · intro k y hy q hq _
    have : ∀ {l : List (Nat × AV)}, p.baseB l = true → get l k = some y → y.no q.2 = true := by
      intro l
      induction l with
      | nil => intro _ h; simp [get] at h
      | cons z l ih =>
        obtain ⟨j, v⟩ := z
        intro h hy
        simp only [Pl.baseB, Bool.and_eq_true, List.all_eq_true] at h
        rw [get_cons] at hy
        by_cases hj : j = k
        · rw [if_pos hj] at hy; cases hy; exact h.1.1 q hq
        · rw [if_neg hj] at hy; exact ih h.2 hy
    exact this g2 hy

def stepMK {P : Program} {T : Tab} (X : Ctx P T) (n : Nat) (ops : Array Oper) (p : Pl) (base : List (Nat × AV)) (C : (Nat → Bool) → List Ch) (K : St → Prop) : List Oper → Done → Option Prop
  | [], done => normG (finS base (killD p done)) fun s => some (K ⟨s, C (fun _ => true)⟩)
  | o :: rest, done => normG (availX p done.length done o.after.toList base) fun Si => match guardA ops ⟨Si, []⟩ o, dstOK n o.dst with
    | some true, true => (match stillX T ⟨Si, []⟩ o.op with
      | some (vc, x) => normA x fun x => (match p.creB done.length x, !(p.E.contains done.length) with
        | true, true => normG (done ++ [(o.dst, x)]) fun done => some (vc ∧ SymM X n ops p base C K rest done)
        | _, _ => none)
      | none => none)
    | some false, true => (match p.creB done.length (.tup []), !(p.E.contains done.length) with
        | true, true => normG (done ++ [(o.dst, .tup [])]) fun done => some (SymM X n ops p base C K rest done)
        | _, _ => none)
    | _, _ => none

theorem sm {p : Pl} {base : List (Nat × AV)} {C : (Nat → Bool) → List Ch} {l : List Oper} {done : Done} {q : Prop} (h : stepMK X n ops p base C K l done = some q) (hq : q) : SymM X n ops p base C K l done := by
  cases l with
  | nil =>
    simp only [stepMK, normG_eq, Option.some.injEq] at h
    subst h
    exact hq
  | cons o rest =>
    simp only [stepMK, normG_eq, normA_eq] at h
    split at h
    · rename_i hg hd
      split at h
      · rename_i vc x hs
        split at h
        · rename_i hc hE
          simp only [Option.some.injEq] at h
          subst h
          refine ⟨x, ⟨hc, fun L _ _ _ => ?_⟩, hq.2⟩
          rw [if_neg (not_mem_of_contains hE)]
          exact StepX.any hg hd hs hq.1
        · cases h
      · cases h
    · rename_i hg hd
      split at h
      · rename_i hc hE
        simp only [Option.some.injEq] at h
        subst h
        refine ⟨.tup [], ⟨hc, fun L _ _ _ => ?_⟩, hq⟩
        rw [if_neg (not_mem_of_contains hE)]
        exact X_none (by rw [guardA_any (c' := [])]; exact hg) hd
      · cases h
    · cases h

theorem SM {p : Pl} {base : List (Nat × AV)} {C : (Nat → Bool) → List Ch} {o : Oper} {rest : List Oper} {done : Done} (x : AV) (hc : p.creB done.length x = true)
    (h : ∀ L : Nat → Bool, (∀ a ∈ p.anc done.length, L a = true) → (∀ q, done.length ∈ p.anc q → L q = false) → L done.length = false → StepX X n ops p (availX p done.length done o.after.toList base) (C L) (if done.length ∈ p.E then C (setM L done.length) else C L) done.length o x)
    (k : normG (done ++ [(o.dst, x)]) fun done => SymM X n ops p base C K rest done) : SymM X n ops p base C K (o :: rest) done := by
  rw [normG_eq] at k
  exact ⟨x, ⟨hc, h⟩, k⟩
end
end Go.Sy
