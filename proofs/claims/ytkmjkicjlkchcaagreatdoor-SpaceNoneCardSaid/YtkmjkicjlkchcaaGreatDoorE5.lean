/- A space without bindings: what is read of bodies. -/
import Derived.Test.YtkmjkicjlkchcaaGreatDoorE4
set_option linter.unusedSimpArgs false
set_option linter.unusedVariables false
set_option maxRecDepth 100000
namespace Go.Proofs
open Go.E
variable {Kn : IM} {m : Int}
def cfC (c : Nat → Int) : List AV := [I64 (c 0), I64 (c 1), I64 (c 2), I64 (c 3), I64 (c 4), I64 (c 5), I64 (c 6), I64 (c 7), I64 (c 8)]
def moC (k a n : Int) (c : Nat → Int) : List AV := [I64 k, I64 a, I64 n, I64 (c 0), I64 (c 1), I64 (c 2), I64 (c 3), I64 (c 4), I64 (c 5), I64 (c 6), I64 (c 7), I64 (c 8)]
abbrev sp0 (l : Arr De) (id : Int) (s : List UInt8) (y : Arr Int) : List Ch := spO ⟨false, l, false, id, s, y⟩
section
variable (l : Arr De) (id : Int) (s : List UInt8) (y : Arr Int)
theorem call_d (i w n : Int) (t : List UInt8) (k a b : Int) (c : Nat → Int) : FnD Tryz.prog Kn 178 2 [.bp 0 0, .agg [U64 i, I64 w, I64 n, .s t], .agg (moC k a b c)] (sp0 l id s y) 2 (fun _ : Int => True) (fun r => .tup [.s [], I64 r]) (fun _ => sp0 l id s y) := by
  refine go Tryz.func178 ?_
  repeat refine d1 ?_
  refine d2 ?_ ?_ <;> intro h <;> repeat refine d1 ?_
  · exact dEO (18 : Int) [0, 1]
  · refine dK (find_d n l id s y) [0, 1] [] ?_
    rintro r -
    repeat refine d1 ?_
    exact dEO (12 : Int) [0, 1]
theorem clo177_d (i w n : Int) (t : List UInt8) (k a b : Int) (c : Nat → Int) : FnD Tryz.prog Kn 177 5 [.bp 2 0, .bp 3 0, .bp 4 0] (sp0 l id s y ++ [.box 2 [.bp 0 0], .box 3 [U64 i, I64 w, I64 n, .s t], .box 4 (moC k a b c)]) 5 (fun _ : Int => True) (fun r => .tup [.s [], I64 r]) (fun _ => sp0 l id s y) := by
  refine go Tryz.func177 ?_
  repeat refine d1 ?_
  refine dK (call_d l id s y i w n t k a b c) [0, 1] [] ?_
  rintro r -
  repeat refine d1 ?_
  exact dEO r [0, 1, 2, 3, 4]
theorem clo175_d (i n o : Int) (t1 t2 : List UInt8) : FnD Tryz.prog Kn 175 4 [.bp 2 0, .bp 3 0] (sp0 l id s y ++ [.box 2 [.bp 0 0], .box 3 [U64 i, I64 n, .s t1, .s t2, I64 o]]) 4 (fun _ : Unit => True) (fun r => .tup [.s [], I64 17]) (fun _ => sp0 l id s y) := by
  refine go Tryz.func175 ?_
  repeat refine d1 ?_
  refine dK (bind_d l id s y i n o t1 t2) [0, 1] [] ?_
  rintro r -
  repeat refine d1 ?_
  exact dEO () [0, 1, 2, 3]
theorem clo173_d (hm : Kn 5 0 = some (.int .i64 m)) (t : List UInt8) : FnD Tryz.prog Kn 173 4 [.bp 2 0, .bp 3 0] (sp0 l id s y ++ [.box 2 [.bp 0 0], .box 3 [.s t]]) 5 (fun r : Int ⊕ Arr De => True) (fun r => .tup [.s [], match r with
    | .inl e => I64 e
    | .inr _ => I64 0]) (fun r => match r with
    | .inl _ => sp0 l id s y
    | .inr l2 => spO ⟨true, l2, false, id, s, y⟩ 1 4) := by
  refine go Tryz.func173 ?_
  repeat refine d1 ?_
  obtain ⟨e | l2, -, hF⟩ := take_d hm t l id s y
  all_goals
    dsimp only at hF
    refine dK hF.d [0, 1] [1000] ?_
    rintro r -
    repeat refine d1 ?_
  · exact dEO (.inl e) [0, 1, 2, 3, 1000]
  · exact dEO (.inr l2) [0, 1, 2, 3, 1000]
section
variable (b : List UInt8) (hb : b.length ≤ 9223372036854775807) (k a n : Int) (c : Nat → Int)
include hb
theorem readSchema_d : FnD Tryz.prog Kn 133 2 [.bp 0 0, .s b, .agg (moC k a n c)] (sp0 l id s y) 4 (fun r : Int × List UInt8 × Int => 0 ≤ r.1 ∧ r.1 < 18446744073709551616) (fun r => .tup [U64 r.1, .clo (.func 173) [] [.bp 2 0, .bp 3 0], I64 r.2.2]) (fun r => sp0 l id s y ++ [.box 2 [.bp 0 0], .box 3 [.s r.2.1]]) := by
  refine go Tryz.func133 ?_
  repeat refine d1 ?_
  refine dK (takeSchema_d b hb) [] [] ?_
  rintro ⟨i, t, e⟩ hr
  repeat refine d1 ?_
  exact dEO (i, t, e) [0, 1, 3, 10] (hp := hr)
theorem readBind_d : FnD Tryz.prog Kn 134 2 [.bp 0 0, .s b, .agg (moC k a n c)] (sp0 l id s y) 4 (fun r : (Int × Int × List UInt8 × List UInt8 × Int) × Int => 0 ≤ r.1.1 ∧ r.1.1 < 18446744073709551616) (fun r => .tup [U64 r.1.1, .clo (.func 175) [] [.bp 2 0, .bp 3 0], I64 r.2]) (fun r => sp0 l id s y ++ [.box 2 [.bp 0 0], .box 3 [U64 r.1.1, I64 r.1.2.1, .s r.1.2.2.1, .s r.1.2.2.2.1, I64 r.1.2.2.2.2]]) := by
  refine go Tryz.func134 ?_
  repeat refine d1 ?_
  refine dK (takeBind_d b hb) [] [] ?_
  rintro r hr
  repeat refine d1 ?_
  exact dEO r [0, 1, 3, 9] (hp := hr)
theorem readCall_d : FnD Tryz.prog Kn 135 2 [.bp 0 0, .s b, .agg (moC k a n c)] (sp0 l id s y) 5 (fun r : (Int × Int × Int × List UInt8) × Int => (0 ≤ r.1.1 ∧ r.1.1 < 18446744073709551616) ∧ (b = [5, 0, 0] → r = ((5, 0, 0, []), 0))) (fun r => .tup [U64 r.1.1, .clo (.func 177) [] [.bp 2 0, .bp 3 0, .bp 4 0], I64 r.2]) (fun r => sp0 l id s y ++ [.box 2 [.bp 0 0], .box 3 [U64 r.1.1, I64 r.1.2.1, I64 r.1.2.2.1, .s r.1.2.2.2], .box 4 (moC k a n c)]) := by
  refine go Tryz.func135 ?_
  repeat refine d1 ?_
  refine dK (takeCall_d b hb) [] [] ?_
  rintro r hr
  repeat refine d1 ?_
  exact dEO r [0, 1, 3, 9, 5] (hp := hr)
end
end
theorem read_d (k : Int) : FnD Tryz.prog Kn 79 0 [I64 k] [] 0 (fun r : Nat => r = if k = 6 then 133 else if k = 7 then 134 else 135) (fun r => .v (.func (.func r) ⟨[]⟩ ⟨[]⟩)) (fun _ => []) := by
  refine go Tryz.func79 ?_
  repeat' (first | refine d1 ?_ | refine d2 ?_ ?_ <;> intro h)
  · exact dEL (133 : Nat) (by rw [if_pos h]) rfl rfl
  · rename_i h0; exact dEL (134 : Nat) (by rw [if_neg h0, if_pos h]) rfl rfl
  · rename_i h0; exact dEL (135 : Nat) (by rw [if_neg h0, if_neg h]) rfl rfl
end Go.Proofs

/- A space without bindings: answers. -/
set_option linter.unusedSimpArgs false
set_option linter.unusedVariables false
set_option maxRecDepth 100000
namespace Go.Proofs
open Go.E
variable {Kn : IM} {m : Int}
theorem get0_d (h : Bool) (l : Arr De) (id q : Int) (s : List UInt8) (y : Arr Int) : FnD Tryz.prog Kn 77 (spN h) [.bp 0 10, U64 q] (spO ⟨h, l, false, id, s, y⟩) (spN h) (fun _ : Unit => True) (fun _ => .tup [.s [], B false]) (fun _ => spO ⟨h, l, false, id, s, y⟩) := by
  obtain ⟨r, rfl, hF⟩ := get_d (Kn := Kn) ⟨h, l, false, id, s, y⟩ q
  have : Sp.get ⟨h, l, false, id, s, y⟩ q = ([], false) := by simp [Sp.get]
  rw [this] at hF
  exact ⟨(), trivial, hF⟩
section
variable (l : Arr De) (id : Int) (s : List UInt8) (y : Arr Int) (hy : y.n ≤ 7) (b : List UInt8) (hb : b.length ≤ 9223372036854775807) (k a n : Int) (c : Nat → Int)
include hy hb
theorem answerA_d (hm : Kn 5 0 = some (.int .i64 m)) : FnD Tryz.prog Kn 36 2 [.bp 0 0, .s b, .agg (moC k a n c)] (sp0 l id s y) 2 (fun _ : List UInt8 => True) .s (fun _ => []) := by
  refine go Tryz.func36 ?_
  repeat refine d1 ?_
  obtain ⟨f, hf, hF⟩ := read_d (Kn := Kn) k
  have hf3 : f = 133 ∨ f = 134 ∨ f = 135 := by subst hf; split; exact .inl rfl; split; exact .inr (.inl rfl); exact .inr (.inr rfl)
  clear hf
  rcases hf3 with rfl | rfl | rfl
  all_goals
    refine dK hF.d [] [] ?_
    rintro r -
    repeat refine d1 ?_
  · refine dK (readSchema_d l id s y b hb k a n c) [0, 1] [1002, 1003] ?_
    rintro ⟨i, t, e⟩ hr
    have hi : 0 ≤ i ∧ i < 18446744073709551616 := hr
    repeat refine d1 ?_
    refine d2 ?_ ?_ <;> intro h <;> repeat refine d1 ?_
    · refine dK (fail_d20 0 1 (by decide) (by decide) (by decide)) [] [] ?_
      rintro _ rfl
      repeat refine d1 ?_
      exact dEO _ [0, 1]
    refine dK (get0_d false l id i s y) [0, 1] [] ?_
    rintro r -
    repeat refine d1 ?_
    refine dK (yTake_d false l false id i s y (by omega)) [0, 1] [] ?_
    intro y2 hy2
    repeat refine d1 ?_
    refine d2 ?_ ?_ <;> intro h2 <;> repeat refine d1 ?_
    · obtain ⟨st | l2, -, hF2⟩ := clo173_d l id s y2 hm t
      all_goals
        dsimp only at hF2
        refine dK hF2.d [0, 1, 1002, 1003] [1004] ?_
        rintro r -
        repeat refine d1 ?_
      · refine dK (replyPut_d _ _ [] hi.1 hi.2 (by decide)) [] [] ?_
        rintro _ rfl
        repeat refine d1 ?_
        refine dK (put_d81 false _ id i s _ y2) [0, 1] [] ?_
        rintro r -
        repeat refine d1 ?_
        exact dEO _ [0, 1]
      · refine dK (replyPut_d _ _ [] hi.1 hi.2 (by decide)) [] [] ?_
        rintro _ rfl
        repeat refine d1 ?_
        refine dK (put_d81 true _ id i s _ y2) [0, 1, 1004] [] ?_
        rintro r -
        repeat refine d1 ?_
        exact dEO _ [0, 1]
    · refine dK (replyPut_d _ _ [] hi.1 hi.2 (by decide)) [] [] ?_
      rintro _ rfl
      repeat refine d1 ?_
      refine dK (put_d81 false _ id i s _ y2) [0, 1] [] ?_
      rintro r -
      repeat refine d1 ?_
      exact dEO _ [0, 1]
  · refine dK (readBind_d l id s y b hb k a n c) [0, 1] [1002, 1003] ?_
    rintro ⟨⟨i, nn, t1, t2, o⟩, e⟩ hr
    have hi : 0 ≤ i ∧ i < 18446744073709551616 := hr
    repeat refine d1 ?_
    refine d2 ?_ ?_ <;> intro h <;> repeat refine d1 ?_
    · refine dK (fail_d20 0 1 (by decide) (by decide) (by decide)) [] [] ?_
      rintro _ rfl
      repeat refine d1 ?_
      exact dEO _ [0, 1]
    refine dK (get0_d false l id i s y) [0, 1] [] ?_
    rintro r -
    repeat refine d1 ?_
    refine dK (yTake_d false l false id i s y (by omega)) [0, 1] [] ?_
    intro y2 hy2
    repeat refine d1 ?_
    refine d2 ?_ ?_ <;> intro h2 <;> repeat refine d1 ?_
    · refine dK (clo175_d l id s y2 i nn o t1 t2) [0, 1, 1002, 1003] [] ?_
      rintro r -
      repeat refine d1 ?_
      refine dK (replyPut_d _ _ [] hi.1 hi.2 (by decide)) [] [] ?_
      rintro _ rfl
      repeat refine d1 ?_
      refine dK (put_d81 false _ id i s _ y2) [0, 1] [] ?_
      rintro r -
      repeat refine d1 ?_
      exact dEO _ [0, 1]
    · refine dK (replyPut_d _ _ [] hi.1 hi.2 (by decide)) [] [] ?_
      rintro _ rfl
      repeat refine d1 ?_
      refine dK (put_d81 false _ id i s _ y2) [0, 1] [] ?_
      rintro r -
      repeat refine d1 ?_
      exact dEO _ [0, 1]
  · refine dK (readCall_d l id s y b hb k a n c) [0, 1] [1002, 1003, 1004] ?_
    rintro ⟨⟨i, w, nn, t⟩, e⟩ hr
    have hi : 0 ≤ i ∧ i < 18446744073709551616 := hr.1
    repeat refine d1 ?_
    refine d2 ?_ ?_ <;> intro h <;> repeat refine d1 ?_
    · refine dK (fail_d20 0 1 (by decide) (by decide) (by decide)) [] [] ?_
      rintro _ rfl
      repeat refine d1 ?_
      exact dEO _ [0, 1]
    refine dK (get0_d false l id i s y) [0, 1] [] ?_
    rintro r -
    repeat refine d1 ?_
    refine dK (yTake_d false l false id i s y (by omega)) [0, 1] [] ?_
    intro y2 hy2
    repeat refine d1 ?_
    refine d2 ?_ ?_ <;> intro h2 <;> repeat refine d1 ?_
    · refine dK (clo177_d l id s y2 i w nn t k a n c) [0, 1, 1002, 1003, 1004] [] ?_
      intro st _
      repeat refine d1 ?_
      refine dK (replyPut_d _ _ [] hi.1 hi.2 (by decide)) [] [] ?_
      rintro _ rfl
      repeat refine d1 ?_
      refine dK (put_d81 false _ id i s _ y2) [0, 1] [] ?_
      rintro r -
      repeat refine d1 ?_
      exact dEO _ [0, 1]
    · refine dK (replyPut_d _ _ [] hi.1 hi.2 (by decide)) [] [] ?_
      rintro _ rfl
      repeat refine d1 ?_
      refine dK (put_d81 false _ id i s _ y2) [0, 1] [] ?_
      rintro r -
      repeat refine d1 ?_
      exact dEO _ [0, 1]
end
end Go.Proofs

/- A space without bindings: cancels; frames. -/
set_option linter.unusedSimpArgs false
set_option linter.unusedVariables false
set_option maxRecDepth 100000
namespace Go.Proofs
open Go.E
variable {Kn : IM} {m : Int}
def asksF (k : Int) : Bool := decide (k = 2) || (decide (k = 3) || (decide (k = 4) || (decide (k = 6) || decide (k = 7))))
theorem asks_d (k : Int) : FnD Tryz.prog Kn 34 0 [I64 k] [] 0 (fun r : Bool => r = asksF k) B (fun _ => []) := by
  refine go Tryz.func34 ?_
  repeat' (first | refine d1 ?_ | refine d2 ?_ ?_ <;> intro h)
  all_goals exact dEL _ (by simp_all [asksF]) rfl rfl
section
variable (l : Arr De) (id : Int) (s : List UInt8) (y : Arr Int) (hy : y.n ≤ 7)
include hy
theorem cancelA_d (b : List UInt8) (hb : b.length ≤ 9223372036854775807) : FnD Tryz.prog Kn 35 2 [.bp 0 0, .s b] (sp0 l id s y) 2 (fun _ : List UInt8 => True) .s (fun _ => []) := by
  refine go Tryz.func35 ?_
  repeat refine d1 ?_
  refine dK (takeCancel_d b hb) [] [] ?_
  rintro ⟨i, e⟩ ⟨hi, -⟩
  repeat refine d1 ?_
  refine d2 ?_ ?_ <;> intro h <;> repeat refine d1 ?_
  · refine dK (fail_d20 0 1 (by decide) (by decide) (by decide)) [] [] ?_
    rintro _ rfl
    repeat refine d1 ?_
    exact dEO _ [0, 1]
  refine dK (get0_d false l id i s y) [0, 1] [] ?_
  rintro r -
  repeat refine d1 ?_
  obtain ⟨_ | _, hr, hF⟩ := yPut_d (Kn := Kn) false l false id i s y hy
  all_goals
    dsimp only at hF
    refine dK hF.d [0, 1] [1002] ?_
    rintro r -
    repeat refine d1 ?_
    refine dK (fail_d20 i 0 hi.1 hi.2 (by decide)) [] [] ?_
    rintro _ rfl
    repeat refine d1 ?_
    exact dEO _ [0, 1]
theorem cancel5_d : FnD Tryz.prog Kn 35 2 [.bp 0 0, .s [5]] (sp0 l id s y) 3 (fun r : Bool => r = true ↔ ¬ ∃ i, i < y.n ∧ y.f i = 5) (fun _ => .s (putF Kn 5 0 []).1) (fun r => match r with
    | true => spO ⟨false, l, false, id, s, y.push 5⟩ 2
    | false => sp0 l id s y) := by
  refine go Tryz.func35 ?_
  repeat refine d1 ?_
  obtain ⟨⟨i, e⟩, ⟨-, hr⟩, hF⟩ := takeCancel_d (Kn := Kn) [5] (by decide)
  have h5 := hr rfl
  cases h5
  dsimp only at hF
  refine dK hF.d [] [] ?_
  rintro r -
  repeat refine d1 ?_
  refine dK (get0_d false l id 5 s y) [0, 1] [] ?_
  rintro r -
  repeat refine d1 ?_
  obtain ⟨_ | _, hr, hF⟩ := yPut_d (Kn := Kn) false l false id 5 s y hy
  all_goals
    dsimp only at hF
    refine dK hF.d [0, 1] [1002] ?_
    rintro r -
    repeat refine d1 ?_
    refine dK (fail_d20 5 0 (by decide) (by decide) (by decide)) [] [] ?_
    rintro _ rfl
    repeat refine d1 ?_
  · exact dEO false [0, 1, 1002] (hp := hr)
  · exact dEO true [0, 1, 1002] (hp := hr)
end
theorem cancelK_d (l : Arr De) (s : List UInt8) (y : Arr Int) : FnD Tryz.prog Kn 35 2 [.bp 0 0, .s [5]] (spO ⟨false, l, true, 5, s, y⟩) 2 (fun _ : Unit => True) (fun _ => .s (putF Kn 5 17 []).1) (fun _ => []) := by
  refine go Tryz.func35 ?_
  repeat refine d1 ?_
  obtain ⟨⟨i, e⟩, ⟨-, hr⟩, hF⟩ := takeCancel_d (Kn := Kn) [5] (by decide)
  have h5 := hr rfl
  cases h5
  dsimp only at hF
  refine dK hF.d [] [] ?_
  rintro r -
  repeat refine d1 ?_
  obtain ⟨r, rfl, hF2⟩ := get_d (Kn := Kn) ⟨false, l, true, 5, s, y⟩ 5
  have : Sp.get ⟨false, l, true, 5, s, y⟩ 5 = (s, true) := by simp [Sp.get]
  rw [this] at hF2
  dsimp only at hF2
  refine dK hF2.d [0, 1] [] ?_
  rintro r -
  repeat refine d1 ?_
  refine dK (fail_d20 5 17 (by decide) (by decide) (by decide)) [] [] ?_
  rintro _ rfl
  repeat refine d1 ?_
  exact dEO () [0, 1]
theorem answer5_d (l : Arr De) (id : Int) (s : List UInt8) (y : Arr Int) (hy : y.n ≤ 7) (h5 : ∃ i, i < y.n ∧ y.f i = 5) (a n : Int) (c : Nat → Int) : FnD Tryz.prog Kn 36 2 [.bp 0 0, .s [5, 0, 0], .agg (moC 2 a n c)] (sp0 l id s y) 2 (fun _ : Arr Int => True) (fun _ => .s (putF Kn 5 19 []).1) (fun r => spO ⟨false, l, true, 5, (putF Kn 5 19 []).1, r⟩) := by
  refine go Tryz.func36 ?_
  repeat refine d1 ?_
  obtain ⟨f, hf, hF⟩ := read_d (Kn := Kn) 2
  obtain rfl : f = 135 := hf
  refine dK hF.d [] [] ?_
  rintro r -
  repeat refine d1 ?_
  obtain ⟨⟨⟨i, w, nn, t⟩, e⟩, ⟨-, hr⟩, hF2⟩ := readCall_d (Kn := Kn) l id s y [5, 0, 0] (by decide) 2 a n c
  have h6 := hr rfl
  cases h6
  dsimp only at hF2
  refine dK hF2.d [0, 1] [1002, 1003, 1004] ?_
  rintro r -
  repeat refine d1 ?_
  refine dK (get0_d false l id 5 s y) [0, 1] [] ?_
  rintro r -
  repeat refine d1 ?_
  refine dK (yTake_d false l false id 5 s y (by omega)) [0, 1] [] ?_
  rintro y2 ⟨hy1, hy2, -⟩
  have hy3 := hy2.2 h5
  repeat refine d1 ?_
  refine d2 ?_ ?_ <;> intro h2 <;> repeat refine d1 ?_
  · exact absurd hy3 (by omega)
  refine dK (replyPut_d 5 19 [] (by decide) (by decide) (by decide)) [] [] ?_
  rintro _ rfl
  repeat refine d1 ?_
  refine dK (put_d81 false l id 5 s _ y2) [0, 1] [] ?_
  rintro r -
  repeat refine d1 ?_
  exact dEO y2 [0, 1]
section
variable (c : Nat → Int)
theorem doA_d (hm : Kn 5 0 = some (.int .i64 m)) (l : Arr De) (id : Int) (s : List UInt8) (y : Arr Int) (hy : y.n ≤ 7) (kd fl a n : Int) (b : List UInt8) (hb : b.length ≤ 9223372036854775807) : FnD Tryz.prog Kn 16 2 [.bp 0 0, .agg [I64 kd, I64 fl, .s b], I64 a, I64 n, .agg (cfC c)] (sp0 l id s y) 2 (fun _ : List UInt8 × Bool => True) (fun r => .tup [.s r.1, B r.2]) (fun _ => []) := by
  refine go Tryz.func16 ?_
  repeat refine d1 ?_
  refine dK (asks_d kd) [] [] ?_
  intro r hr
  repeat refine d1 ?_
  refine d2 ?_ ?_ <;> intro h <;> repeat refine d1 ?_
  · exact dEO ([], false) [0, 1]
  refine d2 ?_ ?_ <;> intro h2 <;> repeat refine d1 ?_
  · refine dK (cancelA_d l id s y hy b hb) [0, 1] [] ?_
    intro r _
    repeat refine d1 ?_
    exact dEO (r, true) [0, 1]
  refine d2 ?_ ?_ <;> intro h3 <;> repeat refine d1 ?_
  all_goals
    refine dK (answerA_d l id s y hy b hb kd _ _ c hm) [0, 1] [] ?_
    intro r _
    repeat refine d1 ?_
  · exact dEO ([], false) [0, 1]
  · exact dEO (r, true) [0, 1]
theorem doN_d (l : Arr De) (id : Int) (s : List UInt8) (y : Arr Int) (kd fl a n : Int) (b : List UInt8) (hk : asksF kd = false) : FnD Tryz.prog Kn 16 2 [.bp 0 0, .agg [I64 kd, I64 fl, .s b], I64 a, I64 n, .agg (cfC c)] (sp0 l id s y) 2 (fun _ : Unit => True) (fun r => .tup [.s [], B false]) (fun _ => sp0 l id s y) := by
  refine go Tryz.func16 ?_
  repeat refine d1 ?_
  refine dK (asks_d kd) [] [] ?_
  rintro r hr
  rw [hk] at hr
  subst hr
  repeat refine d1 ?_
  exact dEO () [0, 1]
theorem do5_d (l : Arr De) (id : Int) (s : List UInt8) (y : Arr Int) (hy : y.n ≤ 7) : FnD Tryz.prog Kn 16 2 [.bp 0 0, .agg [I64 4, I64 0, .s [5]], I64 0, I64 0, .agg (cfC c)] (sp0 l id s y) 3 (fun r : Bool => r = true ↔ ¬ ∃ i, i < y.n ∧ y.f i = 5) (fun _ => .tup [.s (putF Kn 5 0 []).1, B true]) (fun r => match r with
    | true => spO ⟨false, l, false, id, s, y.push 5⟩ 2
    | false => sp0 l id s y) := by
  refine go Tryz.func16 ?_
  repeat refine d1 ?_
  refine dK (asks_d 4) [] [] ?_
  rintro r hr
  obtain rfl : r = true := hr
  repeat refine d1 ?_
  obtain ⟨_ | _, hr, hF⟩ := cancel5_d (Kn := Kn) l id s y hy
  all_goals
    dsimp only at hF
    refine dK hF.d [0, 1] [1002] ?_
    rintro r -
    repeat refine d1 ?_
  · exact dEO false [0, 1, 1002] (hp := hr)
  · exact dEO true [0, 1, 1002] (hp := hr)
theorem doK_d (l : Arr De) (s : List UInt8) (y : Arr Int) : FnD Tryz.prog Kn 16 2 [.bp 0 0, .agg [I64 4, I64 0, .s [5]], I64 0, I64 0, .agg (cfC c)] (spO ⟨false, l, true, 5, s, y⟩) 2 (fun _ : Unit => True) (fun _ => .tup [.s (putF Kn 5 17 []).1, B true]) (fun _ => []) := by
  refine go Tryz.func16 ?_
  repeat refine d1 ?_
  refine dK (asks_d 4) [] [] ?_
  rintro r hr
  obtain rfl : r = true := hr
  repeat refine d1 ?_
  refine dK (cancelK_d l s y) [0, 1] [] ?_
  rintro r -
  repeat refine d1 ?_
  exact dEO () [0, 1]
theorem doCall_d (l : Arr De) (id : Int) (s : List UInt8) (y : Arr Int) (hy : y.n ≤ 7) (h5 : ∃ i, i < y.n ∧ y.f i = 5) : FnD Tryz.prog Kn 16 2 [.bp 0 0, .agg [I64 2, I64 0, .s [5, 0, 0]], I64 0, I64 0, .agg (cfC c)] (sp0 l id s y) 2 (fun _ : Arr Int => True) (fun _ => .tup [.s (putF Kn 5 19 []).1, B true]) (fun r => spO ⟨false, l, true, 5, (putF Kn 5 19 []).1, r⟩) := by
  refine go Tryz.func16 ?_
  repeat refine d1 ?_
  refine dK (asks_d 2) [] [] ?_
  rintro r hr
  obtain rfl : r = true := hr
  repeat refine d1 ?_
  refine dK (answer5_d l id s y hy h5 _ _ c) [0, 1] [] ?_
  rintro r -
  repeat refine d1 ?_
  exact dEO r [0, 1]
end
end Go.Proofs

/- A space: the law SpaceNone. -/
set_option linter.unusedSimpArgs false
set_option linter.unusedVariables false
set_option maxRecDepth 100000
namespace Go.Proofs
open Go.E
variable {Kn : IM} {m : Int}
def noDe : Arr De := Arr.nil ⟨0, [], Arr.nil ⟨0, [], .leaf 0 []⟩, Arr.nil ⟨0, [], [], [], false⟩, 0⟩
abbrev spNew : List Ch := sp0 noDe 0 [] (Arr.nil 0)
theorem spNew_d : FnD Tryz.prog Kn 10 0 [] [] 2 (fun _ : Unit => True) (fun _ => .bp 0 0) (fun _ => spNew) := by
  refine go Tryz.func10 ?_
  repeat refine d1 ?_
  refine dT ⟨[(0, .bp 2 0)], [.box 2 ((Sp.mk false noDe false 0 [] (Arr.nil 0)).cells NULL 1001), VEC 1001 1 u64C (Arr.nil 0)], [2, 1001]⟩ (Le.g [(1001, 1)] [] [2, 1001]) ?_
  exact dEO () [2, 1001]
theorem schema0_d : FnD Tryz.prog Kn 25 0 [NULL] [] 0 (fun _ : Unit => True) (fun _ => NIL) (fun _ => []) := by
  refine go Tryz.func25 ?_
  repeat refine d1 ?_
  exact dEL () trivial rfl rfl
theorem binds0_d : FnD Tryz.prog Kn 14 0 [NULL] [] 0 (fun _ : Unit => True) (fun _ => NIL) (fun _ => []) := by
  refine go Tryz.func14 ?_
  repeat refine d1 ?_
  exact dEL () trivial rfl rfl
theorem text0_d : FnD Tryz.prog Kn 13 0 [NULL] [] 0 (fun _ : Unit => True) (fun _ => .s []) (fun _ => []) := by
  refine go Tryz.func13 ?_
  repeat refine d1 ?_
  exact dEL () trivial rfl rfl
theorem size0_d : FnD Tryz.prog Kn 26 0 [NULL] [] 0 (fun _ : Unit => True) (fun _ => I64 0) (fun _ => []) := by
  refine go Tryz.func26 ?_
  repeat refine d1 ?_
  exact dEL () trivial rfl rfl
theorem kept0_d : FnD Tryz.prog Kn 12 0 [NULL] [] 0 (fun _ : Unit => True) (fun _ => NIL) (fun _ => []) := by
  refine go Tryz.func12 ?_
  repeat refine d1 ?_
  exact dEL () trivial rfl rfl
theorem tombs0_d : FnD Tryz.prog Kn 22 0 [NULL] [] 0 (fun _ : Unit => True) (fun _ => NIL) (fun _ => []) := by
  refine go Tryz.func22 ?_
  repeat refine d1 ?_
  exact dEL () trivial rfl rfl
theorem do0_d (c : Nat → Int) (kd fl a n : Int) (b : List UInt8) : FnD Tryz.prog Kn 16 0 [NULL, .agg [I64 kd, I64 fl, .s b], I64 a, I64 n, .agg (cfC c)] [] 0 (fun _ : Unit => True) (fun _ => .tup [.s [], B false]) (fun _ => []) := by
  refine go Tryz.func16 ?_
  repeat refine d1 ?_
  exact dEL () trivial rfl rfl
section
variable (l : Arr De) (id : Int) (s : List UInt8) (y : Arr Int)
theorem kept_d : FnD Tryz.prog Kn 12 2 [.bp 0 0] (sp0 l id s y) 2 (fun _ : Unit => True) (fun _ => NIL) (fun _ => sp0 l id s y) := by
  refine go Tryz.func12 ?_
  repeat refine d1 ?_
  refine dK (ids_d32 l id s y) [0, 1] [] ?_
  rintro r -
  repeat refine d1 ?_
  exact dEO () [0, 1]
theorem yIds_d (hy : y.n ≤ 1000) : FnD Tryz.prog Kn 42 2 [.bp 0 28] (sp0 l id s y) 2 (fun _ : Unit => True) (fun _ => SL 1 u64C y) (fun _ => sp0 l id s y) := by
  refine go Tryz.func42 ?_
  repeat refine d1 ?_
  refine dK (clone85_d y hy) [1] [] ?_
  rintro r -
  repeat refine d1 ?_
  exact dEO () [0, 1]
theorem tombs_d (hy : y.n ≤ 1000) : FnD Tryz.prog Kn 22 2 [.bp 0 0] (sp0 l id s y) 2 (fun _ : Unit => True) (fun _ => SL 1 u64C y) (fun _ => sp0 l id s y) := by
  refine go Tryz.func22 ?_
  repeat refine d1 ?_
  refine dK (yIds_d l id s y hy) [0, 1] [] ?_
  rintro r -
  repeat refine d1 ?_
  exact dEO () [0, 1]
end
theorem number_d41 (n : Int) (h : 0 ≤ n) (h1 : n ≤ 1000000) : FnD Tryz.prog Kn 41 0 [I64 n] [] 0 (fun r : List UInt8 => r.length ≤ 100 ∧ (n < 128 → r = [UInt8.ofNat n.toNat])) .s (fun _ => []) := by
  refine go Tryz.func41 ?_
  repeat refine d1 ?_
  refine dK (vPut_d (max n 0) (by omega) (by omega)) [] [] ?_
  intro r hr
  repeat refine d1 ?_
  exact dEL r (by rwa [show max n 0 = n by omega] at hr) rfl rfl
theorem putCancel_d : FnD Tryz.prog Kn 37 0 [U64 5] [] 0 (fun _ : Unit => True) (fun _ => .s [5]) (fun _ => []) := by
  refine go Tryz.func37 ?_
  repeat refine d1 ?_
  obtain ⟨r, hr, hF⟩ := vPut_d (Kn := Kn) 5 (by decide) (by decide)
  obtain rfl : r = [5] := hr.2 (by decide)
  refine dK hF.d [] [] ?_
  rintro r -
  repeat refine d1 ?_
  exact dEL () trivial rfl rfl
theorem putCall_d : FnD Tryz.prog Kn 21 0 [.agg [U64 5, I64 0, I64 0, .s []]] [] 0 (fun _ : Unit => True) (fun _ => .s [5, 0, 0]) (fun _ => []) := by
  refine go Tryz.func21 ?_
  repeat refine d1 ?_
  obtain ⟨r, hr, hF⟩ := vPut_d (Kn := Kn) 5 (by decide) (by decide)
  obtain rfl : r = [5] := hr.2 (by decide)
  obtain ⟨r, hr, hF2⟩ := number_d41 (Kn := Kn) 0 (by decide) (by decide)
  obtain rfl : r = [0] := hr.2 (by decide)
  repeat' (first | refine d1 ?_ | refine dG (fun _ => rfl) (by decide) ?_ | (refine dK hF.d [] [] ?_; rintro r -) | (refine dK hF2.d [] [] ?_; rintro r -))
  exact dEL () trivial rfl rfl
theorem cancel19_d : FnD Tryz.prog Kn 19 0 [U64 5] [] 0 (fun _ : Unit => True) (fun _ => .agg [I64 4, I64 0, .s [5]]) (fun _ => []) := by
  refine go Tryz.func19 ?_
  repeat refine d1 ?_
  refine dK putCancel_d [] [] ?_
  rintro r -
  repeat refine d1 ?_
  exact dEL () trivial rfl rfl
theorem awake36_d : FnD Tryz.prog Kn 9 0 [] [] 0 (fun r : Bool => r = true) B (fun _ => []) := by
  refine go Tryz.func9 ?_
  repeat refine d1 ?_
  refine dK spNew_d [] [1000, 1001] ?_
  rintro r -
  repeat refine d1 ?_
  refine dK cancel19_d [] [] ?_
  rintro r -
  repeat refine d1 ?_
  obtain ⟨_ | _, hr, hF⟩ := do5_d (Kn := Kn) (fun _ => 0) noDe 0 [] (Arr.nil 0) (by decide)
  · exact absurd (hr.2 (fun ⟨i, hi, _⟩ => absurd hi (Nat.not_lt_zero _))) (by decide)
  dsimp only at hF
  refine dK hF.d [1000, 1001] [1002] ?_
  rintro r -
  repeat refine d1 ?_
  refine dK cancel19_d [] [] ?_
  rintro r -
  repeat refine d1 ?_
  have h5 : ∃ i, i < ((Arr.nil 0).push 5 : Arr Int).n ∧ ((Arr.nil 0).push 5 : Arr Int).f i = 5 := ⟨0, by decide, rfl⟩
  obtain ⟨_ | _, hr2, hF2⟩ := do5_d (Kn := Kn) (fun _ => 0) noDe 0 [] ((Arr.nil 0).push 5) (by decide)
  · dsimp only at hF2
    refine dK hF2.d [1000, 1002] [1003] ?_
    rintro r -
    repeat refine d1 ?_
    refine dK putCall_d [] [] ?_
    rintro r -
    repeat refine d1 ?_
    refine dK (doCall_d (fun _ => 0) noDe 0 [] ((Arr.nil 0).push 5) (by decide) h5) [1000, 1002] [] ?_
    intro y2 _
    repeat refine d1 ?_
    refine dK cancel19_d [] [] ?_
    rintro r -
    repeat refine d1 ?_
    refine dK (doK_d (fun _ => 0) noDe _ y2) [1000, 1002] [] ?_
    rintro r -
    repeat refine d1 ?_
    refine dK (fail_d20 5 0 (by decide) (by decide) (by decide)) [] [] ?_
    rintro _ rfl
    repeat refine d1 ?_
    refine d2 ?_ ?_ <;> intro h <;> repeat refine d1 ?_
    · refine dK (fail_d20 5 19 (by decide) (by decide) (by decide)) [] [] ?_
      rintro _ rfl
      repeat refine d1 ?_
      refine d2 ?_ ?_ <;> intro h2 <;> repeat refine d1 ?_
      · refine dK (fail_d20 5 17 (by decide) (by decide) (by decide)) [] [] ?_
        rintro _ rfl
        repeat refine d1 ?_
        exact dEL _ (by simp) rfl rfl
      · exact absurd h2 (by simp)
    · exact absurd h (by simp)
  · exact absurd h5 (hr2.1 rfl)
set_option maxHeartbeats 1000000 in
/-- The law. -/
theorem law_d (hm : Kn 5 0 = some (.int .i64 m)) (kd fl a n : Int) (b : List UInt8) (hb : b.length ≤ 9223372036854775807) (c : Nat → Int) : FnD Tryz.prog Kn 6 0 [.agg [I64 kd, I64 fl, .s b, I64 a, I64 n], .agg (cfC c)] [] 0 (fun r : Bool => r = true) B (fun _ => []) := by
  refine go Tryz.func6 ?_
  repeat' (first | refine d1 ?_ | (refine dK (do0_d c kd fl a n b) [] [] ?_; rintro r -) | (refine dK schema0_d [] [] ?_; rintro r -) | (refine dK binds0_d [] [] ?_; rintro r -) | (refine dK text0_d [] [] ?_; rintro r -) | (refine dK size0_d [] [] ?_; rintro r -) | (refine dK kept0_d [] [] ?_; rintro r -) | (refine dK tombs0_d [] [] ?_; rintro r -) | (refine dK spNew_d [] [1000, 1001] ?_; rintro r -) | fail)
  cases hk : asksF kd with
  | true =>
    refine dK (doA_d c hm noDe 0 [] (Arr.nil 0) (by decide) kd fl a n b hb) [1000, 1001] [] ?_
    rintro ⟨d, has⟩ -
    repeat refine d1 ?_
    refine d2 ?_ ?_ <;> intro h <;> repeat refine d1 ?_
    · obtain ⟨_, rfl, hF⟩ := awake36_d (Kn := Kn)
      refine dK hF.d [] [] ?_
      rintro r -
      repeat refine d1 ?_
      exact dEL true rfl rfl rfl
    · exfalso
      simp [asksF] at hk h
      omega
  | false =>
    refine dK (doN_d c noDe 0 [] (Arr.nil 0) kd fl a n b hk) [1000, 1001] [] ?_
    rintro r -
    repeat refine d1 ?_
    refine d2 ?_ ?_ <;> intro h
    · exfalso
      simp [asksF] at hk h
      omega
    · repeat refine d1 ?_
      refine dK (kept_d noDe 0 [] (Arr.nil 0)) [1000, 1001] [] ?_
      rintro r -
      repeat refine d1 ?_
      refine dK (tombs_d noDe 0 [] (Arr.nil 0) (by decide)) [1000, 1001] [] ?_
      rintro r -
      repeat refine d1 ?_
      obtain ⟨_, rfl, hF⟩ := awake36_d (Kn := Kn)
      refine dK hF.d [] [] ?_
      rintro r -
      repeat refine d1 ?_
      exact dEL true rfl rfl rfl
end Go.Proofs
