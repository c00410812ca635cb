/- The law ReplyPuts answers true at every input, and its arguments read behind the call as they read before. There are no conditions. -/
import Derived.Test.YtgdlhcaidfokkaaSy14
import Derived.Test.YtgdlhcaidfokkaaT20
import Derived.SizedLaws
import Derived.Test.YtgdlhcaidfokkaaRows
set_option linter.unusedSimpArgs false
set_option linter.unusedVariables false
namespace Go.Proofs.Ytgdlhcaidfokkaa.replyPutsDone
open Go.Sy Go.RowKit Go.ChangeShapes Go.WideShapes Go.ChangeAt

theorem own : ownKnob Try.prog.godebug = none := by kernel_rfl
theorem laidOut : laidOutB Try.prog = true := by kernel_rfl
theorem c84 : Try.prog.cellsOf 84 = 3 := by kernel_rfl
theorem c60 : Try.prog.cellsOf 60 = 1 := by kernel_rfl
theorem c69 : Try.prog.cellsOf 69 = 1 := by kernel_rfl
theorem c9 : Try.prog.cellsOf 9 = 1 := by kernel_rfl

theorem three {α : Type} {l : List α} (h : l.length = 3) : ∃ a b c, l = [a, b, c] := by
  match l, h with
  | [a, b, c], _ => exact ⟨a, b, c, rfl⟩

set_option maxRecDepth 100000 in
theorem open84 {H : Type} {enc : TypeId × Value → H} {W : World} {fuel : Nat} {cs : List Value} {d : DataW H} {ps : List MemPlace}
    (hr : DataW.trod enc Try.prog W 0 (fun _ => true) true fuel 84 cs = some (d, ps)) :
    ∃ (m st : Int) (l : List UInt8), (Lit.int .u64 m).wf = true ∧ RepIL (memG W) [U64 m, I64 st, .s l] cs ∧ d = .agg [.lit (.int .u64 m), .lit (.int .i64 st), .lit (.string l)] := by
  obtain ⟨xs, n, rfl, hx, hl, hxs, hf⟩ := DataW.trod_struct Try.underlying84 hr
  rw [c84] at hl
  obtain ⟨v0, v1, v2, rfl⟩ := three hl
  · obtain ⟨x0, x1, x2, rfl⟩ := three (show xs.length = 3 from hxs)
    · have f0 : DataW.trod enc Try.prog W 0 (fun _ => true) true n 60 [v0] = some x0 := by
        have h : DataW.trod enc Try.prog W 0 (fun _ => true) true n 60 (([v0, v1, v2].drop 0).take (Try.prog.cellsOf 60)) = [x0, x1, x2][0]? := hf 0 _ rfl
        rw [c60] at h
        exact h
      have f1 : DataW.trod enc Try.prog W 0 (fun _ => true) true n 69 [v1] = some x1 := by
        have h : DataW.trod enc Try.prog W 0 (fun _ => true) true n 69 (([v0, v1, v2].drop 1).take (Try.prog.cellsOf 69)) = [x0, x1, x2][1]? := hf 1 _ rfl
        rw [c69] at h
        exact h
      have f2 : DataW.trod enc Try.prog W 0 (fun _ => true) true n 9 [v2] = some x2 := by
        have h : DataW.trod enc Try.prog W 0 (fun _ => true) true n 9 (([v0, v1, v2].drop 2).take (Try.prog.cellsOf 9)) = [x0, x1, x2][2]? := hf 2 _ rfl
        rw [c9] at h
        exact h
      obtain ⟨m, e0, g0, w0⟩ := DataW.trod_int Try.underlying60 (x := x0) f0
      obtain ⟨st, e1, g1, w1⟩ := DataW.trod_int Try.underlying69 (x := x1) f1
      obtain ⟨s, e2, g2, w2⟩ := DataW.trod_string Try.underlying9 (x := x2) f2
      simp at e0 e1 e2
      subst e0 e1 e2 g0 g1 g2
      simp only [Prod.mk.injEq] at hx
      refine ⟨m, st, s.data.toList, w0, ?_, hx.1⟩
      simp only [RepIL, RepI]
      exact ⟨_, _, rfl, rfl, rfl, _, _, rfl, rfl, rfl, _, _, rfl, rfl, rfl, rfl⟩

set_option maxRecDepth 100000 in
theorem lifted (os : Os) (started : os.Started) (H : Type) (enc : TypeId × Value → H) :
    ReturnsInHanded {} Try.checked os 9 .any (Rows.replyPutsSpec.pre6 enc Try.prog Try.f9 Rows.replyPutsRow.domain false) (Rows.replyPutsSpec.post enc Try.prog Try.f9 false true false false) := by
  refine returnsInHanded_of_change_sized (C := Try.checked) own started (by kernel_rfl) Try.func9
    (ChangeSpec.witness6 (enc := enc) (C := Try.checked) false ⟨#[], #[.agg #[.int .u64 0, .int .i64 0, .string ⟨#[]⟩], .int .i64 0], []⟩ 8 (by kernel_rfl) (by kernel_rfl) (by kernel_rfl) (by kernel_rfl)) ?_
  intro W base args ds gs before hval hW _ hsz _
  have hW' := hW
  obtain ⟨p, q, hA0, hV, rfl, hfz, hnd⟩ := hW
  have hA : DataW.TrodAll enc Try.prog W 0 (fun _ => true) true [84, 3] args.toList ds p := by
    have h := hA0
    rw [show Try.f9.params = #[84, 3] from Try.params9] at h
    exact h
  have hAk := hA
  obtain ⟨v0, vs0, d0, ds0, p0, q0, hargs, rfl, rfl, h0, r0⟩ := trodAll_cons hA
  obtain ⟨v1, vs1, d1, ds1, p1, q1, rfl, rfl, rfl, h1, r1⟩ := trodAll_cons r0
  obtain ⟨rfl, rfl, rfl⟩ := trodAll_nil r1
  obtain rfl : args = #[v0, v1] := by cases args; simp_all
  obtain ⟨rfl, rfl⟩ := trodVars_none hV
  have hv0 : Value.okWide Try.prog W .any base 84 v0 := hval 0 84 v0 (by rw [Try.params9]; rfl) rfl
  obtain ⟨cs, rfl⟩ : ∃ cs, v0 = .agg cs := by
    simp only [Value.okWide, Try.underlying84] at hv0
    obtain ⟨cs, h, _⟩ := hv0
    exact ⟨cs, h⟩
  obtain ⟨fuel, hf⟩ := h0
  obtain ⟨m, st, l, wm, hrep, rfl⟩ := open84 hf
  obtain ⟨n, rfl, rfl, rfl, wn⟩ := open_int Try.underlying3 (hval 1 3 v1 (by rw [Try.params9]; rfl) rfl) h1
  have hl : l.length ≤ reachBytes := by
    have hm : l.length ∈ DataW.weightsEach Try.prog (Try.f9.params.toList ++ Rows.replyPutsSpec.plain.varTypes Try.prog) ([.agg [.lit (.int .u64 m), .lit (.int .i64 st), .lit (.string l)], .lit (.int .i64 n)] ++ ([] : List (DataW H))) := by
      rw [Try.params9]
      simp [DataW.weightsEach, DataW.weights, Try.underlying84]
    simpa using List.all_eq_true.1 hsz _ hm
  have hm : 0 ≤ m ∧ m < 18446744073709551616 := by
    simp [Lit.wf, IntKind.has, IntKind.min, IntKind.max, IntKind.signed, IntKind.bits] at wm
    omega
  obtain ⟨k, rfl⟩ : ∃ k : Nat, m = (k : Int) := ⟨m.toNat, by omega⟩
  refine ((law35_p k st l n (by omega) (Nat.le_trans hl (by decide))).law (W := W) (args := #[.agg cs, .int .i64 n]) ?_).mono fun e W' ⟨he, bel⟩ => ?_
  · simp only [RepIT, RepI]
    exact ⟨_, _, rfl, ⟨cs, rfl, hrep⟩, _, _, rfl, rfl, rfl⟩
  subst he
  refine ⟨_, rfl, _, [], _, [], p0 ++ ([] ++ []), [], hW', ?_, ?_, rfl, bel.frame _, fun h => by cases h⟩
  · exact trodAll_mk1 (shut_bool Try.underlying4 _)
  · have := trodAll_below laidOut bel (ts := [84, 3]) (fun t ht => by
      simp only [List.mem_cons, List.not_mem_nil, or_false] at ht
      rcases ht with rfl | rfl <;> exact ⟨by kernel_rfl, of_decide_eq_true (by kernel_rfl)⟩) hAk
    rw [Try.params9]
    exact this

theorem over : Rows.replyPutsRow.holds Try.pinned (OpenSpec.ofChange Rows.replyPutsSpec) :=
  OpenClaim.holds_of_wide 9 Try.f9 rfl rfl rfl rfl rfl rfl rfl ⟨rfl, rfl, rfl, rfl, rfl⟩ rfl rfl rfl rfl rfl (by kernel_rfl) Try.func9 (by kernel_rfl)
    (of_decide_eq_true (by kernel_rfl)) (by unfold Func.isWrapper; first | (rw [if_pos (by decide +kernel)]; kernel_rfl) | (rw [if_neg (by decide +kernel)]; exact ⟨rfl, rfl⟩))
    (fun os started H enc _ => lifted os started H enc)

/-- THE STATEMENT. -/
theorem proved : Rows.ReplyPutsSaid := over
#print axioms proved
end Go.Proofs.Ytgdlhcaidfokkaa.replyPutsDone
