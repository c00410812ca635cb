/- The rows of the door seat whose arguments are a reply and a text. -/
import Derived.Test.YtgdlhcaidfokkaaDoorSy22
import Derived.Test.YtgdlhcaidfokkaaDoorD34
set_option linter.unusedSimpArgs false
set_option linter.unusedVariables false
set_option maxRecDepth 100000
namespace Go.Proofs
open Go.Sy Go.RowKit Go.ChangeShapes Go.WideShapes Go.ChangeAt

theorem dc33 : Tryd.prog.cellsOf 33 = 3 := by kernel_rfl
theorem dc31 : Tryd.prog.cellsOf 31 = 1 := by kernel_rfl
theorem dc26 : Tryd.prog.cellsOf 26 = 1 := by kernel_rfl
theorem dc9 : Tryd.prog.cellsOf 9 = 1 := by kernel_rfl
theorem doorRead33 : Tryd.prog.readableRec 33 = true := by kernel_rfl

theorem three {α : Type} {l : List α} (h : l.length = 3) : ∃ a b c, l = [a, b, c] := by
  match l, h with
  | [a, b, c], _ => exact ⟨a, b, c, rfl⟩

theorem open33 {H : Type} {enc : TypeId × Value → H} {W : World} {fuel : Nat} {cs : List Value} {d : DataW H} {ps : List MemPlace}
    (hr : DataW.trod enc Tryd.prog W 0 (fun _ => true) true fuel 33 cs = some (d, ps)) :
    ∃ (m st : Int) (l : List UInt8), ((Lit.int .u64 m).wf = true ∧ (Lit.int .i64 st).wf = true) ∧ RepIL (memG W) [U64 m, I64 st, .s l] cs ∧ d = .agg [.lit (.int .u64 m), .lit (.int .i64 st), .lit (.string l)] := by
  obtain ⟨xs, n, rfl, hx, hl, hxs, hf⟩ := DataW.trod_struct Tryd.underlying33 hr
  rw [dc33] at hl
  obtain ⟨v0, v1, v2, rfl⟩ := three hl
  obtain ⟨x0, x1, x2, rfl⟩ := three (show xs.length = 3 from hxs)
  have f0 : DataW.trod enc Tryd.prog W 0 (fun _ => true) true n 31 [v0] = some x0 := by
    have h : DataW.trod enc Tryd.prog W 0 (fun _ => true) true n 31 (([v0, v1, v2].drop 0).take (Tryd.prog.cellsOf 31)) = [x0, x1, x2][0]? := hf 0 _ rfl
    rw [dc31] at h
    exact h
  have f1 : DataW.trod enc Tryd.prog W 0 (fun _ => true) true n 26 [v1] = some x1 := by
    have h : DataW.trod enc Tryd.prog W 0 (fun _ => true) true n 26 (([v0, v1, v2].drop 1).take (Tryd.prog.cellsOf 26)) = [x0, x1, x2][1]? := hf 1 _ rfl
    rw [dc26] at h
    exact h
  have f2 : DataW.trod enc Tryd.prog W 0 (fun _ => true) true n 9 [v2] = some x2 := by
    have h : DataW.trod enc Tryd.prog W 0 (fun _ => true) true n 9 (([v0, v1, v2].drop 2).take (Tryd.prog.cellsOf 9)) = [x0, x1, x2][2]? := hf 2 _ rfl
    rw [dc9] at h
    exact h
  obtain ⟨m, e0, g0, w0⟩ := DataW.trod_int Tryd.underlying31 (x := x0) f0
  obtain ⟨st, e1, g1, w1⟩ := DataW.trod_int Tryd.underlying26 (x := x1) f1
  obtain ⟨s, e2, g2, w2⟩ := DataW.trod_string Tryd.underlying9 (x := x2) f2
  simp at e0 e1 e2
  subst e0 e1 e2 g0 g1 g2
  simp only [Prod.mk.injEq] at hx
  refine ⟨m, st, s.data.toList, ⟨w0, w1⟩, ?_, hx.1⟩
  simp only [RepIL, RepI]
  exact ⟨_, _, rfl, rfl, rfl, _, _, rfl, rfl, rfl, _, _, rfl, rfl, rfl, rfl⟩

/-- A reply and a text. -/
theorem rep2_call {fn : Func} {f : FuncId} {s : ChangeSpec} (hp : fn.params = #[33, 9]) (hrt : fn.resultTypes = #[4]) (hvars : s.vars = [])
    (hfn : ∀ (H : Type) (d d' : DataW H), s.fn H [d, d'] = { results := [.lit (.bool true)], args := [d, d'] })
    (hc : ∀ (n : Nat) (st : Int) (d m : List UInt8), n < 18446744073709551616 → -9223372036854775808 ≤ st ∧ st ≤ 9223372036854775807 → d.length ≤ reachBytes → m.length ≤ reachBytes → FnB Tryd.prog utfG f [.agg [U64 (n : Int), I64 st, .s d], .s m] (· = B true)) {H : Type} (enc : TypeId × Value → H) :
    ∀ (W : World) (base : Nat) (args : Array Value) (ds gs : List (DataW H)) (before : List MemPlace),
      (∀ (j : Nat) t v, fn.params[j]? = some t → args[j]? = some v → Value.okWide Tryd.prog W .any base t v) →
      DataW.Whole enc Tryd.prog fn.params.toList s.vars false W args.toList ds gs before →
      (DataW.weightsEach Tryd.prog (fn.params.toList ++ s.plain.varTypes Tryd.prog) (ds ++ gs)).all (· ≤ reachBytes) = true → Lib.Utf8Tabs 0 1 W →
      Calls Tryd.prog f args W fun e W' => ∃ v, e = .returned v ∧ s.post enc Tryd.prog fn false true false false W args v W' := by
  intro W base args ds gs before hval hW hsz hT
  have hW' := hW
  obtain ⟨p, q, hA0, hV, rfl, hfz, hnd⟩ := hW
  rw [hvars] at hV
  obtain ⟨rfl, rfl⟩ := trodVars_none hV
  have hA : DataW.TrodAll enc Tryd.prog W 0 (fun _ => true) true [33, 9] args.toList ds p := by
    rw [hp] at hA0
    exact hA0
  have hAk := hA
  obtain ⟨v0, vs0, d0, ds0, p0, q0, hargs, rfl, rfl, h0, r0⟩ := trodAll_cons hA
  obtain ⟨v1, vs1, d1, ds1, p1, q1, rfl, rfl, rfl, h1, r1⟩ := trodAll_cons r0
  obtain ⟨rfl, rfl, rfl⟩ := trodAll_nil r1
  obtain rfl : args = #[v0, v1] := by cases args; simp_all
  have hv0 : Value.okWide Tryd.prog W .any base 33 v0 := hval 0 33 v0 (by rw [hp]; rfl) rfl
  obtain ⟨cs, rfl⟩ : ∃ cs, v0 = .agg cs := by
    simp only [Value.okWide, Tryd.underlying33] at hv0
    obtain ⟨cs, h, _⟩ := hv0
    exact ⟨cs, h⟩
  obtain ⟨fuel, hf⟩ := h0
  obtain ⟨m, st, l, ⟨wm, ws⟩, hrep, rfl⟩ := open33 hf
  obtain ⟨x, rfl, rfl, rfl⟩ := str_open (hval 1 9 v1 (by rw [hp]; rfl) rfl) h1
  have hb : l.length ≤ reachBytes ∧ x.data.toList.length ≤ reachBytes := by
    have hm : ∀ k ∈ [l.length, x.data.toList.length], k ∈ DataW.weightsEach Tryd.prog (fn.params.toList ++ s.plain.varTypes Tryd.prog) ([.agg [.lit (.int .u64 m), .lit (.int .i64 st), .lit (.string l)], .lit (.string x.data.toList)] ++ ([] : List (DataW H))) := by
      rw [hp]
      intro k hk
      simp only [List.mem_cons, List.not_mem_nil, or_false] at hk
      rcases hk with rfl | rfl <;> simp [DataW.weightsEach, DataW.weights, Tryd.underlying33]
    exact ⟨by simpa using List.all_eq_true.1 hsz _ (hm _ (by simp)), by simpa using List.all_eq_true.1 hsz _ (hm _ (by simp))⟩
  have hm : 0 ≤ m ∧ m < 18446744073709551616 := by
    simp [Lit.wf, IntKind.has, IntKind.min, IntKind.max, IntKind.signed, IntKind.bits] at wm
    omega
  obtain ⟨k, rfl⟩ : ∃ k : Nat, m = (k : Int) := ⟨m.toNat, by omega⟩
  have hst : -9223372036854775808 ≤ st ∧ st ≤ 9223372036854775807 := by
    simp [Lit.wf, IntKind.has, IntKind.min, IntKind.max, IntKind.signed, IntKind.bits] at ws
    omega
  refine (FnB.law (hc k st l x.data.toList (by omega) hst hb.1 hb.2) (W := W) (args := #[.agg cs, .string x]) (utfG_of hT) ?_).mono fun e W' ⟨he, bel⟩ => ?_
  · simp only [RepIT, RepI]
    exact ⟨_, _, rfl, ⟨cs, rfl, hrep⟩, _, _, rfl, rfl, rfl⟩
  subst he
  refine ⟨_, rfl, _, [], _, [], p0 ++ ([] ++ []), [], hW', ?_, ?_, ?_, bel.frame _, fun h => by cases h⟩
  · rw [hrt]
    show DataW.TrodAll _ _ _ _ _ _ _ _ (s.fn H [.agg [.lit (.int .u64 (k : Int)), .lit (.int .i64 st), .lit (.string l)], .lit (.string x.data.toList)]).results _
    rw [hfn]
    exact trodAll_mk1 (shut_bool Tryd.underlying4 _)
  · have h5 := trodAll_below doorLaidOut bel (ts := [33, 9]) (fun t ht => by
      simp only [List.mem_cons, List.not_mem_nil, or_false] at ht
      rcases ht with rfl | rfl
      · exact ⟨doorRead33, of_decide_eq_true (by kernel_rfl)⟩
      · exact ⟨doorRead9, of_decide_eq_true (by kernel_rfl)⟩) hAk
    rw [hp]
    show DataW.TrodAll _ _ _ _ _ _ _ _ (s.fn H [.agg [.lit (.int .u64 (k : Int)), .lit (.int .i64 st), .lit (.string l)], .lit (.string x.data.toList)]).args _
    rw [hfn]
    exact h5
  · rw [hvars]
    show DataW.TrodVars enc Tryd.prog W' _ [] (s.fn H [.agg [.lit (.int .u64 (k : Int)), .lit (.int .i64 st), .lit (.string l)], .lit (.string x.data.toList)]).vars []
    rw [hfn]
    rfl
end Go.Proofs
