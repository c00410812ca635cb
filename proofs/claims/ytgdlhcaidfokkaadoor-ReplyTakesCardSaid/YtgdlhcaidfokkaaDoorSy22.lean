/- The rows of the door seat: from the contract of a law over texts to what its row asks. -/
import Derived.Test.YtgdlhcaidfokkaaDoorSy14
import Derived.Test.YtgdlhcaidfokkaaDoorT21
import Derived.SizedLaws
import Derived.Lib.LaidU8
import Derived.PinnedBridge
import Derived.Lay
import Derived.Test.YtgdlhcaidfokkaaDoorCards
import Derived.Test.YtgdlhcaidfokkaaDoorTie
import Derived.Test.YtgdlhcaidfokkaaDoorShd
set_option linter.unusedSimpArgs false
set_option linter.unusedVariables false
set_option maxRecDepth 100000
namespace Go.Proofs
open Go.Sy Go.RowKit Go.ChangeShapes Go.WideShapes Go.ChangeAt

theorem FnB.law {P : Program} {Gb : IM} {f : FuncId} {avs : List AV} (h : FnB P Gb f avs (· = B true)) {W : World} {args : Array Value} (hG : ImOK Gb W) (hr : RepIT (memG W) avs args.toList) :
    Calls P f args W fun e w' => e = .returned (.bool true) ∧ Below W.heap.size W w' := by
  have h1 := h.2 (memG W) W args.toList hG (memG_ok W) hr
  rw [Array.toArray_toList] at h1
  refine h1.mono ?_
  rintro e w' ⟨r, cr, G', rfl, rfl, g1, g2, g3, g4, g5⟩
  simp only [RepI] at g1
  exact ⟨by rw [g1], g5⟩

theorem doorOwn : ownKnob Tryd.prog.godebug = none := by kernel_rfl
theorem doorLaidOut : laidOutB Tryd.prog = true := by kernel_rfl
theorem doorExtra : U8Extra Tryd.prog Tryd.lays260_ren := ⟨by kernel_rfl, by kernel_rfl, by kernel_rfl, by kernel_rfl, by kernel_rfl, by kernel_rfl, by kernel_rfl⟩
theorem doorRead9 : Tryd.prog.readableRec 9 = true := by kernel_rfl

/-- What both listed variables hold. -/
theorem doorTabs {laid : List (String × DataW Unit)} {W : World} (h : laidMet Tryd.prog laid W)
    (h1 : ("unicode/utf8.acceptRanges", YtgdlhcaidfokkaaDoor.Rows.laid_unicode_utf8_acceptRanges) ∈ laid) (h2 : ("unicode/utf8.first", YtgdlhcaidfokkaaDoor.Rows.laid_unicode_utf8_first) ∈ laid) : Lib.Utf8Tabs 0 1 W := by
  refine utf8Tabs_of_reads Tryd.lays260 doorExtra (w := W) ?_ ?_
  · have := Lib.laidMet.reads h h2
    rw [show YtgdlhcaidfokkaaDoor.Rows.laid_unicode_utf8_first = Lib.firstData from Pinned.utf8First_eq] at this
    exact this
  · have := Lib.laidMet.reads h h1
    rw [show (YtgdlhcaidfokkaaDoor.Rows.laid_unicode_utf8_acceptRanges : DataW Unit) = Lib.acceptData by kernel_rfl] at this
    exact this

theorem str_open {H : Type} {enc : TypeId × Value → H} {W : World} {base : Nat} {v : Value} {d : DataW H} {ps : List MemPlace} (hval : Value.okWide Tryd.prog W .any base 9 v) (hd : DataW.Trod enc Tryd.prog W 0 (fun _ => true) true 9 v d ps) :
    ∃ s : ByteArray, v = .string s ∧ d = .lit (.string s.data.toList) ∧ ps = [] := by
  obtain ⟨s, rfl⟩ := okWide_string Tryd.underlying9 hval
  obtain ⟨fuel, hf⟩ := hd
  obtain ⟨s', h, hx, hs⟩ := DataW.trod_string Tryd.underlying9 hf
  simp [Value.cells] at h
  subst h
  cases hx
  exact ⟨_, rfl, rfl, rfl⟩

/-- One text. -/
theorem str1_call {fn : Func} {f : FuncId} {s : ChangeSpec} (hp : fn.params = #[9]) (hrt : fn.resultTypes = #[4]) (hvars : s.vars = [])
    (hfn : ∀ (H : Type) (d : DataW H), s.fn H [d] = { results := [.lit (.bool true)], args := [d] })
    (hc : ∀ l : List UInt8, l.length ≤ reachBytes → FnB Tryd.prog utfG f [.s l] (· = B true)) {H : Type} (enc : TypeId × Value → H) :
    ∀ (W : World) (base : Nat) (args : Array Value) (ds gs : List (DataW H)) (before : List MemPlace),
      (∀ (j : Nat) t v, fn.params[j]? = some t → args[j]? = some v → Value.okWide Tryd.prog W .any base t v) →
      DataW.Whole enc Tryd.prog fn.params.toList s.vars false W args.toList ds gs before →
      (DataW.weightsEach Tryd.prog (fn.params.toList ++ s.plain.varTypes Tryd.prog) (ds ++ gs)).all (· ≤ reachBytes) = true → Lib.Utf8Tabs 0 1 W →
      Calls Tryd.prog f args W fun e W' => ∃ v, e = .returned v ∧ s.post enc Tryd.prog fn false true false false W args v W' := by
  intro W base args ds gs before hval hW hsz hT
  have hW' := hW
  obtain ⟨p, q, hA0, hV, rfl, hfz, hnd⟩ := hW
  rw [hvars] at hV
  obtain ⟨rfl, rfl⟩ := trodVars_none hV
  have hA : DataW.TrodAll enc Tryd.prog W 0 (fun _ => true) true [9] args.toList ds p := by
    rw [hp] at hA0
    exact hA0
  have hAk := hA
  obtain ⟨v0, vs0, d0, ds0, p0, q0, hargs, rfl, rfl, h0, r0⟩ := trodAll_cons hA
  obtain ⟨rfl, rfl, rfl⟩ := trodAll_nil r0
  obtain rfl : args = #[v0] := by cases args; simp_all
  obtain ⟨l, rfl, rfl, rfl⟩ := str_open (hval 0 9 v0 (by rw [hp]; rfl) rfl) h0
  have hl : l.data.toList.length ≤ reachBytes := by
    have hm : l.data.toList.length ∈ DataW.weightsEach Tryd.prog (fn.params.toList ++ s.plain.varTypes Tryd.prog) ([.lit (.string l.data.toList)] ++ ([] : List (DataW H))) := by
      rw [hp]
      simp [DataW.weightsEach, DataW.weights]
    simpa using List.all_eq_true.1 hsz _ hm
  refine (FnB.law (hc l.data.toList hl) (W := W) (args := #[.string l]) (utfG_of hT) ?_).mono fun e W' ⟨he, bel⟩ => ?_
  · simp only [RepIT, RepI]
    exact ⟨_, _, rfl, rfl, rfl⟩
  subst he
  refine ⟨_, rfl, _, [], _, [], [] ++ [], [], hW', ?_, ?_, ?_, bel.frame _, fun h => by cases h⟩
  · rw [hrt]
    show DataW.TrodAll _ _ _ _ _ _ _ _ (s.fn H [.lit (.string l.data.toList)]).results _
    rw [hfn]
    exact trodAll_mk1 (shut_bool Tryd.underlying4 _)
  · have h5 := trodAll_below doorLaidOut bel (ts := [9]) (fun t ht => by
      simp only [List.mem_cons, List.not_mem_nil, or_false] at ht
      subst ht
      exact ⟨doorRead9, of_decide_eq_true (by kernel_rfl)⟩) hAk
    rw [hp]
    show DataW.TrodAll _ _ _ _ _ _ _ _ (s.fn H [.lit (.string l.data.toList)]).args _
    rw [hfn]
    exact h5
  · rw [hvars]
    show DataW.TrodVars enc Tryd.prog W' _ [] (s.fn H [.lit (.string l.data.toList)]).vars []
    rw [hfn]
    rfl

/-- Two texts. -/
theorem str2_call {fn : Func} {f : FuncId} {s : ChangeSpec} (hp : fn.params = #[9, 9]) (hrt : fn.resultTypes = #[4]) (hvars : s.vars = [])
    (hfn : ∀ (H : Type) (d d' : DataW H), s.fn H [d, d'] = { results := [.lit (.bool true)], args := [d, d'] })
    (hc : ∀ l m : List UInt8, l.length ≤ reachBytes → m.length ≤ reachBytes → FnB Tryd.prog utfG f [.s l, .s m] (· = B true)) {H : Type} (enc : TypeId × Value → H) :
    ∀ (W : World) (base : Nat) (args : Array Value) (ds gs : List (DataW H)) (before : List MemPlace),
      (∀ (j : Nat) t v, fn.params[j]? = some t → args[j]? = some v → Value.okWide Tryd.prog W .any base t v) →
      DataW.Whole enc Tryd.prog fn.params.toList s.vars false W args.toList ds gs before →
      (DataW.weightsEach Tryd.prog (fn.params.toList ++ s.plain.varTypes Tryd.prog) (ds ++ gs)).all (· ≤ reachBytes) = true → Lib.Utf8Tabs 0 1 W →
      Calls Tryd.prog f args W fun e W' => ∃ v, e = .returned v ∧ s.post enc Tryd.prog fn false true false false W args v W' := by
  intro W base args ds gs before hval hW hsz hT
  have hW' := hW
  obtain ⟨p, q, hA0, hV, rfl, hfz, hnd⟩ := hW
  rw [hvars] at hV
  obtain ⟨rfl, rfl⟩ := trodVars_none hV
  have hA : DataW.TrodAll enc Tryd.prog W 0 (fun _ => true) true [9, 9] args.toList ds p := by
    rw [hp] at hA0
    exact hA0
  have hAk := hA
  obtain ⟨v0, vs0, d0, ds0, p0, q0, hargs, rfl, rfl, h0, r0⟩ := trodAll_cons hA
  obtain ⟨v1, vs1, d1, ds1, p1, q1, rfl, rfl, rfl, h1, r1⟩ := trodAll_cons r0
  obtain ⟨rfl, rfl, rfl⟩ := trodAll_nil r1
  obtain rfl : args = #[v0, v1] := by cases args; simp_all
  obtain ⟨l, rfl, rfl, rfl⟩ := str_open (hval 0 9 v0 (by rw [hp]; rfl) rfl) h0
  obtain ⟨m, rfl, rfl, rfl⟩ := str_open (hval 1 9 v1 (by rw [hp]; rfl) rfl) h1
  have hb : l.data.toList.length ≤ reachBytes ∧ m.data.toList.length ≤ reachBytes := by
    have hm : ∀ k ∈ [l.data.toList.length, m.data.toList.length], k ∈ DataW.weightsEach Tryd.prog (fn.params.toList ++ s.plain.varTypes Tryd.prog) ([.lit (.string l.data.toList), .lit (.string m.data.toList)] ++ ([] : List (DataW H))) := by
      rw [hp]
      intro k hk
      simp only [List.mem_cons, List.not_mem_nil, or_false] at hk
      rcases hk with rfl | rfl <;> simp [DataW.weightsEach, DataW.weights]
    exact ⟨by simpa using List.all_eq_true.1 hsz _ (hm _ (by simp)), by simpa using List.all_eq_true.1 hsz _ (hm _ (by simp))⟩
  refine (FnB.law (hc l.data.toList m.data.toList hb.1 hb.2) (W := W) (args := #[.string l, .string m]) (utfG_of hT) ?_).mono fun e W' ⟨he, bel⟩ => ?_
  · simp only [RepIT, RepI]
    exact ⟨_, _, rfl, rfl, _, _, rfl, rfl, rfl⟩
  subst he
  refine ⟨_, rfl, _, [], _, [], [] ++ ([] ++ []), [], hW', ?_, ?_, ?_, bel.frame _, fun h => by cases h⟩
  · rw [hrt]
    show DataW.TrodAll _ _ _ _ _ _ _ _ (s.fn H [.lit (.string l.data.toList), .lit (.string m.data.toList)]).results _
    rw [hfn]
    exact trodAll_mk1 (shut_bool Tryd.underlying4 _)
  · have h5 := trodAll_below doorLaidOut bel (ts := [9, 9]) (fun t ht => by
      simp only [List.mem_cons, List.not_mem_nil, or_false] at ht
      rcases ht with rfl | rfl <;> exact ⟨doorRead9, of_decide_eq_true (by kernel_rfl)⟩) hAk
    rw [hp]
    show DataW.TrodAll _ _ _ _ _ _ _ _ (s.fn H [.lit (.string l.data.toList), .lit (.string m.data.toList)]).args _
    rw [hfn]
    exact h5
  · rw [hvars]
    show DataW.TrodVars enc Tryd.prog W' _ [] (s.fn H [.lit (.string l.data.toList), .lit (.string m.data.toList)]).vars []
    rw [hfn]
    rfl
end Go.Proofs
