/- The symbolic walk, part 31: arguments that can be read, and are of a size: typed data whose texts are of bounded length. -/
import Derived.Test.YtgdlhcaidfokkaaSy14
import Derived.SizedLaws
set_option linter.unusedSimpArgs false
set_option linter.unusedVariables false
namespace Go.Sy
open Go.RowKit Go.WideShapes Go.ChangeShapes

def SizeOK {H : Type} (P : Program) (t : Nat) (d : DataW H) : Prop := ∀ k ∈ DataW.weights P t d, k ≤ reachBytes

/-- What reads as data of type t, of bounded size, is such a Lean datum. -/
def OpensS (P : Program) (t : Nat) {α : Type} (cells : α → List AV) (ok : α → Prop) : Prop :=
  ∀ (H : Type) (enc : TypeId × Value → H) (W : World) (fuel : Nat) (cs : List Value) (d : DataW H) (ps : List MemPlace),
    DataW.trod enc P W 0 (fun _ => true) true fuel t cs = some (d, ps) → SizeOK P t d → ∃ x : α, ok x ∧ RepIL (memG W) (cells x) cs

theorem OpensT.toS {P : Program} {t : Nat} {α : Type} {cells : α → List AV} {ok : α → Prop} (h : OpensT P t cells ok) : OpensS P t cells ok :=
  fun H enc W fuel cs d ps hr _ => h H enc W fuel cs d ps hr

theorem opensS_string {P : Program} {t : Nat} (h : P.underlying t = some .string) : OpensS P t (fun l : List UInt8 => [.s l]) (fun l => l.length ≤ reachBytes) := by
  intro H enc W fuel cs d ps hr hs
  obtain ⟨s, e, g, w⟩ := DataW.trod_string h (x := (d, ps)) hr
  subst e
  simp only [Prod.mk.injEq] at g
  obtain ⟨rfl, _⟩ := g
  refine ⟨s.data.toList, hs _ (by simp [DataW.weights]), ?_⟩
  simp only [RepIL, RepI, S]
  exact ⟨_, [], rfl, by cases s; rfl, rfl, rfl⟩

theorem mem_weightsAll {H : Type} {P : Program} {e : Nat} : ∀ {l : List (DataW H)} {d : DataW H} {k : Nat}, d ∈ l → k ∈ DataW.weights P e d → k ∈ DataW.weightsAll P e l
  | [], d, k, h, _ => by cases h
  | x :: l, d, k, h, hk => by
    simp only [DataW.weightsAll, List.mem_append]
    rcases List.mem_cons.1 h with rfl | h
    · exact .inl hk
    · exact .inr (mem_weightsAll h hk)

theorem opensS_slice {P : Program} {t e : Nat} {α : Type} [Inhabited α] {cells : α → List AV} {ok : α → Prop} {esz : Nat} (h : P.underlying t = some (.slice e)) (hsz : P.cellsOf e = esz) (hpos : 0 < esz)
    (hlen : ∀ x, (cells x).length = esz) (he : OpensS P e cells ok) :
    OpensS P t (fun l : List α => [SL esz cells l]) (fun l => l.length ≤ maxLen ∧ ∀ i, i < l.length → ok (l.getD i default)) := by
  intro H enc W fuel cs d ps hr hsz0
  cases fuel with
  | zero => simp [DataW.trod] at hr
  | succ fuel =>
    unfold DataW.trod at hr
    rw [h] at hr
    simp only at hr
    split at hr <;> try (simp_all; done)
    · refine ⟨[], ⟨by simp, by simp⟩, ?_⟩
      simp only [RepIL, RepI]
      exact ⟨_, [], rfl, ⟨none, 0, rfl, Nat.le_refl _, .inl rfl⟩, rfl, rfl⟩
    · rename_i e' a len cap heq
      cases heq
      split at hr
      · rename_i hc
        obtain ⟨_, hlc, hcm⟩ := hc
        cases hm : (List.range len).mapM (fun i => (W.cells? 0 (a.add (i * P.cellsOf e)) (P.cellsOf e)).bind (DataW.trod enc P W 0 (fun _ => true) true fuel e)) with
        | none => rw [hm] at hr; simp at hr
        | some xs =>
          rw [hm] at hr
          simp only [Option.bind_some, Option.map_eq_some_iff] at hr
          obtain ⟨rest, _, hr⟩ := hr
          simp only [Prod.mk.injEq] at hr
          obtain ⟨rfl, _⟩ := hr
          have hw : ∀ x ∈ xs, SizeOK P e x.1 := fun x hx k hk => hsz0 k (by
            unfold DataW.weights
            rw [h]
            simp only [List.mem_cons, List.mem_append]
            exact .inr (.inl (mem_weightsAll (List.mem_map.2 ⟨x, hx, rfl⟩) hk)))
          have key : ∀ i, i < len → ∃ x : α, ok x ∧ ∃ row : List Value, W.cells? 0 (a.add (i * esz)) esz = some row ∧ RepIL (memG W) (cells x) row := by
            intro i hi
            obtain ⟨x, hx, hxi⟩ := mapM_get hm i i (List.getElem?_range hi)
            have hxm : x ∈ xs := List.mem_of_getElem? hxi
            rw [hsz] at hx
            cases hrow : W.cells? 0 (a.add (i * esz)) esz with
            | none => rw [hrow] at hx; simp at hx
            | some row =>
              rw [hrow] at hx
              simp only [Option.bind_some] at hx
              obtain ⟨y, hy, hyr⟩ := he H enc W fuel row x.1 x.2 hx (hw x hxm)
              exact ⟨y, hy, row, rfl, hyr⟩
          obtain ⟨l, hl, hq⟩ := choose_list (Q := fun i x => ok x ∧ ∃ row : List Value, W.cells? 0 (a.add (i * esz)) esz = some row ∧ RepIL (memG W) (cells x) row) len key
          have cellsq : ∀ (ad : Addr) (row : List Value), W.cells? 0 ad esz = some row → ∀ (j : Nat) (z : Value), row[j]? = some z → W.cell? (ad.add j) = some z := by
            intro ad row hrow j z hz
            unfold World.cells? at hrow
            rw [if_pos (Nat.zero_le _)] at hrow
            have hjl : j < esz := by
              have := mapM_len hrow
              rcases Nat.lt_or_ge j esz with h | h
              · exact h
              · rw [List.getElem?_eq_none (by rw [this]; simpa using h)] at hz; cases hz
            obtain ⟨x, hx, hx2⟩ := mapM_get hrow j j (List.getElem?_range hjl)
            rw [hx2] at hz; cases hz
            exact hx
          refine ⟨l, ⟨by omega, fun i hi => (hq i (by omega)).1⟩, ?_⟩
          simp only [RepIL]
          refine ⟨_, [], rfl, ?_, rfl, rfl⟩
          simp only [RepI]
          refine ⟨some a, cap, by rw [hl], by omega, ?_⟩
          rcases Nat.eq_zero_or_pos len with h0 | h0
          · exact .inl (by omega)
          · refine .inr ?_
            have hspot : a.spot = none := by
              obtain ⟨_, row, hrow, hrep⟩ := hq 0 h0
              have hrl := RepIL.len hrep
              rw [hlen] at hrl
              have h1 := cellsq _ row hrow 0 (row[0]'(by omega)) (by simp)
              simp only [Nat.zero_mul] at h1
              have : ((a.add 0).add 0) = a := by simp [Addr.add]
              rw [this] at h1
              exact World.cell?_spot h1
            obtain ⟨b, o, sp⟩ := a
            simp only at hspot
            subst hspot
            refine ⟨b, o, rfl, fun i hi => CellsAt.mk (fun j c hc => ?_)⟩
            obtain ⟨_, row, hrow, hrep⟩ := hq i (by omega)
            obtain ⟨z, z1, z2, z3⟩ := hrep.get j c hc
            refine ⟨z, ?_, z2, z3⟩
            have := cellsq _ row hrow j z z1
            rw [add_addr, add_addr] at this
            exact this
      · cases hr

/-- Fields, from a place on. -/
def OpensFS (P : Program) (l : List Field) (start total : Nat) {α : Type} (cells : α → List AV) (ok : α → Prop) : Prop :=
  ∀ (H : Type) (enc : TypeId × Value → H) (W : World) (fuel : Nat) (cs : List Value) (xs : List (DataW H × List MemPlace)), cs.length = total →
    l.mapM (fun f => DataW.trod enc P W 0 (fun _ => true) true fuel f.type ((cs.drop f.offset).take (P.cellsOf f.type))) = some xs → (∀ k ∈ DataW.weightsEach P (l.map (·.type)) (xs.map (·.1)), k ≤ reachBytes) → ∃ x : α, ok x ∧ RepIL (memG W) (cells x) (cs.drop start)

theorem opensFS_nil {P : Program} {total : Nat} : OpensFS P [] total total (fun _ : Unit => []) (fun _ => True) := by
  intro H enc W fuel cs xs hl _ _
  exact ⟨(), trivial, by simp only [RepIL]; exact List.drop_eq_nil_of_le (by omega)⟩

theorem opensFS_cons {P : Program} {f : Field} {l : List Field} {start total sz : Nat} {α β : Type} {cells : α → List AV} {ok : α → Prop} {cells2 : β → List AV} {ok2 : β → Prop}
    (hoff : f.offset = start) (hsz : P.cellsOf f.type = sz) (h1 : OpensS P f.type cells ok) (h2 : OpensFS P l (start + sz) total cells2 ok2) :
    OpensFS P (f :: l) start total (fun p : α × β => cells p.1 ++ cells2 p.2) (fun p => ok p.1 ∧ ok2 p.2) := by
  intro H enc W fuel cs xs hl hm hw
  rw [List.mapM_cons] at hm
  cases hb : DataW.trod enc P W 0 (fun _ => true) true fuel f.type ((cs.drop f.offset).take (P.cellsOf f.type)) with
  | none => simp [hb] at hm
  | some y =>
    cases hr : l.mapM (fun f => DataW.trod enc P W 0 (fun _ => true) true fuel f.type ((cs.drop f.offset).take (P.cellsOf f.type))) with
    | none => simp [hb, hr] at hm
    | some ys =>
      have hxs : xs = y :: ys := by simpa [hb, hr] using hm.symm
      subst hxs
      simp only [List.map_cons, DataW.weightsEach, List.mem_append] at hw
      obtain ⟨x, hx, hxr⟩ := h1 H enc W fuel _ y.1 y.2 hb (fun k hk => hw k (.inl hk))
      obtain ⟨x2, hx2, hxr2⟩ := h2 H enc W fuel cs ys hl hr (fun k hk => hw k (.inr hk))
      refine ⟨(x, x2), ⟨hx, hx2⟩, ?_⟩
      rw [hoff, hsz] at hxr
      have := hxr.app hxr2
      rwa [← List.drop_drop, List.take_append_drop] at this

theorem opensS_struct {P : Program} {t total : Nat} {fs : Array Field} {α β : Type} {cells : α → List AV} {ok : α → Prop} {cells2 : β → List AV} (g : α → β) (h : P.underlying t = some (.struct fs)) (hsz : P.cellsOf t = total)
    (hf : OpensFS P fs.toList 0 total cells ok) (hg : ∀ x, cells2 (g x) = cells x) {ok2 : β → Prop} (hok : ∀ x, ok x → ok2 (g x)) : OpensS P t cells2 ok2 := by
  intro H enc W fuel cs d ps hr hw
  cases fuel with
  | zero => simp [DataW.trod] at hr
  | succ fuel =>
    unfold DataW.trod at hr
    rw [h] at hr
    simp only at hr
    split at hr <;> try (simp_all; done)
    rename_i hc
    cases hm : fs.toList.mapM (fun f => DataW.trod enc P W 0 (fun _ => true) true fuel f.type ((cs.drop f.offset).take (P.cellsOf f.type))) with
    | none => rw [hm] at hr; simp at hr
    | some xs =>
      rw [hm] at hr
      simp only [Option.map_some, Option.some.injEq, Prod.mk.injEq] at hr
      obtain ⟨rfl, _⟩ := hr
      obtain ⟨x, hx, hxr⟩ := hf H enc W fuel cs xs (by rw [hc, hsz]) hm (fun k hk => hw k (by
        unfold DataW.weights
        rw [h]
        exact hk))
      exact ⟨g x, hok x hx, by rw [hg]; simpa using hxr⟩

/-- A parameter of one cell. -/
theorem opensS_one {P : Program} {t : Nat} {α : Type} {cell : α → AV} {ok : α → Prop} (h : OpensS P t (fun x => [cell x]) ok) {H : Type} {enc : TypeId × Value → H} {W : World} {v : Value} {d : DataW H} {ps : List MemPlace}
    (hr : DataW.Trod enc P W 0 (fun _ => true) true t v d ps) (hs : SizeOK P t d) (hv : v.cells.toList.length = 1 → v.cells.toList = [v]) : ∃ x, ok x ∧ RepI (memG W) (cell x) v := by
  obtain ⟨fuel, hf⟩ := hr
  obtain ⟨x, h1, h2⟩ := h H enc W fuel _ d ps hf hs
  refine ⟨x, h1, ?_⟩
  simp only [RepIL] at h2
  obtain ⟨z, zs, hz, h3, h4, rfl⟩ := h2
  have := hv (by rw [hz]; rfl)
  rw [this] at hz
  cases hz
  exact h3

/-- A parameter that is a struct. -/
theorem opensS_agg {P : Program} {t : Nat} {α : Type} {cells : α → List AV} {ok : α → Prop} (h : OpensS P t cells ok) {H : Type} {enc : TypeId × Value → H} {W : World} {v : Value} {d : DataW H} {ps : List MemPlace}
    (hr : DataW.Trod enc P W 0 (fun _ => true) true t v d ps) (hs : SizeOK P t d) (hv : ∃ cs, v = .agg cs) : ∃ x, ok x ∧ RepI (memG W) (.agg (cells x)) v := by
  obtain ⟨fuel, hf⟩ := hr
  obtain ⟨x, h1, h2⟩ := h H enc W fuel _ d ps hf hs
  obtain ⟨cs, rfl⟩ := hv
  exact ⟨x, h1, by simp only [RepI]; exact ⟨cs, rfl, h2⟩⟩

def OpensVS (P : Program) (t : Nat) {α : Type} (av : α → AV) (ok : α → Prop) : Prop :=
  ∀ (H : Type) (enc : TypeId × Value → H) (W : World) (base : Nat) (v : Value) (d : DataW H) (ps : List MemPlace),
    Value.okWide P W .any base t v → DataW.Trod enc P W 0 (fun _ => true) true t v d ps → SizeOK P t d → ∃ x : α, ok x ∧ RepI (memG W) (av x) v

theorem opensVS_of {P : Program} {t : Nat} {α : Type} {cell : α → AV} {ok : α → Prop} (h : OpensS P t (fun x => [cell x]) ok) (hv : ∀ (W : World) base v, Value.okWide P W .any base t v → ∀ cs, v ≠ .agg cs) : OpensVS P t cell ok :=
  fun H enc W base v d ps hw hr hs => opensS_one h hr hs (cells_one (hv W base v hw))

theorem opensVS_int {P : Program} {t : Nat} {k : IntKind} (h : P.underlying t = some (.int k)) : OpensVS P t (fun n : Int => .v (.int k n)) (fun n => (Lit.int k n).wf = true) :=
  opensVS_of (opens_int h).toS (fun W base v hw cs hc => by obtain ⟨n, rfl⟩ := okWide_int h hw; cases hc)

theorem opensVS_bool {P : Program} {t : Nat} (h : P.underlying t = some .bool) : OpensVS P t (fun b : Bool => .v (.bool b)) (fun _ => True) :=
  opensVS_of (opens_bool h).toS (fun W base v hw cs hc => by subst hc; simp [Value.okWide, h, Cell.okWide, Cell.ok] at hw)

theorem opensVS_string {P : Program} {t : Nat} (h : P.underlying t = some .string) : OpensVS P t (fun l : List UInt8 => .s l) (fun l => l.length ≤ reachBytes) :=
  opensVS_of (opensS_string h) (fun W base v hw cs hc => by obtain ⟨n, rfl⟩ := okWide_string h hw; cases hc)

theorem opensVS_slice {P : Program} {t e : Nat} {α : Type} [Inhabited α] {cells : α → List AV} {ok : α → Prop} {esz : Nat} (h : P.underlying t = some (.slice e)) (hsz : P.cellsOf e = esz) (hpos : 0 < esz)
    (hlen : ∀ x, (cells x).length = esz) (he : OpensS P e cells ok) : OpensVS P t (fun l : List α => SL esz cells l) (fun l => l.length ≤ maxLen ∧ ∀ i, i < l.length → ok (l.getD i default)) :=
  opensVS_of (opensS_slice h hsz hpos hlen he) (fun W base v hw cs hc => by obtain ⟨a, n, c, rfl⟩ := okWide_slice h hw; cases hc)

theorem opensVS_struct {P : Program} {t : Nat} {fs : Array Field} {α : Type} {cells : α → List AV} {ok : α → Prop} (h : P.underlying t = some (.struct fs)) (ho : OpensS P t cells ok) : OpensVS P t (fun x => .agg (cells x)) ok :=
  fun H enc W base v d ps hw hr hs => opensS_agg ho hr hs (by simp only [Value.okWide, h] at hw; obtain ⟨cs, h1, _⟩ := hw; exact ⟨cs, h1⟩)

def OpensAS (P : Program) (ts : List Nat) {α : Type} (avs : α → List AV) (ok : α → Prop) : Prop :=
  ∀ (H : Type) (enc : TypeId × Value → H) (W : World) (base : Nat) (vs : List Value) (ds : List (DataW H)) (ps : List MemPlace),
    (∀ (j : Nat) t v, ts[j]? = some t → vs[j]? = some v → Value.okWide P W .any base t v) →
    DataW.TrodAll enc P W 0 (fun _ => true) true ts vs ds ps → (∀ k ∈ DataW.weightsEach P ts ds, k ≤ reachBytes) → ∃ x : α, ok x ∧ RepIT (memG W) (avs x) vs

theorem opensAS_nil {P : Program} : OpensAS P [] (fun _ : Unit => []) (fun _ => True) := by
  intro H enc W base vs ds ps hv hr _
  obtain ⟨rfl, _, _⟩ := trodAll_nil hr
  exact ⟨(), trivial, by simp only [RepIT]⟩

theorem opensAS_cons {P : Program} {t : Nat} {ts : List Nat} {α β : Type} {av : α → AV} {ok : α → Prop} {avs : β → List AV} {ok2 : β → Prop} (h : OpensVS P t av ok) (k : OpensAS P ts avs ok2) :
    OpensAS P (t :: ts) (fun p : α × β => av p.1 :: avs p.2) (fun p => ok p.1 ∧ ok2 p.2) := by
  intro H enc W base vs ds ps hv hr hw
  obtain ⟨v0, vs0, d0, ds0, p0, q0, rfl, rfl, rfl, h0, r0⟩ := trodAll_cons hr
  obtain ⟨x, hx, hxr⟩ := h H enc W base v0 d0 p0 (hv 0 t v0 rfl rfl) h0 (fun k hk => hw k (by simp only [DataW.weightsEach, List.mem_append]; exact .inl hk))
  obtain ⟨y, hy, hyr⟩ := k H enc W base vs0 ds0 q0 (fun j t v h1 h2 => hv (j + 1) t v h1 h2) r0 (fun k hk => hw k (by simp only [DataW.weightsEach, List.mem_append]; exact .inr hk))
  exact ⟨(x, y), ⟨hx, hy⟩, by simp only [RepIT]; exact ⟨v0, vs0, rfl, hxr, hyr⟩⟩

/-- What a law's row asks of the call. -/
theorem law_callS {P : Program} {fn : Func} {f : FuncId} {s : ChangeSpec} {tb : Nat} {ts : List Nat} {α : Type} {avs : α → List AV} {ok : α → Prop}
    (hts : fn.params.toList = ts) (hrt : fn.resultTypes = #[tb]) (htb : P.underlying tb = some .bool) (hvars : s.vars = [])
    (hfn : ∀ (H : Type) (ds : List (DataW H)), ds.length = ts.length → s.fn H ds = { results := [.lit (.bool true)], args := ds })
    (ho : OpensAS P ts avs ok) (hl : laidOutB P = true) (hk : ∀ t ∈ ts, P.readableRec t = true ∧ t < P.types.size)
    (hc : ∀ x, ok x → FnP P f (avs x) (· = B true)) {H : Type} (enc : TypeId × Value → H) :
    ∀ (W : World) (base : Nat) (args : Array Value) (ds gs : List (DataW H)) (before : List MemPlace),
      (∀ (j : Nat) t v, fn.params[j]? = some t → args[j]? = some v → Value.okWide P W .any base t v) →
      DataW.Whole enc P fn.params.toList s.vars false W args.toList ds gs before →
      (DataW.weightsEach P (fn.params.toList ++ s.plain.varTypes P) (ds ++ gs)).all (· ≤ reachBytes) = true →
      Calls P f args W fun e W' => ∃ v, e = .returned v ∧ s.post enc P fn false true false false W args v W' := by
  intro W base args ds gs before hval hW hsz
  have hW' := hW
  obtain ⟨p, q, hA, hV, rfl, hfz, hnd⟩ := hW
  rw [hvars] at hV
  obtain ⟨rfl, rfl⟩ := trodVars_none hV
  rw [hts] at hA hsz
  have hwk : ∀ k ∈ DataW.weightsEach P ts ds, k ≤ reachBytes := fun k hk => by
    have hl2 := trodAll_count hA
    have hsub : ∀ (ts us : List Nat) (ds es : List (DataW H)), ds.length = ts.length → ∀ k ∈ DataW.weightsEach P ts ds, k ∈ DataW.weightsEach P (ts ++ us) (ds ++ es) := by
      intro ts
      induction ts with
      | nil => intro us ds es h k hk; cases ds with
        | nil => simp [DataW.weightsEach] at hk
        | cons _ _ => simp at h
      | cons t ts ih => intro us ds es h k hk; cases ds with
        | nil => simp at h
        | cons d ds =>
          simp only [DataW.weightsEach, List.mem_append, List.cons_append] at hk ⊢
          rcases hk with hk | hk
          · exact .inl hk
          · exact .inr (ih us ds es (by simpa using h) k hk)
    have := List.all_eq_true.1 hsz k (hsub ts _ ds _ hl2 k hk)
    simpa using this
  obtain ⟨x, hx, hxr⟩ := ho H enc W base args.toList ds p (fun j t v h1 h2 => hval j t v (by rw [← hts] at h1; simpa using h1) (by simpa using h2)) hA hwk
  refine ((hc x hx).law hxr).mono fun e W' ⟨he, bel⟩ => ?_
  subst he
  have hlen := trodAll_count hA
  refine ⟨_, rfl, ds, [], p ++ [], [], p, [], hW', ?_, ?_, ?_, bel.frame _, fun h => by cases h⟩
  · rw [List.append_nil, hfn H ds hlen, hrt]
    exact trodAll_mk1 (shut_bool htb _)
  · rw [List.append_nil, hfn H ds hlen, hts]
    exact trodAll_below hl bel hk hA
  · rw [List.append_nil, hfn H ds hlen, hvars]
    rfl
end Go.Sy
