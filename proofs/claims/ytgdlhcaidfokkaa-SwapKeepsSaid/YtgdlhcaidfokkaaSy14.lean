/- The symbolic walk, part 14: a law's row from the contract of the law. -/
import Derived.Test.YtgdlhcaidfokkaaSy13
import Derived.WalkKit
set_option linter.unusedSimpArgs false
set_option linter.unusedVariables false
namespace Go.Sy
open Go.RowKit Go.WideShapes Go.ChangeShapes

def OpensV (P : Program) (t : Nat) {α : Type} (av : α → AV) (ok : α → Prop) : Prop :=
  ∀ (H : Type) (enc : TypeId × Value → H) (W : World) (base : Nat) (v : Value) (d : DataW H) (ps : List MemPlace),
    Value.okWide P W .any base t v → DataW.Trod enc P W 0 (fun _ => true) true t v d ps → ∃ x : α, ok x ∧ RepI (memG W) (av x) v

theorem opensV_of {P : Program} {t : Nat} {α : Type} {cell : α → AV} {ok : α → Prop} (h : OpensT P t (fun x => [cell x]) ok) (hv : ∀ (W : World) base v, Value.okWide P W .any base t v → ∀ cs, v ≠ .agg cs) : OpensV P t cell ok :=
  fun H enc W base v d ps hw hr => opens_one h hr (cells_one (hv W base v hw))

theorem opensV_int {P : Program} {t : Nat} {k : IntKind} (h : P.underlying t = some (.int k)) : OpensV P t (fun n : Int => .v (.int k n)) (fun n => (Lit.int k n).wf = true) :=
  opensV_of (opens_int h) (fun W base v hw cs hc => by obtain ⟨n, rfl⟩ := okWide_int h hw; cases hc)

theorem opensV_bool {P : Program} {t : Nat} (h : P.underlying t = some .bool) : OpensV P t (fun b : Bool => .v (.bool b)) (fun _ => True) :=
  opensV_of (opens_bool h) (fun W base v hw cs hc => by subst hc; simp [Value.okWide, h, Cell.okWide, Cell.ok] at hw)

theorem opensV_string {P : Program} {t : Nat} (h : P.underlying t = some .string) : OpensV P t (fun l : List UInt8 => .s l) (fun l => l.length ≤ maxLen) :=
  opensV_of (opens_string h) (fun W base v hw cs hc => by obtain ⟨n, rfl⟩ := okWide_string h hw; cases hc)

theorem opensV_slice {P : Program} {t e : Nat} {α : Type} [Inhabited α] {cells : α → List AV} {ok : α → Prop} {esz : Nat} (h : P.underlying t = some (.slice e)) (hsz : P.cellsOf e = esz) (hpos : 0 < esz)
    (hlen : ∀ x, (cells x).length = esz) (he : OpensT P e cells ok) : OpensV P t (fun l : List α => SL esz cells l) (fun l => l.length ≤ maxLen ∧ ∀ i, i < l.length → ok (l.getD i default)) :=
  opensV_of (opens_slice h hsz hpos hlen he) (fun W base v hw cs hc => by obtain ⟨a, n, c, rfl⟩ := okWide_slice h hw; cases hc)

theorem opensV_struct {P : Program} {t : Nat} {fs : Array Field} {α : Type} {cells : α → List AV} {ok : α → Prop} (h : P.underlying t = some (.struct fs)) (ho : OpensT P t cells ok) : OpensV P t (fun x => .agg (cells x)) ok :=
  fun H enc W base v d ps hw hr => opens_agg ho hr (by simp only [Value.okWide, h] at hw; obtain ⟨cs, h1, _⟩ := hw; exact ⟨cs, h1⟩)

def OpensA (P : Program) (ts : List Nat) {α : Type} (avs : α → List AV) (ok : α → Prop) : Prop :=
  ∀ (H : Type) (enc : TypeId × Value → H) (W : World) (base : Nat) (vs : List Value) (ds : List (DataW H)) (ps : List MemPlace),
    (∀ (j : Nat) t v, ts[j]? = some t → vs[j]? = some v → Value.okWide P W .any base t v) →
    DataW.TrodAll enc P W 0 (fun _ => true) true ts vs ds ps → ∃ x : α, ok x ∧ RepIT (memG W) (avs x) vs

theorem opensA_nil {P : Program} : OpensA P [] (fun _ : Unit => []) (fun _ => True) := by
  intro H enc W base vs ds ps hv hr
  obtain ⟨rfl, _, _⟩ := trodAll_nil hr
  exact ⟨(), trivial, by simp only [RepIT]⟩

theorem opensA_cons {P : Program} {t : Nat} {ts : List Nat} {α β : Type} {av : α → AV} {ok : α → Prop} {avs : β → List AV} {ok2 : β → Prop} (h : OpensV P t av ok) (k : OpensA P ts avs ok2) :
    OpensA P (t :: ts) (fun p : α × β => av p.1 :: avs p.2) (fun p => ok p.1 ∧ ok2 p.2) := by
  intro H enc W base vs ds ps hv hr
  obtain ⟨v0, vs0, d0, ds0, p0, q0, rfl, rfl, rfl, h0, r0⟩ := trodAll_cons hr
  obtain ⟨x, hx, hxr⟩ := h H enc W base v0 d0 p0 (hv 0 t v0 rfl rfl) h0
  obtain ⟨y, hy, hyr⟩ := k H enc W base vs0 ds0 q0 (fun j t v h1 h2 => hv (j + 1) t v h1 h2) r0
  exact ⟨(x, y), ⟨hx, hy⟩, by simp only [RepIT]; exact ⟨v0, vs0, rfl, hxr, hyr⟩⟩

theorem trodAll_below {H : Type} {enc : TypeId × Value → H} {P : Program} (hl : laidOutB P = true) {W W' : World} (bel : Below W.heap.size W W') : ∀ {ts : List Nat} {vs : List Value} {ds : List (DataW H)} {ps : List MemPlace},
    (∀ t ∈ ts, P.readableRec t = true ∧ t < P.types.size) → DataW.TrodAll enc P W 0 (fun _ => true) true ts vs ds ps →
    DataW.TrodAll enc P W' 0 (fun b => decide (b < W.heap.size)) true ts vs ds ps
  | [], vs, ds, ps, _, h => by
    obtain ⟨rfl, rfl, rfl⟩ := trodAll_nil h
    exact trodAll_mk0
  | t :: ts, vs, ds, ps, hk, h => by
    obtain ⟨v0, vs0, d0, ds0, p0, q0, rfl, rfl, rfl, h0, r0⟩ := trodAll_cons h
    have lt0 : ∀ x ∈ p0, x.block < W.heap.size := by obtain ⟨m, hm⟩ := h0; exact DataW.trod_lt m _ _ _ hm
    exact trodAll_cons_mk (Below.trod hl (hk t (by simp)).1 (hk t (by simp)).2 h0 bel lt0) (trodAll_below hl bel (fun t ht => hk t (by simp [ht])) r0)

theorem trodAll_count {H : Type} {enc : TypeId × Value → H} {P : Program} {W : World} {base : Nat} {sp : Nat → Bool} {held : Bool} : ∀ {ts : List Nat} {vs : List Value} {ds : List (DataW H)} {ps : List MemPlace},
    DataW.TrodAll enc P W base sp held ts vs ds ps → ds.length = ts.length
  | [], vs, ds, ps, h => by
    obtain ⟨rfl, rfl, rfl⟩ := trodAll_nil h
    rfl
  | t :: ts, vs, ds, ps, h => by
    obtain ⟨v0, vs0, d0, ds0, p0, q0, rfl, rfl, rfl, h0, r0⟩ := trodAll_cons h
    simp [trodAll_count r0]

/-- What a law's row asks of the call. -/
theorem law_call {P : Program} {fn : Func} {f : FuncId} {s : ChangeSpec} {tb : Nat} {ts : List Nat} {α : Type} {avs : α → List AV} {ok : α → Prop}
    (hts : fn.params.toList = ts) (hrt : fn.resultTypes = #[tb]) (htb : P.underlying tb = some .bool) (hvars : s.vars = [])
    (hfn : ∀ (H : Type) (ds : List (DataW H)), ds.length = ts.length → s.fn H ds = { results := [.lit (.bool true)], args := ds })
    (ho : OpensA P ts avs ok) (hl : laidOutB P = true) (hk : ∀ t ∈ ts, P.readableRec t = true ∧ t < P.types.size)
    (hc : ∀ x, ok x → FnP P f (avs x) (· = B true)) {H : Type} (enc : TypeId × Value → H) :
    ∀ (W : World) (base : Nat) (args : Array Value) (ds gs : List (DataW H)) (before : List MemPlace),
      (∀ (j : Nat) t v, fn.params[j]? = some t → args[j]? = some v → Value.okWide P W .any base t v) →
      DataW.Whole enc P fn.params.toList s.vars false W args.toList ds gs before →
      Calls P f args W fun e W' => ∃ v, e = .returned v ∧ s.post enc P fn false true false false W args v W' := by
  intro W base args ds gs before hval hW
  have hW' := hW
  obtain ⟨p, q, hA, hV, rfl, hfz, hnd⟩ := hW
  rw [hvars] at hV
  obtain ⟨rfl, rfl⟩ := trodVars_none hV
  rw [hts] at hA
  obtain ⟨x, hx, hxr⟩ := ho H enc W base args.toList ds p (fun j t v h1 h2 => hval j t v (by rw [← hts] at h1; simpa using h1) (by simpa using h2)) hA
  refine ((hc x hx).law hxr).mono fun e W' ⟨he, bel⟩ => ?_
  subst he
  have hlen := trodAll_count hA
  refine ⟨_, rfl, ds, [], p ++ [], [], p, [], hW', ?_, ?_, ?_, bel.frame _, fun h => by cases h⟩
  · rw [List.append_nil, hfn H ds hlen, hrt]
    exact trodAll_mk1 (shut_bool htb _)
  · rw [List.append_nil, hfn H ds hlen, hts]
    exact trodAll_below hl bel hk hA
  · rw [List.append_nil, hfn H ds hlen, hvars]
    rfl
end Go.Sy
