/- The symbolic walk, part 13: arguments that can be read are typed data; from a contract to a law's row. -/
import Derived.Test.YtgdlhcaidfokkaaSy12
import Derived.ProofKit
import Derived.OpenShut
import Derived.ShutString
import Derived.ChangeOld
import Derived.Below
set_option linter.unusedSimpArgs false
set_option linter.unusedVariables false
namespace Go.Sy
open Go.RowKit

def memG (W : World) : IM := fun b o => W.cell? ⟨b, o, none⟩
theorem memG_ok (W : World) : ImOK (memG W) W := fun _ _ _ h => h

/-- What reads as data of type t is such a Lean datum. -/
def OpensT (P : Program) (t : Nat) {α : Type} (cells : α → List AV) (ok : α → Prop) : Prop :=
  ∀ (H : Type) (enc : TypeId × Value → H) (W : World) (fuel : Nat) (cs : List Value) (d : DataW H) (ps : List MemPlace),
    DataW.trod enc P W 0 (fun _ => true) true fuel t cs = some (d, ps) → ∃ x : α, ok x ∧ RepIL (memG W) (cells x) cs

theorem opens_int {P : Program} {t : Nat} {k : IntKind} (h : P.underlying t = some (.int k)) : OpensT P t (fun n : Int => [.v (.int k n)]) (fun n => (Lit.int k n).wf = true) := by
  intro H enc W fuel cs d ps hr
  cases fuel with
  | zero => simp [DataW.trod] at hr
  | succ fuel =>
    unfold DataW.trod at hr
    rw [h] at hr
    simp only at hr
    split at hr <;> try (simp_all; done)
    · rename_i k1 k2 n heq
      cases heq
      split at hr
      · rename_i hk
        obtain ⟨rfl, hw⟩ := hk
        exact ⟨n, hw, by simp only [RepIL, RepI]; exact ⟨_, [], rfl, rfl, rfl, rfl⟩⟩
      · cases hr

theorem opens_bool {P : Program} {t : Nat} (h : P.underlying t = some .bool) : OpensT P t (fun b : Bool => [.v (.bool b)]) (fun _ => True) := by
  intro H enc W fuel cs d ps hr
  cases fuel with
  | zero => simp [DataW.trod] at hr
  | succ fuel =>
    unfold DataW.trod at hr
    rw [h] at hr
    simp only at hr
    split at hr <;> try (simp_all; done)
    · rename_i b _
      exact ⟨b, trivial, by simp only [RepIL, RepI]; exact ⟨_, [], rfl, rfl, rfl, rfl⟩⟩

theorem opens_string {P : Program} {t : Nat} (h : P.underlying t = some .string) : OpensT P t (fun l : List UInt8 => [.s l]) (fun l => l.length ≤ maxLen) := by
  intro H enc W fuel cs d ps hr
  cases fuel with
  | zero => simp [DataW.trod] at hr
  | succ fuel =>
    unfold DataW.trod at hr
    rw [h] at hr
    simp only at hr
    split at hr <;> try (simp_all; done)
    · rename_i s heq
      split at hr
      · rename_i hs
        refine ⟨s.data.toList, by show s.data.toList.length ≤ maxLen; rw [Array.length_toList]; exact hs, ?_⟩
        simp only [RepIL, RepI, S]
        exact ⟨_, [], rfl, by cases s; rfl, rfl, rfl⟩
      · cases hr

theorem mapM_get {α β : Type} {f : α → Option β} : ∀ {l : List α} {xs : List β}, l.mapM f = some xs → ∀ (i : Nat) (a : α), l[i]? = some a → ∃ x, f a = some x ∧ xs[i]? = some x
  | [], xs, _, i, a, h => by simp at h
  | b :: l, xs, hm, i, a, h => by
    rw [List.mapM_cons] at hm
    cases hb : f b with
    | none => simp [hb] at hm
    | some y =>
      cases hl : l.mapM f with
      | none => simp [hb, hl] at hm
      | some ys =>
        simp [hb, hl] at hm
        subst hm
        cases i with
        | zero => simp at h; subst h; exact ⟨y, hb, by simp⟩
        | succ i => simpa using mapM_get hl i a (by simpa using h)

theorem mapM_len {α β : Type} {f : α → Option β} : ∀ {l : List α} {xs : List β}, l.mapM f = some xs → xs.length = l.length
  | [], xs, h => by simp at h; subst h; rfl
  | b :: l, xs, hm => by
    rw [List.mapM_cons] at hm
    cases hb : f b with
    | none => simp [hb] at hm
    | some y =>
      cases hl : l.mapM f with
      | none => simp [hb, hl] at hm
      | some ys =>
        simp [hb, hl] at hm
        subst hm
        simp [mapM_len hl]

theorem choose_list {α : Type} [Inhabited α] {Q : Nat → α → Prop} : ∀ (n : Nat), (∀ i, i < n → ∃ x, Q i x) → ∃ l : List α, l.length = n ∧ ∀ i, i < n → Q i (l.getD i default)
  | 0, _ => ⟨[], rfl, fun i h => by omega⟩
  | n + 1, h => by
    obtain ⟨l, hl, hq⟩ := choose_list n (fun i hi => h i (by omega))
    obtain ⟨x, hx⟩ := h n (by omega)
    refine ⟨l ++ [x], by simp [hl], fun i hi => ?_⟩
    rcases Nat.lt_or_ge i n with hlt | hge
    · have : (l ++ [x]).getD i default = l.getD i default := by simp [List.getD, List.getElem?_append_left (show i < l.length by omega)]
      rw [this]; exact hq i hlt
    · have : i = n := by omega
      subst this
      have : (l ++ [x]).getD i default = x := by simp [List.getD, ← hl]
      rw [this]; exact hx

theorem opens_slice {P : Program} {t e : Nat} {α : Type} [Inhabited α] {cells : α → List AV} {ok : α → Prop} {esz : Nat} (h : P.underlying t = some (.slice e)) (hsz : P.cellsOf e = esz) (hpos : 0 < esz)
    (hlen : ∀ x, (cells x).length = esz) (he : OpensT P e cells ok) :
    OpensT P t (fun l : List α => [SL esz cells l]) (fun l => l.length ≤ maxLen ∧ ∀ i, i < l.length → ok (l.getD i default)) := by
  intro H enc W fuel cs d ps hr
  cases fuel with
  | zero => simp [DataW.trod] at hr
  | succ fuel =>
    unfold DataW.trod at hr
    rw [h] at hr
    simp only at hr
    split at hr <;> try (simp_all; done)
    · refine ⟨[], ⟨by simp, by simp⟩, ?_⟩
      simp only [RepIL, RepI]
      exact ⟨_, [], rfl, ⟨none, 0, rfl, Nat.le_refl _, .inl rfl⟩, rfl, rfl⟩
    · rename_i e' a len cap heq
      cases heq
      split at hr
      · rename_i hc
        obtain ⟨_, hlc, hcm⟩ := hc
        cases hm : (List.range len).mapM (fun i => (W.cells? 0 (a.add (i * P.cellsOf e)) (P.cellsOf e)).bind (DataW.trod enc P W 0 (fun _ => true) true fuel e)) with
        | none => rw [hm] at hr; simp at hr
        | some xs =>
          have key : ∀ i, i < len → ∃ x : α, ok x ∧ ∃ row : List Value, W.cells? 0 (a.add (i * esz)) esz = some row ∧ RepIL (memG W) (cells x) row := by
            intro i hi
            obtain ⟨x, hx, _⟩ := mapM_get hm i i (List.getElem?_range hi)
            rw [hsz] at hx
            cases hrow : W.cells? 0 (a.add (i * esz)) esz with
            | none => rw [hrow] at hx; simp at hx
            | some row =>
              rw [hrow] at hx
              simp only [Option.bind_some] at hx
              obtain ⟨y, hy, hyr⟩ := he H enc W fuel row x.1 x.2 hx
              exact ⟨y, hy, row, rfl, hyr⟩
          obtain ⟨l, hl, hq⟩ := choose_list (Q := fun i x => ok x ∧ ∃ row : List Value, W.cells? 0 (a.add (i * esz)) esz = some row ∧ RepIL (memG W) (cells x) row) len key
          have cellsq : ∀ (ad : Addr) (row : List Value), W.cells? 0 ad esz = some row → ∀ (j : Nat) (z : Value), row[j]? = some z → W.cell? (ad.add j) = some z := by
            intro ad row hrow j z hz
            unfold World.cells? at hrow
            rw [if_pos (Nat.zero_le _)] at hrow
            have hjl : j < esz := by
              have := mapM_len hrow
              rcases Nat.lt_or_ge j esz with h | h
              · exact h
              · rw [List.getElem?_eq_none (by rw [this]; simpa using h)] at hz; cases hz
            obtain ⟨x, hx, hx2⟩ := mapM_get hrow j j (List.getElem?_range hjl)
            rw [hx2] at hz; cases hz
            exact hx
          refine ⟨l, ⟨by omega, fun i hi => (hq i (by omega)).1⟩, ?_⟩
          simp only [RepIL]
          refine ⟨_, [], rfl, ?_, rfl, rfl⟩
          simp only [RepI]
          refine ⟨some a, cap, by rw [hl], by omega, ?_⟩
          rcases Nat.eq_zero_or_pos len with h0 | h0
          · exact .inl (by omega)
          · refine .inr ?_
            have hspot : a.spot = none := by
              obtain ⟨_, row, hrow, hrep⟩ := hq 0 h0
              have hrl := RepIL.len hrep
              rw [hlen] at hrl
              have h1 := cellsq _ row hrow 0 (row[0]'(by omega)) (by simp)
              simp only [Nat.zero_mul] at h1
              have : ((a.add 0).add 0) = a := by simp [Addr.add]
              rw [this] at h1
              exact World.cell?_spot h1
            obtain ⟨b, o, sp⟩ := a
            simp only at hspot
            subst hspot
            refine ⟨b, o, rfl, fun i hi => CellsAt.mk (fun j c hc => ?_)⟩
            obtain ⟨_, row, hrow, hrep⟩ := hq i (by omega)
            obtain ⟨z, z1, z2, z3⟩ := hrep.get j c hc
            refine ⟨z, ?_, z2, z3⟩
            have := cellsq _ row hrow j z z1
            rw [add_addr, add_addr] at this
            exact this
      · cases hr

/-- Fields, from a place on. -/
def OpensF (P : Program) (l : List Field) (start total : Nat) {α : Type} (cells : α → List AV) (ok : α → Prop) : Prop :=
  ∀ (H : Type) (enc : TypeId × Value → H) (W : World) (fuel : Nat) (cs : List Value) (xs : List (DataW H × List MemPlace)), cs.length = total →
    l.mapM (fun f => DataW.trod enc P W 0 (fun _ => true) true fuel f.type ((cs.drop f.offset).take (P.cellsOf f.type))) = some xs → ∃ x : α, ok x ∧ RepIL (memG W) (cells x) (cs.drop start)

theorem opensF_nil {P : Program} {total : Nat} : OpensF P [] total total (fun _ : Unit => []) (fun _ => True) := by
  intro H enc W fuel cs xs hl _
  exact ⟨(), trivial, by simp only [RepIL]; exact List.drop_eq_nil_of_le (by omega)⟩

theorem RepIL.app {G : IM} : ∀ {cs ds : List AV} {ys zs : List Value}, RepIL G cs ys → RepIL G ds zs → RepIL G (cs ++ ds) (ys ++ zs)
  | [], ds, ys, zs, h, k => by simp only [RepIL] at h; subst h; simpa using k
  | c :: cs, ds, ys, zs, h, k => by
    simp only [RepIL] at h
    obtain ⟨z, zs', rfl, h1, h2, h3⟩ := h
    simp only [List.cons_append, RepIL]
    exact ⟨z, _, rfl, h1, h2, RepIL.app h3 k⟩

theorem opensF_cons {P : Program} {f : Field} {l : List Field} {start total sz : Nat} {α β : Type} {cells : α → List AV} {ok : α → Prop} {cells2 : β → List AV} {ok2 : β → Prop}
    (hoff : f.offset = start) (hsz : P.cellsOf f.type = sz) (h1 : OpensT P f.type cells ok) (h2 : OpensF P l (start + sz) total cells2 ok2) :
    OpensF P (f :: l) start total (fun p : α × β => cells p.1 ++ cells2 p.2) (fun p => ok p.1 ∧ ok2 p.2) := by
  intro H enc W fuel cs xs hl hm
  rw [List.mapM_cons] at hm
  cases hb : DataW.trod enc P W 0 (fun _ => true) true fuel f.type ((cs.drop f.offset).take (P.cellsOf f.type)) with
  | none => simp [hb] at hm
  | some y =>
    cases hr : l.mapM (fun f => DataW.trod enc P W 0 (fun _ => true) true fuel f.type ((cs.drop f.offset).take (P.cellsOf f.type))) with
    | none => simp [hb, hr] at hm
    | some ys =>
      obtain ⟨x, hx, hxr⟩ := h1 H enc W fuel _ y.1 y.2 hb
      obtain ⟨x2, hx2, hxr2⟩ := h2 H enc W fuel cs ys hl hr
      refine ⟨(x, x2), ⟨hx, hx2⟩, ?_⟩
      rw [hoff, hsz] at hxr
      have := hxr.app hxr2
      rwa [← List.drop_drop, List.take_append_drop] at this

theorem opens_struct {P : Program} {t total : Nat} {fs : Array Field} {α β : Type} {cells : α → List AV} {ok : α → Prop} {cells2 : β → List AV} (g : α → β) (h : P.underlying t = some (.struct fs)) (hsz : P.cellsOf t = total)
    (hf : OpensF P fs.toList 0 total cells ok) (hg : ∀ x, cells2 (g x) = cells x) {ok2 : β → Prop} (hok : ∀ x, ok x → ok2 (g x)) : OpensT P t cells2 ok2 := by
  intro H enc W fuel cs d ps hr
  cases fuel with
  | zero => simp [DataW.trod] at hr
  | succ fuel =>
    unfold DataW.trod at hr
    rw [h] at hr
    simp only at hr
    split at hr <;> try (simp_all; done)
    rename_i hc
    cases hm : fs.toList.mapM (fun f => DataW.trod enc P W 0 (fun _ => true) true fuel f.type ((cs.drop f.offset).take (P.cellsOf f.type))) with
    | none => rw [hm] at hr; simp at hr
    | some xs =>
      obtain ⟨x, hx, hxr⟩ := hf H enc W fuel cs xs (by rw [hc, hsz]) hm
      exact ⟨g x, hok x hx, by rw [hg]; simpa using hxr⟩

theorem opens_map {P : Program} {t : Nat} {α : Type} {cells : α → List AV} {ok ok2 : α → Prop} (h : OpensT P t cells ok) (hok : ∀ x, ok x → ok2 x) : OpensT P t cells ok2 :=
  fun H enc W fuel cs d ps hr => let ⟨x, h1, h2⟩ := h H enc W fuel cs d ps hr; ⟨x, hok x h1, h2⟩

/-- A parameter of one cell. -/
theorem opens_one {P : Program} {t : Nat} {α : Type} {cell : α → AV} {ok : α → Prop} (h : OpensT P t (fun x => [cell x]) ok) {H : Type} {enc : TypeId × Value → H} {W : World} {v : Value} {d : DataW H} {ps : List MemPlace}
    (hr : DataW.Trod enc P W 0 (fun _ => true) true t v d ps) (hv : v.cells.toList.length = 1 → v.cells.toList = [v]) : ∃ x, ok x ∧ RepI (memG W) (cell x) v := by
  obtain ⟨fuel, hf⟩ := hr
  obtain ⟨x, h1, h2⟩ := h H enc W fuel _ d ps hf
  refine ⟨x, h1, ?_⟩
  simp only [RepIL] at h2
  obtain ⟨z, zs, hz, h3, h4, rfl⟩ := h2
  have := hv (by rw [hz]; rfl)
  rw [this] at hz
  cases hz
  exact h3

theorem cells_one {v : Value} (h : ∀ cs, v ≠ .agg cs) : v.cells.toList.length = 1 → v.cells.toList = [v] := by
  intro _
  cases v <;> simp_all [Value.cells]

/-- A parameter that is a struct. -/
theorem opens_agg {P : Program} {t : Nat} {α : Type} {cells : α → List AV} {ok : α → Prop} (h : OpensT P t cells ok) {H : Type} {enc : TypeId × Value → H} {W : World} {v : Value} {d : DataW H} {ps : List MemPlace}
    (hr : DataW.Trod enc P W 0 (fun _ => true) true t v d ps) (hv : ∃ cs, v = .agg cs) : ∃ x, ok x ∧ RepI (memG W) (.agg (cells x)) v := by
  obtain ⟨fuel, hf⟩ := hr
  obtain ⟨x, h1, h2⟩ := h H enc W fuel _ d ps hf
  obtain ⟨cs, rfl⟩ := hv
  exact ⟨x, h1, by simp only [RepI]; exact ⟨cs, rfl, h2⟩⟩

/-- From the contract of a law. -/
theorem FnP.law {P : Program} {f : FuncId} {avs : List AV} (h : FnP P f avs (· = B true)) {W : World} {args : Array Value} (hr : RepIT (memG W) avs args.toList) :
    Calls P f args W fun e w' => e = .returned (.bool true) ∧ Below W.heap.size W w' := by
  have h1 := h.2 (memG W) W args.toList (memG_ok W) hr
  rw [Array.toArray_toList] at h1
  refine h1.mono ?_
  rintro e w' ⟨r, cr, G', rfl, rfl, g1, g2, g3, g4, g5⟩
  simp only [RepI] at g1
  exact ⟨by rw [g1], g5⟩
end Go.Sy
