/- The symbolic walk, part 4: operations that ask something of their operands. -/
import Derived.Test.YtgdlhcaidfokkaaSy3
set_option linter.unusedSimpArgs false
set_option linter.unusedVariables false
namespace Go.Sy
open Go.RowKit

def intOpd (s : List (Nat × AV)) (o : Operand) : Option Int :=
  match opd s o with
  | some (.v (.int _ i)) => some i
  | _ => none

/-- What an operation asks, and what it then gives. -/
def still1 (T : Tab) (st : St) : Op → Option (Prop × AV)
  | .binOp op _ x y _ => (match opd st.s x, opd st.s y with
    | some (.v (.int k a)), some (.v (.int j b)) => (match op with
      | .quo => (match kindEq k j with
        | true => some (b ≠ 0, .v (.int k (k.wrap (a.tdiv b))))
        | false => none)
      | .rem => (match kindEq k j with
        | true => some (b ≠ 0, .v (.int k (a.tmod b)))
        | false => none)
      | .shl => some (0 ≤ b, .v (.int k (k.wrap (a * 2 ^ min b.toNat k.bits))))
      | .shr => some (0 ≤ b, .v (.int k (a.fdiv (2 ^ min b.toNat k.bits))))
      | _ => none)
    | some (.s a), some (.s b) => (match op with
      | .add => some (a.length + b.length ≤ 9223372036854775807, .s (a ++ b))
      | _ => none)
    | _, _ => none)
  | .indexAddr t x i => (match T t, opd st.s x, intOpd st.s i with
    | some ⟨_, _, _, _, .slice el⟩, some (.sl n esz row), some i => (match T el with
      | some ti => (match Nat.beq ti.size esz with
        | true => some (0 ≤ i ∧ i < n, .cp (row i.toNat))
        | false => none)
      | none => none)
    | some ⟨_, _, _, _, .arr len el⟩, some (.bp k o), some i => (match T el with
      | some ⟨sz, _, _, _, _⟩ => some (0 ≤ i ∧ i < len, .bp k (o + i.toNat * sz))
      | none => none)
    | some ⟨_, _, _, _, .slice el⟩, some (.own k), some i => (match T el, takeCh k st.c with
      | some ti, some (.vec _ _ esz m _, _) => (match Nat.beq ti.size esz with
        | true => some (0 ≤ i ∧ i < m, .ep k i.toNat esz 0)
        | false => none)
      | _, _ => none)
    | some ⟨_, _, _, _, .slice el⟩, some (.v (.slice (some ⟨g, o, none⟩) m cc)), some i => (match T el with
      | some ⟨sz, _, _, _, _⟩ => some (0 ≤ i ∧ i < m, .v (.pointer (some ⟨g, o + i.toNat * sz, none⟩)))
      | none => none)
    | _, _, _ => none)
  | .load t x => (match T t, opd st.s x with
    | some ti, some (.ep k i esz j) => (match takeCh k st.c with
      | some (.vec _ _ esz' m row, _) => (match Nat.beq esz esz' with
        | true => (match loadA ti ((row i).drop j) with
          | some av => some (i < m, av)
          | none => none)
        | false => none)
      | _ => none)
    | _, _ => none)
  | .index t x i => (match T t, opd st.s x, intOpd st.s i with
    | some ⟨_, _, _, _, .str⟩, some (.s l), some i => some (0 ≤ i ∧ i < l.length, .v (.int .u8 (l.getD i.toNat 0).toNat))
    | _, _, _ => none)
  | .slice t x lo hi none => (match T t, opd st.s x, lo, hi with
    | some ⟨_, _, _, _, .str⟩, some (.s l), none, none => some (True, .s l)
    | some ⟨_, _, _, _, .str⟩, some (.s l), some lo, none => (match intOpd st.s lo with
      | some i => some (0 ≤ i ∧ i ≤ l.length, .s (l.drop i.toNat))
      | none => none)
    | some ⟨_, _, _, _, .str⟩, some (.s l), none, some hi => (match intOpd st.s hi with
      | some j => some (0 ≤ j ∧ j ≤ l.length, .s (l.take j.toNat))
      | none => none)
    | some ⟨_, _, _, _, .str⟩, some (.s l), some lo, some hi => (match intOpd st.s lo, intOpd st.s hi with
      | some i, some j => some (0 ≤ i ∧ i ≤ j ∧ j ≤ l.length, .s ((l.drop i.toNat).take (j.toNat - i.toNat)))
      | _, _ => none)
    | some ⟨_, _, _, _, .slice el⟩, some (.sl n esz row), none, none => (match T el with
      | some _ => some (True, .sl n esz row)
      | none => none)
    | some ⟨_, _, _, _, .slice el⟩, some (.sl n esz row), some lo, none => (match T el, intOpd st.s lo with
      | some ti, some i => (match Nat.beq ti.size esz with
        | true => some (0 ≤ i ∧ i ≤ n, .sl (n - i.toNat) esz (fun j => row (i.toNat + j)))
        | false => none)
      | _, _ => none)
    | some ⟨_, _, _, _, .slice el⟩, some (.sl n esz row), none, some hi => (match T el, intOpd st.s hi with
      | some _, some j => some (0 ≤ j ∧ j ≤ n, .sl j.toNat esz row)
      | _, _ => none)
    | some ⟨_, _, _, _, .slice el⟩, some (.sl n esz row), some lo, some hi => (match T el, intOpd st.s lo, intOpd st.s hi with
      | some ti, some i, some j => (match Nat.beq ti.size esz with
        | true => some (0 ≤ i ∧ i ≤ j ∧ j ≤ n, .sl (j.toNat - i.toNat) esz (fun q => row (i.toNat + q)))
        | false => none)
      | _, _, _ => none)
    | _, _, _, _ => none)
  | _ => none

theorem intOpd_sound {P : Program} {T : Tab} {X : Ctx P T} {n : Nat} {e : Env} {st : St} {a : Act} {w : World} (r : Rel X n e st a w) {o : Operand} {i : Int} (h : intOpd st.s o = some i) : ∃ k, a.eval o = .int k i := by
  unfold intOpd at h
  split at h
  · rename_i k j hj
    simp only [Option.some.injEq] at h
    subst h
    have := opd_sound r hj
    simp only [Rep] at this
    exact ⟨k, this⟩
  · cases h

theorem extract_S (l : List UInt8) (i j : Nat) : (ByteArray.mk l.toArray).extract i j = ByteArray.mk ((l.drop i).take (j - i)).toArray := by
  have h := ByteArray.data_extract (a := ByteArray.mk l.toArray) (b := i) (e := j)
  apply ByteArray.ext
  rw [h]
  apply Array.ext'
  simp [Array.toList_extract, List.extract_eq_take_drop]

theorem run_sliceBound {P : Program} {w : World} {k : IntKind} {i : Int} {y : Nat} (code : BoundsCode) (h0 : 0 ≤ i) (h1 : i ≤ y) : (Instr.sliceBound (.int k i) y code).run P w = .ok i.toNat w := by
  simp [Instr.sliceBound, asIntOf, h0, h1]

theorem run_bounds {P : Program} {w : World} (sl : Bool) (len cap : Nat) (lo hi : Option Value) (i j : Int) (h0 : 0 ≤ i) (hij : i ≤ j) (hj : j ≤ len) (hc : len ≤ cap)
    (hlo : (lo = none ∧ i = 0) ∨ ∃ k, lo = some (.int k i)) (hhi : (hi = none ∧ j = len) ∨ ∃ k, hi = some (.int k j)) :
    (Instr.sliceBounds sl len cap lo hi none).run P w = .ok (i.toNat, j.toNat, cap) w := by
  rcases hhi with ⟨rfl, rfl⟩ | ⟨kh, rfl⟩ <;> rcases hlo with ⟨rfl, rfl⟩ | ⟨kl, rfl⟩
  · simp [Instr.sliceBounds]
  · simp [Instr.sliceBounds, run_sliceBound _ h0 hij]
  · simp [Instr.sliceBounds, run_sliceBound _ (show (0 : Int) ≤ j by omega) (show j ≤ (cap : Int) by omega)]
  · simp [Instr.sliceBounds, run_sliceBound _ (show (0 : Int) ≤ j by omega) (show j ≤ (cap : Int) by omega), run_sliceBound _ h0 (show i ≤ (j.toNat : Int) by omega)]

theorem RepIL.get {G : IM} : ∀ {cs : List AV} {ys : List Value}, RepIL G cs ys → ∀ (j : Nat) (c : AV), cs[j]? = some c → ∃ z, ys[j]? = some z ∧ RepI G c z ∧ z.oneCell' = true
  | [], ys, _, j, c, h => by simp at h
  | d :: cs, ys, r, j, c, h => by
    simp only [RepIL] at r
    obtain ⟨z, zs, rfl, r1, r2, r3⟩ := r
    cases j with
    | zero => simp at h; subst h; exact ⟨z, by simp, r1, r2⟩
    | succ j => simpa using RepIL.get r3 j c (by simpa using h)

theorem HeapOK.vecread {P : Program} {T : Tab} {X : Ctx P T} {e : Env} {w : World} {c rest : List Ch} {k kk t esz m : Nat} {row : Nat → List AV} (h : HeapOK X e w c) (hk : takeCh k c = some (.vec kk t esz m row, rest)) {i : Nat} (hi : i < m) :
    ∃ cap, e.hd k = .slice (some ⟨(e.hd k).ownBlock.getD 0, 0, none⟩) m cap ∧ Readable e w ((e.hd k).ownBlock.getD 0) (i * esz) (row i) := by
  have hkk : kk = k := kid_of_take hk
  subst hkk
  have hh := h.perm (takeCh_perm hk)
  obtain ⟨bs, ⟨hbs, xs, g1, g2⟩, _, hgood⟩ := hh.head
  rcases g1.2 with ⟨hnil, hm⟩ | ⟨g, cap, cur, hsl, _, hg, hcap, hmax, hcs, htake⟩
  · omega
  · have hb : (e.hd kk).ownBlock.getD 0 = g := by rw [hsl]; rfl
    rw [hb]
    refine ⟨cap, hsl, fun j c hc => ?_⟩
    have z0 := g2 i hi
    obtain ⟨z, z1, z2, z3⟩ := z0.get j c hc
    have hj : j < esz := by
      rcases Nat.lt_or_ge j esz with h | h
      · exact h
      · rw [List.getElem?_eq_none (by simp; omega)] at z1; cases z1
    have hlt : i * esz + j < m * esz := by
      have : (i + 1) * esz ≤ m * esz := Nat.mul_le_mul_right _ hi
      rw [Nat.add_mul] at this; omega
    refine ⟨z, ?_, RepI.toRep _ z2, z3⟩
    rw [cell_of_row w g _ cur t (0, 0) hg]
    rw [List.getElem?_take, if_pos hj, List.getElem?_drop, ← htake, List.getElem?_take, if_pos hlt] at z1
    simpa using z1

theorem still1_sound {P : Program} {T : Tab} {X : Ctx P T} {n : Nat} {e : Env} {st : St} {a : Act} {w : World} (r : Rel X n e st a w) {o : Oper} {vc : Prop} {av : AV}
    (h : still1 T st o.op = some (vc, av)) (hvc : vc) : ∃ v, Rep e av v ∧ ∀ w', SameAs w w' → (execOp a.eval o).run P w' = .ok (.value v) w' := by
  have hT := X.ok
  obtain ⟨dst, op, ty, pos, aft, gd⟩ := o
  simp only at h
  cases op with
  | binOp op t x y u =>
    simp only [still1] at h
    split at h
    · rename_i k p j q hx hy
      have hx := opd_sound r hx
      have hy := opd_sound r hy
      simp only [Rep] at hx hy
      split at h
      · split at h
        · rename_i hk
          have := kindEq_eq hk
          subst this
          simp only [Option.some.injEq, Prod.mk.injEq] at h
          obtain ⟨rfl, rfl⟩ := h
          exact ⟨_, Rep_v, fun w' _ => by simp [execOp, hx, hy, eqGuard, binOp, Op.intDiv, hvc]⟩
        · cases h
      · split at h
        · rename_i hk
          have := kindEq_eq hk
          subst this
          simp only [Option.some.injEq, Prod.mk.injEq] at h
          obtain ⟨rfl, rfl⟩ := h
          exact ⟨_, Rep_v, fun w' _ => by simp [execOp, hx, hy, eqGuard, binOp, Op.intDiv, hvc]⟩
        · cases h
      · simp only [Option.some.injEq, Prod.mk.injEq] at h
        obtain ⟨rfl, rfl⟩ := h
        have : ¬ q < 0 := by omega
        exact ⟨_, Rep_v, fun w' _ => by simp [execOp, hx, hy, eqGuard, binOp, Op.shift, this]⟩
      · simp only [Option.some.injEq, Prod.mk.injEq] at h
        obtain ⟨rfl, rfl⟩ := h
        have : ¬ q < 0 := by omega
        exact ⟨_, Rep_v, fun w' _ => by simp [execOp, hx, hy, eqGuard, binOp, Op.shift, this]⟩
      · cases h
    · rename_i p q hx hy
      have hx := opd_sound r hx
      have hy := opd_sound r hy
      simp only [Rep, S] at hx hy
      split at h
      · simp only [Option.some.injEq, Prod.mk.injEq] at h
        obtain ⟨rfl, rfl⟩ := h
        have h1 : (((ByteArray.mk p.toArray).size : Nat) : Int) + (((ByteArray.mk q.toArray).size : Nat) : Int) ≤ 9223372036854775807 := by
          rw [len_S, len_S]; omega
        have h2 : ByteArray.mk p.toArray ++ ByteArray.mk q.toArray = ByteArray.mk (p ++ q).toArray := by
          apply ByteArray.ext; simp
        refine ⟨S (p ++ q), by simp [Rep], fun w' _ => ?_⟩
        simp only [execOp, hx, hy, eqGuard, binOp, Op.stringOp, S]
        simp [h1, h2]
      · cases h
    · cases h
  | indexAddr t x i =>
    simp only [still1] at h
    split at h
    · rename_i el m esz row i' h1 h2 h3
      split at h
      · rename_i ti h4
        split at h
        · rename_i h5
          have h5 := Nat.eq_of_beq_eq_true h5
          simp only [Option.some.injEq, Prod.mk.injEq] at h
          obtain ⟨rfl, rfl⟩ := h
          obtain ⟨k, hk⟩ := intOpd_sound r h3
          have hx := opd_sound r h2
          simp only [Rep, RepI] at hx
          obtain ⟨aa, c, e1, e2, e3⟩ := hx
          obtain ⟨d, e4, _, e5⟩ := (hT _ _ h1).desc
          simp only [TDOK] at e5
          subst e5
          rcases e3 with e3 | ⟨b, o, rfl, e3⟩
          · omega
          · refine ⟨.pointer (some ⟨b, o + i'.toNat * esz, none⟩), ?_, fun w' _ => ?_⟩
            case refine_2 =>
              simp only [execOp, e1, hk, Instr.indexAt, asIntOf, Sem.run_bind, Sem.run_pure, Result.andThen_ok, run_underlying e4, hT.size h4, h5]
              simp [run_underlying e4, hvc, hT.size h4, h5, add_addr]
            · simp only [Rep, RepI]
              exact ⟨b, _, rfl, e3 i'.toNat (by omega)⟩
        · cases h
      · cases h
    · rename_i len el k' o i' h1 h2 h3
      split at h
      · rename_i sz _ _ _ _ h4
        simp only [Option.some.injEq, Prod.mk.injEq] at h
        obtain ⟨rfl, rfl⟩ := h
        obtain ⟨k, hk⟩ := intOpd_sound r h3
        have hx := opd_sound r h2
        simp only [Rep] at hx
        obtain ⟨d, e4, _, e5⟩ := (hT _ _ h1).desc
        simp only [TDOK] at e5
        subst e5
        refine ⟨.pointer (some ⟨e.μ k', o + i'.toNat * sz, none⟩), by simp [Rep], fun w' _ => ?_⟩
        simp only [execOp, hx, hk, Instr.indexAt, asIntOf, Instr.sureAddr, Sem.run_bind, Sem.run_pure, Result.andThen_ok, run_underlying e4, hT.size h4]
        simp [run_underlying e4, hvc, hT.size h4, add_addr]
      · cases h
    · rename_i el k' i' h1 h2 h3
      split at h
      · rename_i ti kk tt esz m row rest h4 h6
        split at h
        · rename_i h5
          have h5 := Nat.eq_of_beq_eq_true h5
          simp only [Option.some.injEq, Prod.mk.injEq] at h
          obtain ⟨rfl, rfl⟩ := h
          obtain ⟨k, hk⟩ := intOpd_sound r h3
          have hx := opd_sound r h2
          simp only [Rep] at hx
          obtain ⟨hx, _⟩ := hx
          obtain ⟨cap, e1, _⟩ := r.heap.vecread h6 (i := i'.toNat) (by omega)
          rw [e1] at hx
          obtain ⟨d, e4, _, e5⟩ := (hT _ _ h1).desc
          simp only [TDOK] at e5
          subst e5
          refine ⟨.pointer (some ⟨(e.hd k').ownBlock.getD 0, i'.toNat * esz + 0, none⟩), by simp only [Rep], fun w' _ => ?_⟩
          simp only [execOp, hx, hk, Instr.indexAt, asIntOf, Sem.run_bind, Sem.run_pure, Result.andThen_ok, run_underlying e4, hT.size h4, h5]
          simp [run_underlying e4, hvc, hT.size h4, h5, add_addr]
        · cases h
      · cases h
    · rename_i el g o m cc i' h1 h2 h3
      split at h
      · rename_i sz _ _ _ _ h4
        simp only [Option.some.injEq, Prod.mk.injEq] at h
        obtain ⟨rfl, rfl⟩ := h
        obtain ⟨k, hk⟩ := intOpd_sound r h3
        have hx := opd_sound r h2
        simp only [Rep] at hx
        obtain ⟨d, e4, _, e5⟩ := (hT _ _ h1).desc
        simp only [TDOK] at e5
        subst e5
        refine ⟨.pointer (some ⟨g, o + i'.toNat * sz, none⟩), by simp [Rep], fun w' _ => ?_⟩
        simp only [execOp, hx, hk, Instr.indexAt, asIntOf, Sem.run_bind, Sem.run_pure, Result.andThen_ok, run_underlying e4, hT.size h4]
        simp [run_underlying e4, hvc, hT.size h4, add_addr]
      · cases h
    · cases h
  | load t x =>
    simp only [still1] at h
    split at h
    · rename_i ti k i esz j hTt hx
      split at h
      · rename_i kk tt esz' m row rest h6
        split at h
        · rename_i h5
          have h5 := Nat.eq_of_beq_eq_true h5
          subst h5
          split at h
          · rename_i av' hl
            simp only [Option.some.injEq, Prod.mk.injEq] at h
            obtain ⟨rfl, rfl⟩ := h
            obtain ⟨cap, e1, e2⟩ := r.heap.vecread h6 hvc
            have := opd_sound r hx
            simp only [Rep] at this
            have hrd : Readable e w ((e.hd k).ownBlock.getD 0) (i * esz + j) ((row i).drop j) := by
              intro q c hc
              rw [List.getElem?_drop] at hc
              have := e2 (j + q) c hc
              rwa [← Nat.add_assoc] at this
            obtain ⟨v, g4, g3⟩ := load_sound hT hTt hrd hl
            refine ⟨v, g4, fun w' hs => ?_⟩
            simp only [execOp, this, Instr.loadAt, Instr.sureAddr, Sem.run_bind, Sem.run_pure, Result.andThen_ok, g3 w' hs]
          · cases h
        · cases h
      · cases h
    · cases h
  | index t x i =>
    simp only [still1] at h
    split at h
    · rename_i l i' h1 h2 h3
      simp only [Option.some.injEq, Prod.mk.injEq] at h
      obtain ⟨rfl, rfl⟩ := h
      obtain ⟨k, hk⟩ := intOpd_sound r h3
      have hx := opd_sound r h2
      simp only [Rep, S] at hx
      obtain ⟨d, e4, _, e5⟩ := (hT _ _ h1).desc
      simp only [TDOK] at e5
      subst e5
      have hlt : i'.toNat < l.length := by omega
      have hg : (ByteArray.mk l.toArray)[i'.toNat]? = some (l.getD i'.toNat 0) := by
        rw [getElem?_pos _ _ (by rw [len_S]; exact hlt)]
        simp [List.getD, List.getElem?_eq_getElem hlt]
        rfl
      refine ⟨.int .u8 (l.getD i'.toNat 0).toNat, by simp [Rep], fun w' _ => ?_⟩
      simp only [execOp, hx, hk, Instr.index, asIntOf, Sem.run_bind, Sem.run_pure, Result.andThen_ok, run_underlying e4]
      simp [hvc.1, hg]
    · cases h
  | slice t x lo hi mx =>
    cases mx with
    | some m => simp [still1] at h
    | none =>
    simp only [still1] at h
    have strk : ∀ {sz by_ : Nat} {ag : Bool} {z : List Value} (l : List UInt8) (i j : Int), T t = some ⟨sz, by_, ag, z, .str⟩ → a.eval x = S l → 0 ≤ i → i ≤ j → j ≤ l.length →
        ((lo.map a.eval = none ∧ i = 0) ∨ ∃ k, lo.map a.eval = some (.int k i)) → ((hi.map a.eval = none ∧ j = l.length) ∨ ∃ k, hi.map a.eval = some (.int k j)) →
        ∀ w : World, (execOp a.eval ⟨dst, .slice t x lo hi none, ty, pos, aft, gd⟩).run P w = .ok (.value (S ((l.drop i.toNat).take (j.toNat - i.toNat)))) w := by
      intro sz by_ ag z l i j h1 h2 h3 h4 h5 h6 h7 w
      obtain ⟨d, e4, _, e5⟩ := (hT _ _ h1).desc
      simp only [TDOK] at e5
      subst e5
      have hb := run_bounds (P := P) (w := w) false l.length l.length _ _ i j h3 h4 h5 (Nat.le_refl _) h6 h7
      simp only [execOp, h2, S, Instr.sliceAt, Instr.slice, Sem.run_bind, run_underlying e4, Result.andThen_ok]
      simp [run_underlying e4, len_S, hb, extract_S]
    have slk : ∀ {sz by_ el : Nat} {ag : Bool} {z : List Value} {ti : TI} (n esz : Nat) (row : Nat → List AV) (i j : Int), T t = some ⟨sz, by_, ag, z, .slice el⟩ → T el = some ti → (i ≠ 0 → ti.size = esz) →
        Rep e (.sl n esz row) (a.eval x) → 0 ≤ i → i ≤ j → j ≤ n →
        ((lo.map a.eval = none ∧ i = 0) ∨ ∃ k, lo.map a.eval = some (.int k i)) → ((hi.map a.eval = none ∧ j = n) ∨ ∃ k, hi.map a.eval = some (.int k j)) →
        ∃ v, Rep e (.sl (j.toNat - i.toNat) esz (fun q => row (i.toNat + q))) v ∧ ∀ w : World, (execOp a.eval ⟨dst, .slice t x lo hi none, ty, pos, aft, gd⟩).run P w = .ok (.value v) w := by
      intro sz by_ el ag z ti n esz row i j h1 ht h1' h2 h3 h4 h5 h6 h7
      obtain ⟨d, e4, _, e5⟩ := (hT _ _ h1).desc
      simp only [TDOK] at e5
      subst e5
      simp only [Rep, RepI] at h2
      obtain ⟨aa, c, e1, e2, e3⟩ := h2
      have hb := fun w : World => run_bounds (P := P) (w := w) true n c _ _ i j h3 h4 h5 e2 h6 h7
      refine ⟨.slice (if c = i.toNat then aa else aa.map (·.add (i.toNat * ti.size))) (j.toNat - i.toNat) (c - i.toNat), ?_, fun w => ?_⟩
      case refine_2 =>
        simp only [execOp, e1, Instr.sliceAt, Instr.slice, Sem.run_bind, run_underlying e4, Result.andThen_ok]
        simp [run_underlying e4, hb, X.ok.size ht]
      · simp only [Rep, RepI]
        refine ⟨_, _, rfl, by omega, ?_⟩
        by_cases hz : j.toNat - i.toNat = 0
        · exact .inl hz
        · refine .inr ?_
          rcases e3 with e3 | ⟨b, o, rfl, e3⟩
          · omega
          · rw [if_neg (by omega)]
            refine ⟨b, o + i.toNat * ti.size, by simp [add_addr], fun q hq => ?_⟩
            have := e3 (i.toNat + q) (by omega)
            rcases Nat.eq_zero_or_pos i.toNat with h0 | h0
            · rw [h0] at this ⊢; simpa using this
            · rw [h1' (by omega)]
              rwa [Nat.add_mul, ← Nat.add_assoc] at this
    split at h
    · rename_i l h1 h2
      simp only [Option.some.injEq, Prod.mk.injEq] at h
      obtain ⟨rfl, rfl⟩ := h
      have hx := opd_sound r h2
      simp only [Rep] at hx
      have := strk l 0 l.length h1 hx (by omega) (by omega) (by omega) (.inl ⟨rfl, rfl⟩) (.inl ⟨rfl, rfl⟩)
      exact ⟨_, by simp [Rep], fun w' _ => this w'⟩
    · rename_i l lo' h1 h2
      split at h
      · rename_i i hi'
        simp only [Option.some.injEq, Prod.mk.injEq] at h
        obtain ⟨rfl, rfl⟩ := h
        have hx := opd_sound r h2
        simp only [Rep] at hx
        obtain ⟨k, hk⟩ := intOpd_sound r hi'
        have := strk l i l.length h1 hx (by omega) (by omega) (by omega) (.inr ⟨k, by simp [hk]⟩) (.inl ⟨rfl, rfl⟩)
        refine ⟨_, ?_, fun w' _ => this w'⟩
        simp only [Rep]
        congr 1
        rw [List.take_of_length_le (by simp)]
      · cases h
    · rename_i l hi' h1 h2
      split at h
      · rename_i j hj'
        simp only [Option.some.injEq, Prod.mk.injEq] at h
        obtain ⟨rfl, rfl⟩ := h
        have hx := opd_sound r h2
        simp only [Rep] at hx
        obtain ⟨k, hk⟩ := intOpd_sound r hj'
        have := strk l 0 j h1 hx (by omega) (by omega) (by omega) (.inl ⟨rfl, rfl⟩) (.inr ⟨k, by simp [hk]⟩)
        exact ⟨_, by simp [Rep], fun w' _ => this w'⟩
      · cases h
    · rename_i l lo' hi' h1 h2
      split at h
      · rename_i i j hl' hj'
        simp only [Option.some.injEq, Prod.mk.injEq] at h
        obtain ⟨rfl, rfl⟩ := h
        have hx := opd_sound r h2
        simp only [Rep] at hx
        obtain ⟨k, hk⟩ := intOpd_sound r hl'
        obtain ⟨k2, hk2⟩ := intOpd_sound r hj'
        have := strk l i j h1 hx (by omega) (by omega) (by omega) (.inr ⟨k, by simp [hk]⟩) (.inr ⟨k2, by simp [hk2]⟩)
        exact ⟨_, by simp [Rep], fun w' _ => this w'⟩
      · cases h
    · rename_i el m esz row h1 h2
      split at h
      · rename_i ti hti
        simp only [Option.some.injEq, Prod.mk.injEq] at h
        obtain ⟨rfl, rfl⟩ := h
        obtain ⟨v, g2, g1⟩ := slk m esz row 0 m h1 hti (by omega) (opd_sound r h2) (by omega) (by omega) (by omega) (.inl ⟨rfl, rfl⟩) (.inl ⟨rfl, rfl⟩)
        exact ⟨v, by simpa using g2, fun w' _ => g1 w'⟩
      · cases h
    · rename_i el m esz row lo' h1 h2
      split at h
      · rename_i ti i hti hi'
        split at h
        · rename_i hs
          simp only [Option.some.injEq, Prod.mk.injEq] at h
          obtain ⟨rfl, rfl⟩ := h
          obtain ⟨k, hk⟩ := intOpd_sound r hi'
          obtain ⟨v, g2, g1⟩ := slk m esz row i m h1 hti (fun _ => Nat.eq_of_beq_eq_true hs) (opd_sound r h2) (by omega) (by omega) (by omega) (.inr ⟨k, by simp [hk]⟩) (.inl ⟨rfl, rfl⟩)
          exact ⟨v, by simpa using g2, fun w' _ => g1 w'⟩
        · cases h
      · cases h
    · rename_i el m esz row hi' h1 h2
      split at h
      · rename_i ti j hti hj'
        simp only [Option.some.injEq, Prod.mk.injEq] at h
        obtain ⟨rfl, rfl⟩ := h
        obtain ⟨k, hk⟩ := intOpd_sound r hj'
        obtain ⟨v, g2, g1⟩ := slk m esz row 0 j h1 hti (by omega) (opd_sound r h2) (by omega) (by omega) (by omega) (.inl ⟨rfl, rfl⟩) (.inr ⟨k, by simp [hk]⟩)
        exact ⟨v, by simpa using g2, fun w' _ => g1 w'⟩
      · cases h
    · rename_i el m esz row lo' hi' h1 h2
      split at h
      · rename_i ti i j hti hl' hj'
        split at h
        · rename_i hs
          simp only [Option.some.injEq, Prod.mk.injEq] at h
          obtain ⟨rfl, rfl⟩ := h
          obtain ⟨k, hk⟩ := intOpd_sound r hl'
          obtain ⟨k2, hk2⟩ := intOpd_sound r hj'
          obtain ⟨v, g2, g1⟩ := slk m esz row i j h1 hti (fun _ => Nat.eq_of_beq_eq_true hs) (opd_sound r h2) (by omega) (by omega) (by omega) (.inr ⟨k, by simp [hk]⟩) (.inr ⟨k2, by simp [hk2]⟩)
          exact ⟨v, g2, fun w' _ => g1 w'⟩
        · cases h
      · cases h
    · cases h
  | _ => simp [still1] at h

end Go.Sy
