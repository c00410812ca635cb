/- The document's bound: a turn. -/
import Derived.Test.YtgmdpfoccnalnaaGreatE8
import Derived.Test.YtgmdpfoccnalnaaGreatE5
import Derived.Test.YtgmdpfoccnalnaaGreatE4
import Derived.Shelf.SlIterI.Nil
import Derived.Shelf.SortM.Plain
import Derived.Shelf.SortM.SortNone
import Derived.Ground.GgzProg
import Derived.Ground.SlgmProg
set_option linter.unusedSimpArgs false
set_option linter.unusedVariables false
set_option maxRecDepth 100000
namespace Go.Proofs
open Go.Sy Go.Lib

abbrev opnA (h : Value) (os : List Opn) : Abs := vecA h 140 9 os.length (fun i => Opn.c (os.getD i default))
def oTurn (o : Opn) : Opn := { o with w := { o.w with turns := IntKind.i64.wrap (o.w.turns + 1) } }
def oServe (o : Opn) : Opn := { o with w := { o.w with served := true } }
def oShut (o : Opn) : Opn := { o with fopen := false }
def upO (f : Opn → Opn) (os : List Opn) (i : Nat) : List Opn := os.set i (f (os.getD i default))
theorem upO_len (f : Opn → Opn) (os : List Opn) (i : Nat) : (upO f os i).length = os.length := by simp [upO]
theorem upO_getD (f : Opn → Opn) (os : List Opn) (i j : Nat) (h : j < os.length) : (upO f os i).getD j default = if j = i then f (os.getD i default) else os.getD j default := by
  simp only [upO, List.getD_eq_getElem?_getD, List.getElem?_set]
  by_cases hij : i = j
  · subst hij; simp [h]
  · rw [if_neg hij, if_neg (fun h => hij h.symm)]
theorem opnA_up (h : Value) (f : Opn → Opn) (os : List Opn) (i : Nat) : opnA h (upO f os i) = vecA h 140 9 os.length (fun j => Opn.c ((upO f os i).getD j default)) := by
  unfold opnA; rw [upO_len]
/-- One entry at a turn. -/
def rTurnStep (x : Rw) (s : List Opn × Bool) (i : Nat) : List Opn × Bool :=
  if (s.1.getD i default).fopen = false then s
  else if s.2 = false ∧ (s.1.getD i default).w.owner = x.note.owner then (upO oShut (upO oServe (upO oTurn s.1 i) i) i, true)
  else (upO oTurn s.1 i, s.2)
def rTurnAll (x : Rw) (os : List Opn) (n : Nat) : List Opn × Bool := (List.range n).foldl (rTurnStep x) (os, decide (x.act ≠ 2))
theorem rTurnAll_succ (x : Rw) (os : List Opn) (n : Nat) : rTurnAll x os (n + 1) = rTurnStep x (rTurnAll x os n) n := by
  unfold rTurnAll; rw [List.range_succ, List.foldl_append]; rfl
theorem rTurnStep_len (x : Rw) (s : List Opn × Bool) (i : Nat) : (rTurnStep x s i).1.length = s.1.length := by
  unfold rTurnStep
  split
  · rfl
  · split <;> simp [upO]
theorem rTurnAll_len (x : Rw) (os : List Opn) : ∀ n, (rTurnAll x os n).1.length = os.length
  | 0 => rfl
  | n + 1 => by rw [rTurnAll_succ, rTurnStep_len, rTurnAll_len x os n]

theorem rTurn_A (h : Value) (os : List Opn) (x : Rw) (hol : os.length ≤ 17592186044416) : FnA Tryz.prog 63 [.v h, .agg (Rw.c x)] [opnA h os] (fun r cs' => r = .v h ∧ cs' = [opnA h (rTurnAll x os os.length).1]) := by
  refine FnA.intro Tryz.tabOK Tryz.wide_ Tryz.func63 rfl (by decide) rfl (fun X => ?_)
  repeat (first | refine sc rfl ?_ | refine so rfl ?_ | refine sb rfl ?_)
  refine C_loop (fun j : Nat => ⟨[(0, .v h), (3, .bp 3 0), (4, .v (.slice none 0 0)), (5, B (rTurnAll x os j).2), (6, I64 (j : Nat))], [.box 3 30 (Rw.c x), .abs (opnA h (rTurnAll x os j).1)]⟩)
    (fun j => j ≤ os.length) (fun j => os.length - j) 0 (Nat.zero_le _) (Le.pick [0, 0] ⟨rfl, rfl, rfl, congrArg (fun b => some (B b)) (by rw [Bool.eq_iff_iff]; simp [rTurnAll]), rfl, trivial⟩ rfl) ?_
  intro j hj
  have hlen := rTurnAll_len x os j
  have hsucc := rTurnAll_succ x os j
  obtain ⟨S, hS⟩ : ∃ S, rTurnAll x os j = S := ⟨_, rfl⟩
  rw [hS] at hlen hsucc ⊢
  obtain ⟨W, tk⟩ := S
  simp only [] at hlen ⊢
  repeat (first | refine sc rfl ?_ | refine so rfl ?_ | refine sb rfl ?_)
  refine O_Xd (X_lenV 1 rfl rfl rfl rfl rfl) ?_
  repeat (first | refine sc rfl ?_ | refine so rfl ?_ | refine sb rfl ?_)
  refine C_if rfl (fun m1 => ?_) (fun m1 => ?_) <;> simp only [decide_eq_true_eq, decide_eq_false_iff_not, Bool.not_eq_true', Bool.not_eq_false', beq_iff_eq, beq_eq_false_iff_ne, bne_iff_ne, ne_eq, bne_eq_false_iff_eq, Decidable.not_not] at m1
  · have hjl : j < W.length := by omega
    obtain ⟨o, ho⟩ : ∃ o, W.getD j default = o := ⟨_, rfl⟩
    refine C_know 1 (∃ g cc, h = HD g W.length cc) rfl (fun G w hok _ => vec_HD hok (by omega)) ?_
    rintro ⟨gh, ch, rfl⟩
    repeat (first | refine sc rfl ?_ | refine so rfl ?_ | refine sb rfl ?_)
    refine ⟨by omega, ?_⟩
    rw [Int.toNat_natCast]
    repeat (first | refine sc rfl ?_ | refine so rfl ?_ | refine sb rfl ?_)
    refine O_loadP 1 (A := opnA (HD gh W.length ch) W) (cells := (Opn.c (W.getD j default)).drop 8) (reads_vec (q := j) (j := 8) hjl (by omega)) rfl rfl rfl rfl rfl rfl ?_
    rw [ho]
    repeat (first | refine sc rfl ?_ | refine so rfl ?_ | refine sb rfl ?_)
    refine C_if rfl (fun c1 => ?_) (fun c1 => ?_) <;> simp only [decide_eq_true_eq, decide_eq_false_iff_not, Bool.not_eq_true', Bool.not_eq_false', beq_iff_eq, beq_eq_false_iff_ne, bne_iff_ne, ne_eq, bne_eq_false_iff_eq, Decidable.not_not] at c1
    · have hs : rTurnAll x os (j + 1) = (W, tk) := by rw [hsucc]; unfold rTurnStep; rw [if_pos (by rw [ho]; exact c1)]
      repeat (first | refine sc rfl ?_ | refine so rfl ?_ | refine sb rfl ?_)
      rw [w64 (x := (j : Int) + 1) (by omega) (by omega)]
      refine ⟨j + 1, by omega, by omega, ?_⟩
      rw [hs]
      exact Le.pick [0, 0] ⟨rfl, rfl, rfl, rfl, rfl, trivial⟩ rfl
    have hs : rTurnAll x os (j + 1) = if tk = false ∧ o.w.owner = x.note.owner then (upO oShut (upO oServe (upO oTurn W j) j) j, true) else (upO oTurn W j, tk) := by
      rw [hsucc]; unfold rTurnStep; rw [if_neg (by rw [ho, c1]; decide), ho]
    repeat (first | refine sc rfl ?_ | refine so rfl ?_ | refine sb rfl ?_)
    refine ⟨by omega, ?_⟩
    rw [Int.toNat_natCast]
    repeat (first | refine sc rfl ?_ | refine so rfl ?_ | refine sb rfl ?_)
    refine O_loadP 1 (A := opnA (HD gh W.length ch) W) (cells := (Opn.c (W.getD j default)).drop 3) (reads_vec (q := j) (j := 3) hjl (by omega)) rfl rfl rfl rfl rfl rfl ?_
    repeat (first | refine sc rfl ?_ | refine so rfl ?_ | refine sb rfl ?_)
    refine ⟨by omega, ?_⟩
    rw [Int.toNat_natCast]
    repeat (first | refine sc rfl ?_ | refine so rfl ?_ | refine sb rfl ?_)
    refine O_Xn (X_storeP 1 (A := opnA (HD gh W.length ch) W) (A' := vecA (HD gh W.length ch) 140 9 W.length (fun q => Opn.c ((upO oTurn W j).getD q default))) (x := I64 (IntKind.i64.wrap ((W.getD j default).w.turns + 1))) (writes_vec (q := j) (j := 3) hjl (by decide) (by omega) (fun q hq => ?_)) rfl rfl rfl rfl rfl rfl rfl) ?_
    · rw [upO_getD _ _ _ _ hq]
      by_cases h : q = j
      · rw [if_pos h, if_pos h]; rfl
      · rw [if_neg h, if_neg h]
    rw [show vecA (HD gh W.length ch) 140 9 W.length (fun q => Opn.c ((upO oTurn W j).getD q default)) = opnA (HD gh W.length ch) (upO oTurn W j) from (opnA_up _ _ _ _).symm]
    have hVl := upO_len oTurn W j
    have hVg : ((upO oTurn W j).getD j default).w.owner = o.w.owner := by rw [upO_getD _ _ _ _ hjl, if_pos rfl, ho]; rfl
    obtain ⟨V, hV⟩ : ∃ V, upO oTurn W j = V := ⟨_, rfl⟩
    rw [hV] at hVl hVg hs ⊢
    rw [← hVl]
    repeat (first | refine sc rfl ?_ | refine so rfl ?_ | refine sb rfl ?_)
    refine C_drawD rfl (by kernel_rfl) ?_
    repeat (first | refine sd rfl ?_ | refine sdb rfl ?_ | refine sds rfl ?_)
    refine D_case 2 rfl (fun c2 => ?_) (fun c2 => ?_) <;> simp only [decide_eq_true_eq, decide_eq_false_iff_not, Bool.not_eq_true', Bool.not_eq_false', beq_iff_eq, beq_eq_false_iff_ne, bne_iff_ne, ne_eq, bne_eq_false_iff_eq, Decidable.not_not] at c2
    · repeat (first | refine sd rfl ?_ | refine sdb rfl ?_ | refine sds rfl ?_)
      refine ⟨by omega, ?_⟩
      rw [Int.toNat_natCast]
      repeat (first | refine sd rfl ?_ | refine sdb rfl ?_ | refine sds rfl ?_)
      first
        | refine D_X (I64 (V.getD j default).w.owner) (X_loadP 0 (A := opnA (HD gh V.length ch) V) (cells := (Opn.c (V.getD j default)).drop 1) (reads_vec (q := j) (j := 1) (by omega) (by omega)) rfl rfl rfl rfl rfl rfl) ?_
        | refine D_X (I64 (V.getD j default).w.owner) (X_loadP 1 (A := opnA (HD gh V.length ch) V) (cells := (Opn.c (V.getD j default)).drop 1) (reads_vec (q := j) (j := 1) (by omega) (by omega)) rfl rfl rfl rfl rfl rfl) ?_
      rw [hVg]
      repeat (first | refine sd rfl ?_ | refine sdb rfl ?_ | refine sds rfl ?_)
      repeat (first | refine sc rfl ?_ | refine so rfl ?_ | refine sb rfl ?_)
      refine C_if rfl (fun c3 => ?_) (fun c3 => ?_) <;> simp only [decide_eq_true_eq, decide_eq_false_iff_not, Bool.not_eq_true', Bool.not_eq_false', beq_iff_eq, beq_eq_false_iff_ne, bne_iff_ne, ne_eq, bne_eq_false_iff_eq, Decidable.not_not] at c3
      · rw [if_pos ⟨c2, c3⟩] at hs
        repeat (first | refine sc rfl ?_ | refine so rfl ?_ | refine sb rfl ?_)
        refine ⟨by omega, ?_⟩
        rw [Int.toNat_natCast]
        repeat (first | refine sc rfl ?_ | refine so rfl ?_ | refine sb rfl ?_)
        first
          | refine O_Xn (X_storeP 0 (A := opnA (HD gh V.length ch) V) (A' := vecA (HD gh V.length ch) 140 9 V.length (fun q => Opn.c ((upO oServe V j).getD q default))) (x := B true) (writes_vec (q := j) (j := 5) (by omega) (by decide) (by omega) (fun q hq => ?_)) rfl rfl rfl rfl rfl rfl rfl) ?_
          | refine O_Xn (X_storeP 1 (A := opnA (HD gh V.length ch) V) (A' := vecA (HD gh V.length ch) 140 9 V.length (fun q => Opn.c ((upO oServe V j).getD q default))) (x := B true) (writes_vec (q := j) (j := 5) (by omega) (by decide) (by omega) (fun q hq => ?_)) rfl rfl rfl rfl rfl rfl rfl) ?_
        · rw [upO_getD _ _ _ _ hq]
          by_cases h : q = j
          · rw [if_pos h, if_pos h]; rfl
          · rw [if_neg h, if_neg h]
        rw [show vecA (HD gh V.length ch) 140 9 V.length (fun q => Opn.c ((upO oServe V j).getD q default)) = opnA (HD gh V.length ch) (upO oServe V j) from (opnA_up _ _ _ _).symm]
        have hUl := upO_len oServe V j
        obtain ⟨U, hU⟩ : ∃ U, upO oServe V j = U := ⟨_, rfl⟩
        rw [hU] at hUl hs ⊢
        rw [← hUl]
        repeat (first | refine sc rfl ?_ | refine so rfl ?_ | refine sb rfl ?_)
        refine ⟨by omega, ?_⟩
        rw [Int.toNat_natCast]
        repeat (first | refine sc rfl ?_ | refine so rfl ?_ | refine sb rfl ?_)
        first
          | refine O_Xn (X_storeP 0 (A := opnA (HD gh U.length ch) U) (A' := vecA (HD gh U.length ch) 140 9 U.length (fun q => Opn.c ((upO oShut U j).getD q default))) (x := B false) (writes_vec (q := j) (j := 8) (by omega) (by decide) (by omega) (fun q hq => ?_)) rfl rfl rfl rfl rfl rfl rfl) ?_
          | refine O_Xn (X_storeP 1 (A := opnA (HD gh U.length ch) U) (A' := vecA (HD gh U.length ch) 140 9 U.length (fun q => Opn.c ((upO oShut U j).getD q default))) (x := B false) (writes_vec (q := j) (j := 8) (by omega) (by decide) (by omega) (fun q hq => ?_)) rfl rfl rfl rfl rfl rfl rfl) ?_
        · rw [upO_getD _ _ _ _ hq]
          by_cases h : q = j
          · rw [if_pos h, if_pos h]; rfl
          · rw [if_neg h, if_neg h]
        rw [show vecA (HD gh U.length ch) 140 9 U.length (fun q => Opn.c ((upO oShut U j).getD q default)) = opnA (HD gh U.length ch) (upO oShut U j) from (opnA_up _ _ _ _).symm]
        repeat (first | refine sc rfl ?_ | refine so rfl ?_ | refine sb rfl ?_)
        rw [w64 (x := (j : Int) + 1) (by omega) (by omega)]
        refine ⟨j + 1, by omega, by omega, ?_⟩
        rw [hs]
        first
          | exact Le.pick [0, 0] ⟨rfl, rfl, rfl, rfl, rfl, trivial⟩ rfl
          | exact Le.pick [1, 0] ⟨rfl, rfl, rfl, rfl, rfl, trivial⟩ rfl
      · rw [if_neg (fun h => c3 h.2)] at hs
        repeat (first | refine sc rfl ?_ | refine so rfl ?_ | refine sb rfl ?_)
        rw [w64 (x := (j : Int) + 1) (by omega) (by omega)]
        refine ⟨j + 1, by omega, by omega, ?_⟩
        rw [hs]
        first
          | exact Le.pick [0, 0] ⟨rfl, rfl, rfl, rfl, rfl, trivial⟩ rfl
          | exact Le.pick [1, 0] ⟨rfl, rfl, rfl, rfl, rfl, trivial⟩ rfl
    · rw [if_neg (fun h => by rw [h.1] at c2; cases c2)] at hs
      repeat (first | refine sd rfl ?_ | refine sdb rfl ?_ | refine sds rfl ?_)
      repeat (first | refine sc rfl ?_ | refine so rfl ?_ | refine sb rfl ?_)
      refine C_false rfl rfl ?_
      repeat (first | refine sc rfl ?_ | refine so rfl ?_ | refine sb rfl ?_)
      rw [w64 (x := (j : Int) + 1) (by omega) (by omega)]
      refine ⟨j + 1, by omega, by omega, ?_⟩
      rw [hs]
      first
        | exact Le.pick [0, 0] ⟨rfl, rfl, rfl, rfl, rfl, trivial⟩ rfl
        | exact Le.pick [1, 0] ⟨rfl, rfl, rfl, rfl, rfl, trivial⟩ rfl
  · obtain rfl : j = os.length := by omega
    repeat (first | refine sc rfl ?_ | refine so rfl ?_ | refine sb rfl ?_)
    exact ⟨_, [_], _, rfl, pickA_perm (is := [1]) (As := [_]) rfl, rfl, rfl, by rw [hS]⟩
end Go.Proofs

/- The symbolic walk, part 65: a key struck from a map. -/
set_option linter.unusedSimpArgs false
set_option linter.unusedVariables false
namespace Go.Sy
open Go.RowKit Go.MapKept

section
variable {P : Program} {T : Tab} {X : Ctx P T} {n : Nat} {e : Env} {st : St} {a : Act} {w : World} {ops : Array Oper} {K : St → Prop}

def delE {α : Type} [DecidableEq α] (k : α) : List (α × AV) → List (α × AV)
  | [] => []
  | (j, x) :: r => if j = k then r else (j, x) :: delE k r

theorem find_del {α : Type} [DecidableEq α] {kt : TypeId} (K : Key P kt α) (k : α) : ∀ (arr : List MapEntry) (es : List (α × AV)) (i : Nat), arr.map (·.key) = es.map (fun q => K.kv q.1) →
    (Instr.findNow K.d (K.kv k) arr i = some none ∧ delE k es = es) ∨ (∃ j v, Instr.findNow K.d (K.kv k) arr i = some (some (i + j, v)) ∧ j < arr.length ∧ delE k es = es.eraseIdx j)
  | [], [], i, _ => .inl ⟨rfl, rfl⟩
  | [], _ :: _, i, h => by simp at h
  | _ :: _, [], i, h => by simp at h
  | e :: arr, (j, x) :: es, i, h => by
    simp only [List.map_cons, List.cons.injEq] at h
    obtain ⟨b, hb, hiff⟩ := sameNow_of_keys (K.ik k) (h.1 ▸ K.ik j)
    cases b with
    | true =>
      have hkj : K.kv k = e.key := hiff.1 rfl
      have : j = k := K.inj _ _ (by rw [← h.1, hkj])
      subst this
      exact .inr ⟨0, e.val, by simp [Instr.findNow, hb], by simp, by simp [delE]⟩
    | false =>
      have hkj : K.kv k ≠ e.key := fun hh => by have := hiff.2 hh; cases this
      have hne : j ≠ k := fun hh => hkj (by rw [h.1, hh])
      rcases find_del K k arr es (i + 1) h.2 with ⟨h1, h2⟩ | ⟨q, v, h1, h2, h3⟩
      · exact .inl ⟨by simp [Instr.findNow, hb, h1], by simp [delE, hne, h2]⟩
      · exact .inr ⟨q + 1, v, by simp [Instr.findNow, hb, h1]; omega, by simp only [List.length_cons]; omega, by simp [delE, hne, h3]⟩

theorem map_eraseIdx' {α β : Type} (f : α → β) : ∀ (l : List α) (i : Nat), (l.eraseIdx i).map f = (l.map f).eraseIdx i
  | [], i => by simp
  | a :: l, 0 => by simp
  | a :: l, i + 1 => by simp [map_eraseIdx' f l i]
theorem repIT_erase {G : IM} : ∀ {xs : List AV} {vs : List Value} (j : Nat), RepIT G xs vs → RepIT G (xs.eraseIdx j) (vs.eraseIdx j)
  | [], vs, j, h => by simp only [RepIT] at h; subst h; simp [RepIT]
  | y :: xs, vs, j, h => by
    simp only [RepIT] at h
    obtain ⟨z, zs, rfl, h1, h2⟩ := h
    cases j with
    | zero => simpa using h2
    | succ j => simp only [List.eraseIdx_cons_succ, RepIT]; exact ⟨z, _, rfl, h1, repIT_erase j h2⟩

/-- delete(m, k). -/
theorem X_delete (q : Nat) {α : Type} [DecidableEq α] {kt et mt : TypeId} (K : Key P kt α) {p : Pl} {b : Nat} {es : List (α × AV)} {m x : Operand} {k : α} {ty : TypeId} {pos : String} {aft : Array Edge} {gd : Option (Nat × Bool)} {j : Nat} {Si : List (Nat × AV)} {c cr : List Ch}
    (hm : P.underlying mt = some (.map kt et))
    (hg : guardA ops ⟨Si, c⟩ ⟨none, .call ⟨.builtin .delete, #[m, x], #[mt, kt]⟩, ty, pos, aft, gd⟩ = some true) (hmo : opd Si m = some (.v (.map (some b)))) (hx : opd Si x = some (.v (K.kv k))) (hp : nthA q c = some (mapA K.kv (some b) es, cr)) :
    StepX X n ops p Si c (.abs (mapA K.kv (some b) (delE k es)) :: cr) j ⟨none, .call ⟨.builtin .delete, #[m, x], #[mt, kt]⟩, ty, pos, aft, gd⟩ (.tup []) :=
  StepX.val hg rfl (fun e a w S r r' => by
    have h1 := opd_sound r' hmo
    have h2 := opd_sound r' hx
    simp only [Rep] at h1 h2
    obtain ⟨⟨arr, cl, g1, g2, g3, g4, g5⟩, _⟩ := r.heap.nth hp
    have hlt : b < w.heap.size := (Array.getElem?_eq_some_iff.1 g1).1
    have fin : ∀ (arr' : Array MapEntry), (Builtin.delete_ #[mt, kt] ty #[.map (some b), K.kv k]).run P w = .ok (.tuple #[]) { w with heap := w.heap.setIfInBounds b (.map arr' cl) } →
        arr'.toList.map (·.key) = (delE k es).map (fun q => K.kv q.1) → RepIT e.G ((delE k es).map (·.2)) (arr'.toList.map (·.val)) → (arr'.toList.map (·.born)).Nodup → (∀ x ∈ arr'.toList, x.born < cl) →
        ∃ v w' e', (execOp a.eval ⟨none, .call ⟨.builtin .delete, #[m, x], #[mt, kt]⟩, ty, pos, aft, gd⟩).run P w = .ok (.value v) w' ∧ Rel X n e' ⟨S, .abs (mapA K.kv (some b) (delE k es)) :: cr⟩ a w' ∧ Rep e' (.tup []) v := by
      intro arr' hrun k1 k2 k3 k4
      refine ⟨.tuple #[], { w with heap := w.heap.setIfInBounds b (.map arr' cl) }, e, by simp only [execOp, resolve, invoke, builtin, Sem.run_bind, Sem.run_pure, Result.andThen_ok, List.map_toArray, List.map_cons, List.map_nil, h1, h2, hrun], r.absTurn (st := ⟨S, c⟩) hp rfl ⟨arr', cl, by simp [hlt], k1, k2, k3, k4⟩ (fun b' hb' => ?_) ⟨rfl, rfl, rfl⟩ (by simp), ?_⟩
      · have hne : b ≠ b' := fun hh => hb' (by subst hh; simp [mapA])
        simp [hne]
      · simp only [Rep, RepT]; exact ⟨_, rfl, rfl⟩
    rcases find_del K k arr.toList es 0 g2 with ⟨f1, f2⟩ | ⟨jj, v, f1, f2, f3⟩
    · have hf := run_findKey (w := w) K.hd f1
      refine fin arr ?_ (by rw [f2]; exact g2) (by rw [f2]; exact g3) g4 g5
      simp [Builtin.delete_, run_underlying hm, MapKept.run_getObj_map g1, run_checkKey K.hd (K.ik k), hf, MapKept.run_setObj_map _ g1, Result.andThen]
    · rw [Nat.zero_add] at f1
      have hf := run_findKey (w := w) K.hd f1
      have hj : jj < arr.size := by simpa using f2
      have hto : (arr.eraseIdxIfInBounds jj).toList = arr.toList.eraseIdx jj := by
        unfold Array.eraseIdxIfInBounds
        rw [dif_pos hj, Array.toList_eraseIdx]
      refine fin (arr.eraseIdxIfInBounds jj) ?_ ?_ ?_ ?_ ?_
      · simp [Builtin.delete_, run_underlying hm, MapKept.run_getObj_map g1, run_checkKey K.hd (K.ik k), hf, MapKept.run_setObj_map _ g1, Result.andThen]
      · rw [hto, f3, map_eraseIdx', map_eraseIdx', g2]
      · rw [hto, f3, map_eraseIdx', map_eraseIdx']
        exact repIT_erase jj g3
      · rw [hto, map_eraseIdx']
        exact g4.sublist (List.eraseIdx_sublist _ _)
      · intro y hy
        rw [hto] at hy
        exact g5 y ((List.eraseIdx_sublist _ _).subset hy))
end
end Go.Sy

/- admin.Book: the tenants' map. -/
set_option linter.unusedSimpArgs false
set_option linter.unusedVariables false
set_option maxRecDepth 100000
namespace Go.Proofs
open Go.Sy Go.Lib

abbrev At := Cf × Bool
def atC (t : At) : List AV := [I64 t.1.quantum, I64 t.1.rate, I64 t.1.burst, I64 t.1.mem, I64 t.1.slots, I64 t.1.outs, I64 t.1.conns, I64 t.1.state, I64 t.1.decode, B t.2]
def esT (es : List (Int × At)) : List (Int × AV) := es.map fun q => (q.1, AV.agg (atC q.2))
def lookT (k : Int) : List (Int × At) → Option At
  | [] => none
  | (j, x) :: r => if j = k then some x else lookT k r
def updT (k : Int) (x : At) : List (Int × At) → List (Int × At)
  | [] => [(k, x)]
  | (j, y) :: r => if j = k then (j, x) :: r else (j, y) :: updT k x r
def delT (k : Int) : List (Int × At) → List (Int × At)
  | [] => []
  | (j, x) :: r => if j = k then r else (j, x) :: delT k r
theorem lookE_esT (k : Int) : ∀ es : List (Int × At), lookE k (esT es) = (lookT k es).map fun a => AV.agg (atC a)
  | [] => rfl
  | (j, x) :: r => by
    have := lookE_esT k r
    simp only [esT, List.map_cons, lookE, lookT] at this ⊢
    split
    · rfl
    · exact this
theorem updE_esT (k : Int) (x : At) : ∀ es : List (Int × At), updE k (.agg (atC x)) (esT es) = esT (updT k x es)
  | [] => rfl
  | (j, y) :: r => by
    have := updE_esT k x r
    simp only [esT, List.map_cons, updE, updT] at this ⊢
    split
    · simp
    · simp only [List.map_cons, this]
theorem delE_esT (k : Int) : ∀ es : List (Int × At), delE k (esT es) = esT (delT k es)
  | [] => rfl
  | (j, y) :: r => by
    have := delE_esT k r
    simp only [esT, List.map_cons, delE, delT] at this ⊢
    split
    · simp
    · simp only [List.map_cons, this]
abbrev zAt : AV := .agg (atC default)
theorem look_getD (k : Int) (es : List (Int × At)) : (lookE k (esT es)).getD zAt = .agg (atC ((lookT k es).getD default)) := by
  rw [lookE_esT]; cases lookT k es <;> rfl
theorem look_some (k : Int) (es : List (Int × At)) : (lookE k (esT es)).isSome = (lookT k es).isSome := by
  rw [lookE_esT]; cases lookT k es <;> rfl
theorem rep_zAt (e : Env) : Rep e zAt (.agg #[.int .i64 0, .int .i64 0, .int .i64 0, .int .i64 0, .int .i64 0, .int .i64 0, .int .i64 0, .int .i64 0, .int .i64 0, .bool false]) := by
  simp [zAt, Rep]
  exact zero_sound e (zs := [.int .i64 0, .int .i64 0, .int .i64 0, .int .i64 0, .int .i64 0, .int .i64 0, .int .i64 0, .int .i64 0, .int .i64 0, .bool false]) rfl
abbrev ikz : Int → Value := fun i => .int .i64 i
noncomputable abbrev iKz : Key Tryz.prog 3 Int := intKey Tryz.underlying3
/-- The watch's own cells and its book. -/
abbrev wtA (g : Nat) (mo : Option Nat) (hw hc ho : Value) : Abs := boxA g 117 [.v (.map mo), .v hw, .v hc, .v ho]
abbrev bkA (mo : Option Nat) (es : List (Int × At)) : Abs := mapA ikz mo (esT es)

theorem find_A (g : Nat) (mo : Option Nat) (hw hc ho : Value) (es : List (Int × At)) (k : Int) : FnA Tryz.prog 101 [PT g 0, I64 k] [wtA g mo hw hc ho, bkA mo es]
    (fun r cs' => r = .tup [.agg (atC ((lookT k es).getD default)), B (lookT k es).isSome] ∧ cs' = [wtA g mo hw hc ho, bkA mo es]) := by
  refine FnA.intro Tryz.tabOK Tryz.wide_ Tryz.func101 rfl (by decide) rfl (fun X => ?_)
  repeat (first | refine sc rfl ?_ | refine so rfl ?_ | refine sb rfl ?_)
  refine O_Xd (X_ptrnil Tryz.underlying203 rfl rfl rfl) ?_
  repeat (first | refine sc rfl ?_ | refine so rfl ?_ | refine sb rfl ?_)
  refine C_false rfl rfl ?_
  repeat (first | refine sc rfl ?_ | refine so rfl ?_ | refine sb rfl ?_)
  first
    | refine O_loadP 0 (reads_box 0) rfl rfl rfl rfl rfl rfl ?_
    | refine O_loadP 1 (reads_box 0) rfl rfl rfl rfl rfl rfl ?_
    | refine O_loadP 2 (reads_box 0) rfl rfl rfl rfl rfl rfl ?_
    | refine O_loadP 3 (reads_box 0) rfl rfl rfl rfl rfl rfl ?_
    | refine O_loadP 4 (reads_box 0) rfl rfl rfl rfl rfl rfl ?_
  repeat (first | refine sc rfl ?_ | refine so rfl ?_ | refine sb rfl ?_)
  refine O_Xd (X_look 2 (es := esT es) (z := zAt) iKz Tryz.underlying113 rfl rfl rep_zAt rfl rfl rfl rfl rfl rfl) ?_
  rw [show lookAV true (lookE k (esT es)) zAt = .tup [.agg (atC ((lookT k es).getD default)), B (lookT k es).isSome] by unfold lookAV; rw [look_getD, look_some]; rfl]
  repeat (first | refine sc rfl ?_ | refine so rfl ?_ | refine sb rfl ?_)
  exact ⟨_, [_, _], _, rfl, pickA_perm (is := [2, 2]) (As := [_, _]) rfl, rfl, rfl, rfl⟩
/-- Does an order fit the book? -/
def bkCheckF (es : List (Int × At)) (o : Ord) : Int :=
  if formF o ≠ 0 then 1
  else if o.op = 1 ∧ (lookT o.owner es).isSome = true then 7
  else if o.op ≠ 1 ∧ (lookT o.owner es).isSome = false then 12
  else if (o.op = 2 ∧ ((lookT o.owner es).getD default).2 = true) ∨ (o.op = 3 ∧ ((lookT o.owner es).getD default).2 = false) then 17 else 0
theorem bkCheck_A (g : Nat) (mo : Option Nat) (hw hc ho : Value) (es : List (Int × At)) (o : Ord) : FnA Tryz.prog 171 [PT g 0, .agg (Ord.c o)] [wtA g mo hw hc ho, bkA mo es]
    (fun r cs' => r = I64 (bkCheckF es o) ∧ cs' = [wtA g mo hw hc ho, bkA mo es]) := by
  refine FnA.intro Tryz.tabOK Tryz.wide_ Tryz.func171 rfl (by decide) rfl (fun X => ?_)
  obtain ⟨q, hq⟩ : ∃ q, bkCheckF es o = q := ⟨_, rfl⟩
  rw [hq]
  unfold bkCheckF at hq
  repeat (first | refine sc rfl ?_ | refine so rfl ?_ | refine sb rfl ?_)
  refine O_callA [1, 1] (find_A g mo hw hc ho es o.owner) (by rfl) (by rfl) (by rfl) (by rfl) (by rfl) ?_
  rintro r cs' ⟨rfl, rfl⟩
  obtain ⟨L, hL⟩ : ∃ L, lookT o.owner es = L := ⟨_, rfl⟩
  rw [hL] at hq ⊢
  obtain ⟨t, ht⟩ : ∃ t, L.getD default = t := ⟨_, rfl⟩
  obtain ⟨u, hu⟩ : ∃ u, L.isSome = u := ⟨_, rfl⟩
  rw [ht, hu] at hq ⊢
  repeat (first | refine sc rfl ?_ | refine so rfl ?_ | refine sb rfl ?_)
  refine O_Xd (X_ptrnil Tryz.underlying203 rfl rfl rfl) ?_
  repeat (first | refine sc rfl ?_ | refine so rfl ?_ | refine sb rfl ?_)
  refine C_false rfl rfl ?_
  repeat (first | refine sc rfl ?_ | refine so rfl ?_ | refine sb rfl ?_)
  refine O_call (form_c o) (by rfl) (by rfl) (by rfl) (by rfl) (fun r hr => ?_)
  subst hr
  repeat (first | refine sc rfl ?_ | refine so rfl ?_ | refine sb rfl ?_)
  refine C_if rfl (fun m1 => ?_) (fun m1 => ?_) <;> try simp only [decide_eq_true_eq, decide_eq_false_iff_not, Bool.not_eq_true', Bool.not_eq_false', beq_iff_eq, beq_eq_false_iff_ne, bne_iff_ne, ne_eq, bne_eq_false_iff_eq, Decidable.not_not] at m1
  · repeat (first | refine sc rfl ?_ | refine so rfl ?_ | refine sb rfl ?_)
    exact ⟨_, [_, _], _, rfl, pickA_perm (is := [1, 1]) (As := [_, _]) rfl, rfl, by rw [← hq]; first | (simp [m1]; done) | (exfalso; omega), rfl⟩
  repeat (first | refine sc rfl ?_ | refine so rfl ?_ | refine sb rfl ?_)
  refine O_case 25 rfl (fun c1 => ?_) (fun c1 => ?_) <;> try simp only [decide_eq_true_eq, decide_eq_false_iff_not, Bool.not_eq_true', Bool.not_eq_false', beq_iff_eq, beq_eq_false_iff_ne, bne_iff_ne, ne_eq, bne_eq_false_iff_eq, Decidable.not_not] at c1
  · repeat (first | refine sc rfl ?_ | refine so rfl ?_ | refine sb rfl ?_)
    refine C_if rfl (fun c2 => ?_) (fun c2 => ?_) <;> try simp only [decide_eq_true_eq, decide_eq_false_iff_not, Bool.not_eq_true', Bool.not_eq_false', beq_iff_eq, beq_eq_false_iff_ne, bne_iff_ne, ne_eq, bne_eq_false_iff_eq, Decidable.not_not] at c2
    · repeat (first | refine sc rfl ?_ | refine so rfl ?_ | refine sb rfl ?_)
      exact ⟨_, [_, _], _, rfl, pickA_perm (is := [1, 1]) (As := [_, _]) rfl, rfl, by rw [← hq]; first | (simp [m1, c1, c2]; done) | (exfalso; omega), rfl⟩
    repeat (first | refine sc rfl ?_ | refine so rfl ?_ | refine sb rfl ?_)
    refine O_case 32 rfl (fun c3 => ?_) (fun c3 => ?_) <;> try simp only [decide_eq_true_eq, decide_eq_false_iff_not, Bool.not_eq_true', Bool.not_eq_false', beq_iff_eq, beq_eq_false_iff_ne, bne_iff_ne, ne_eq, bne_eq_false_iff_eq, Decidable.not_not] at c3
    · exact absurd c1 c3
    repeat (first | refine sc rfl ?_ | refine so rfl ?_ | refine sb rfl ?_)
    refine C_false rfl rfl ?_
    repeat (first | refine sc rfl ?_ | refine so rfl ?_ | refine sb rfl ?_)
    refine O_case 40 rfl (fun d1 => ?_) (fun d1 => ?_) <;> try simp only [decide_eq_true_eq, decide_eq_false_iff_not, Bool.not_eq_true', Bool.not_eq_false', beq_iff_eq, beq_eq_false_iff_ne, bne_iff_ne, ne_eq, bne_eq_false_iff_eq, Decidable.not_not] at d1
    · repeat (first | refine sc rfl ?_ | refine so rfl ?_ | refine sb rfl ?_)
      refine C_if rfl (fun d2 => ?_) (fun d2 => ?_) <;> try simp only [decide_eq_true_eq, decide_eq_false_iff_not, Bool.not_eq_true', Bool.not_eq_false', beq_iff_eq, beq_eq_false_iff_ne, bne_iff_ne, ne_eq, bne_eq_false_iff_eq, Decidable.not_not] at d2
      · repeat (first | refine sc rfl ?_ | refine so rfl ?_ | refine sb rfl ?_)
        refine C_true rfl d2 ?_
        repeat (first | refine sc rfl ?_ | refine so rfl ?_ | refine sb rfl ?_)
        exact ⟨_, [_, _], _, rfl, pickA_perm (is := [1, 1]) (As := [_, _]) rfl, rfl, by rw [← hq]; first | (simp [m1, c1, c2, d1, d2]; done) | (exfalso; omega), rfl⟩
      · repeat (first | refine sc rfl ?_ | refine so rfl ?_ | refine sb rfl ?_)
        refine O_case 47 rfl (fun e1 => ?_) (fun e1 => ?_) <;> try simp only [decide_eq_true_eq, decide_eq_false_iff_not, Bool.not_eq_true', Bool.not_eq_false', beq_iff_eq, beq_eq_false_iff_ne, bne_iff_ne, ne_eq, bne_eq_false_iff_eq, Decidable.not_not] at e1
        · repeat (first | refine sc rfl ?_ | refine so rfl ?_ | refine sb rfl ?_)
          refine C_if rfl (fun e2 => ?_) (fun e2 => ?_) <;> try simp only [decide_eq_true_eq, decide_eq_false_iff_not, Bool.not_eq_true', Bool.not_eq_false', beq_iff_eq, beq_eq_false_iff_ne, bne_iff_ne, ne_eq, bne_eq_false_iff_eq, Decidable.not_not] at e2
          · repeat (first | refine sc rfl ?_ | refine so rfl ?_ | refine sb rfl ?_)
            exact ⟨_, [_, _], _, rfl, pickA_perm (is := [1, 1]) (As := [_, _]) rfl, rfl, by rw [← hq]; first | (simp [m1, c1, c2, d1, d2, e1, e2]; done) | (exfalso; omega), rfl⟩
          · repeat (first | refine sc rfl ?_ | refine so rfl ?_ | refine sb rfl ?_)
            exact ⟨_, [_, _], _, rfl, pickA_perm (is := [1, 1]) (As := [_, _]) rfl, rfl, by rw [← hq]; first | (simp [m1, c1, c2, d1, d2, e1, e2]; done) | (exfalso; omega), rfl⟩
        · repeat (first | refine sc rfl ?_ | refine so rfl ?_ | refine sb rfl ?_)
          refine C_false rfl rfl ?_
          repeat (first | refine sc rfl ?_ | refine so rfl ?_ | refine sb rfl ?_)
          exact ⟨_, [_, _], _, rfl, pickA_perm (is := [1, 1]) (As := [_, _]) rfl, rfl, by rw [← hq]; first | (simp [m1, c1, c2, d1, d2, e1]; done) | (exfalso; omega), rfl⟩
    · repeat (first | refine sc rfl ?_ | refine so rfl ?_ | refine sb rfl ?_)
      refine C_false rfl rfl ?_
      repeat (first | refine sc rfl ?_ | refine so rfl ?_ | refine sb rfl ?_)
      refine O_case 47 rfl (fun e1 => ?_) (fun e1 => ?_) <;> try simp only [decide_eq_true_eq, decide_eq_false_iff_not, Bool.not_eq_true', Bool.not_eq_false', beq_iff_eq, beq_eq_false_iff_ne, bne_iff_ne, ne_eq, bne_eq_false_iff_eq, Decidable.not_not] at e1
      · repeat (first | refine sc rfl ?_ | refine so rfl ?_ | refine sb rfl ?_)
        refine C_if rfl (fun e2 => ?_) (fun e2 => ?_) <;> try simp only [decide_eq_true_eq, decide_eq_false_iff_not, Bool.not_eq_true', Bool.not_eq_false', beq_iff_eq, beq_eq_false_iff_ne, bne_iff_ne, ne_eq, bne_eq_false_iff_eq, Decidable.not_not] at e2
        · repeat (first | refine sc rfl ?_ | refine so rfl ?_ | refine sb rfl ?_)
          exact ⟨_, [_, _], _, rfl, pickA_perm (is := [1, 1]) (As := [_, _]) rfl, rfl, by rw [← hq]; first | (simp [m1, c1, c2, d1, e1, e2]; done) | (exfalso; omega), rfl⟩
        · repeat (first | refine sc rfl ?_ | refine so rfl ?_ | refine sb rfl ?_)
          exact ⟨_, [_, _], _, rfl, pickA_perm (is := [1, 1]) (As := [_, _]) rfl, rfl, by rw [← hq]; first | (simp [m1, c1, c2, d1, e1, e2]; done) | (exfalso; omega), rfl⟩
      · repeat (first | refine sc rfl ?_ | refine so rfl ?_ | refine sb rfl ?_)
        refine C_false rfl rfl ?_
        repeat (first | refine sc rfl ?_ | refine so rfl ?_ | refine sb rfl ?_)
        exact ⟨_, [_, _], _, rfl, pickA_perm (is := [1, 1]) (As := [_, _]) rfl, rfl, by rw [← hq]; first | (simp [m1, c1, c2, d1, e1]; done) | (exfalso; omega), rfl⟩
  · repeat (first | refine sc rfl ?_ | refine so rfl ?_ | refine sb rfl ?_)
    refine C_false rfl rfl ?_
    repeat (first | refine sc rfl ?_ | refine so rfl ?_ | refine sb rfl ?_)
    refine O_case 32 rfl (fun c3 => ?_) (fun c3 => ?_) <;> try simp only [decide_eq_true_eq, decide_eq_false_iff_not, Bool.not_eq_true', Bool.not_eq_false', beq_iff_eq, beq_eq_false_iff_ne, bne_iff_ne, ne_eq, bne_eq_false_iff_eq, Decidable.not_not] at c3
    · repeat (first | refine sc rfl ?_ | refine so rfl ?_ | refine sb rfl ?_)
      refine C_if rfl (fun c2 => ?_) (fun c2 => ?_) <;> try simp only [decide_eq_true_eq, decide_eq_false_iff_not, Bool.not_eq_true', Bool.not_eq_false', beq_iff_eq, beq_eq_false_iff_ne, bne_iff_ne, ne_eq, bne_eq_false_iff_eq, Decidable.not_not] at c2
      · repeat (first | refine sc rfl ?_ | refine so rfl ?_ | refine sb rfl ?_)
        exact ⟨_, [_, _], _, rfl, pickA_perm (is := [1, 1]) (As := [_, _]) rfl, rfl, by rw [← hq]; first | (simp [m1, c1, c2]; done) | (exfalso; omega), rfl⟩
      · repeat (first | refine sc rfl ?_ | refine so rfl ?_ | refine sb rfl ?_)
        refine O_case 40 rfl (fun d1 => ?_) (fun d1 => ?_) <;> try simp only [decide_eq_true_eq, decide_eq_false_iff_not, Bool.not_eq_true', Bool.not_eq_false', beq_iff_eq, beq_eq_false_iff_ne, bne_iff_ne, ne_eq, bne_eq_false_iff_eq, Decidable.not_not] at d1
        · repeat (first | refine sc rfl ?_ | refine so rfl ?_ | refine sb rfl ?_)
          refine C_if rfl (fun d2 => ?_) (fun d2 => ?_) <;> try simp only [decide_eq_true_eq, decide_eq_false_iff_not, Bool.not_eq_true', Bool.not_eq_false', beq_iff_eq, beq_eq_false_iff_ne, bne_iff_ne, ne_eq, bne_eq_false_iff_eq, Decidable.not_not] at d2
          · repeat (first | refine sc rfl ?_ | refine so rfl ?_ | refine sb rfl ?_)
            refine C_true rfl d2 ?_
            repeat (first | refine sc rfl ?_ | refine so rfl ?_ | refine sb rfl ?_)
            exact ⟨_, [_, _], _, rfl, pickA_perm (is := [1, 1]) (As := [_, _]) rfl, rfl, by rw [← hq]; first | (simp [m1, c1, c2, d1, d2]; done) | (exfalso; omega), rfl⟩
          · repeat (first | refine sc rfl ?_ | refine so rfl ?_ | refine sb rfl ?_)
            refine O_case 47 rfl (fun e1 => ?_) (fun e1 => ?_) <;> try simp only [decide_eq_true_eq, decide_eq_false_iff_not, Bool.not_eq_true', Bool.not_eq_false', beq_iff_eq, beq_eq_false_iff_ne, bne_iff_ne, ne_eq, bne_eq_false_iff_eq, Decidable.not_not] at e1
            · repeat (first | refine sc rfl ?_ | refine so rfl ?_ | refine sb rfl ?_)
              refine C_if rfl (fun e2 => ?_) (fun e2 => ?_) <;> try simp only [decide_eq_true_eq, decide_eq_false_iff_not, Bool.not_eq_true', Bool.not_eq_false', beq_iff_eq, beq_eq_false_iff_ne, bne_iff_ne, ne_eq, bne_eq_false_iff_eq, Decidable.not_not] at e2
              · repeat (first | refine sc rfl ?_ | refine so rfl ?_ | refine sb rfl ?_)
                exact ⟨_, [_, _], _, rfl, pickA_perm (is := [1, 1]) (As := [_, _]) rfl, rfl, by rw [← hq]; first | (simp [m1, c1, c2, d1, d2, e1, e2]; done) | (exfalso; omega), rfl⟩
              · repeat (first | refine sc rfl ?_ | refine so rfl ?_ | refine sb rfl ?_)
                exact ⟨_, [_, _], _, rfl, pickA_perm (is := [1, 1]) (As := [_, _]) rfl, rfl, by rw [← hq]; first | (simp [m1, c1, c2, d1, d2, e1, e2]; done) | (exfalso; omega), rfl⟩
            · repeat (first | refine sc rfl ?_ | refine so rfl ?_ | refine sb rfl ?_)
              refine C_false rfl rfl ?_
              repeat (first | refine sc rfl ?_ | refine so rfl ?_ | refine sb rfl ?_)
              exact ⟨_, [_, _], _, rfl, pickA_perm (is := [1, 1]) (As := [_, _]) rfl, rfl, by rw [← hq]; first | (simp [m1, c1, c2, d1, d2, e1]; done) | (exfalso; omega), rfl⟩
        · repeat (first | refine sc rfl ?_ | refine so rfl ?_ | refine sb rfl ?_)
          refine C_false rfl rfl ?_
          repeat (first | refine sc rfl ?_ | refine so rfl ?_ | refine sb rfl ?_)
          refine O_case 47 rfl (fun e1 => ?_) (fun e1 => ?_) <;> try simp only [decide_eq_true_eq, decide_eq_false_iff_not, Bool.not_eq_true', Bool.not_eq_false', beq_iff_eq, beq_eq_false_iff_ne, bne_iff_ne, ne_eq, bne_eq_false_iff_eq, Decidable.not_not] at e1
          · repeat (first | refine sc rfl ?_ | refine so rfl ?_ | refine sb rfl ?_)
            refine C_if rfl (fun e2 => ?_) (fun e2 => ?_) <;> try simp only [decide_eq_true_eq, decide_eq_false_iff_not, Bool.not_eq_true', Bool.not_eq_false', beq_iff_eq, beq_eq_false_iff_ne, bne_iff_ne, ne_eq, bne_eq_false_iff_eq, Decidable.not_not] at e2
            · repeat (first | refine sc rfl ?_ | refine so rfl ?_ | refine sb rfl ?_)
              exact ⟨_, [_, _], _, rfl, pickA_perm (is := [1, 1]) (As := [_, _]) rfl, rfl, by rw [← hq]; first | (simp [m1, c1, c2, d1, e1, e2]; done) | (exfalso; omega), rfl⟩
            · repeat (first | refine sc rfl ?_ | refine so rfl ?_ | refine sb rfl ?_)
              exact ⟨_, [_, _], _, rfl, pickA_perm (is := [1, 1]) (As := [_, _]) rfl, rfl, by rw [← hq]; first | (simp [m1, c1, c2, d1, e1, e2]; done) | (exfalso; omega), rfl⟩
          · repeat (first | refine sc rfl ?_ | refine so rfl ?_ | refine sb rfl ?_)
            refine C_false rfl rfl ?_
            repeat (first | refine sc rfl ?_ | refine so rfl ?_ | refine sb rfl ?_)
            exact ⟨_, [_, _], _, rfl, pickA_perm (is := [1, 1]) (As := [_, _]) rfl, rfl, by rw [← hq]; first | (simp [m1, c1, c2, d1, e1]; done) | (exfalso; omega), rfl⟩
    · exact absurd c3 c1
end Go.Proofs

/- admin.Book: Do, Lives, Conf. -/
set_option linter.unusedSimpArgs false
set_option linter.unusedVariables false
set_option maxRecDepth 100000
namespace Go.Proofs
open Go.Sy Go.Lib

def doT (o : Ord) (t : At) : At := if o.op = 1 then (o.conf, false) else if o.op = 2 ∨ o.op = 3 then (t.1, decide (o.op = 2)) else if o.op = 6 then (o.conf, t.2) else t
def bkDoF (es : List (Int × At)) (o : Ord) : List (Int × At) × Int :=
  if bkCheckF es o ≠ 0 then (es, bkCheckF es o) else if o.op = 4 then (delT o.owner es, 0) else (updT o.owner (doT o ((lookT o.owner es).getD default)) es, 0)

theorem Lives_A (g : Nat) (mo : Option Nat) (hw hc ho : Value) (es : List (Int × At)) (k : Int) : FnA Tryz.prog 58 [PT g 0, I64 k] [wtA g mo hw hc ho, bkA mo es]
    (fun r cs' => r = B (lookT k es).isSome ∧ cs' = [wtA g mo hw hc ho, bkA mo es]) := by
  refine FnA.intro Tryz.tabOK Tryz.wide_ Tryz.func58 rfl (by decide) rfl (fun X => ?_)
  repeat (first | refine sc rfl ?_ | refine so rfl ?_ | refine sb rfl ?_)
  refine O_callA [0, 0] (find_A g mo hw hc ho es k) (by rfl) (by rfl) (by rfl) (by rfl) (by rfl) ?_
  rintro r cs' ⟨rfl, rfl⟩
  obtain ⟨t, ht⟩ : ∃ t, (lookT k es).getD default = t := ⟨_, rfl⟩
  obtain ⟨u, hu⟩ : ∃ u, (lookT k es).isSome = u := ⟨_, rfl⟩
  rw [ht, hu]
  repeat (first | refine sc rfl ?_ | refine so rfl ?_ | refine sb rfl ?_)
  exact ⟨_, [_, _], _, rfl, pickA_perm (is := [1, 1]) (As := [_, _]) rfl, rfl, rfl, rfl⟩
theorem Conf_A (g : Nat) (mo : Option Nat) (hw hc ho : Value) (es : List (Int × At)) (k : Int) : FnA Tryz.prog 103 [PT g 0, I64 k] [wtA g mo hw hc ho, bkA mo es]
    (fun r cs' => r = .agg (Cf.c ((lookT k es).getD default).1) ∧ cs' = [wtA g mo hw hc ho, bkA mo es]) := by
  refine FnA.intro Tryz.tabOK Tryz.wide_ Tryz.func103 rfl (by decide) rfl (fun X => ?_)
  repeat (first | refine sc rfl ?_ | refine so rfl ?_ | refine sb rfl ?_)
  refine O_callA [1, 1] (find_A g mo hw hc ho es k) (by rfl) (by rfl) (by rfl) (by rfl) (by rfl) ?_
  rintro r cs' ⟨rfl, rfl⟩
  obtain ⟨t, ht⟩ : ∃ t, (lookT k es).getD default = t := ⟨_, rfl⟩
  obtain ⟨u, hu⟩ : ∃ u, (lookT k es).isSome = u := ⟨_, rfl⟩
  rw [ht, hu]
  repeat (first | refine sc rfl ?_ | refine so rfl ?_ | refine sb rfl ?_)
  exact ⟨_, [_, _], _, rfl, pickA_perm (is := [2, 2]) (As := [_, _]) rfl, rfl, rfl, rfl⟩

def PBd : Pl := ⟨[[], [], [], [], [], [], [], [], [7, 6, 3]], [3, 6, 7, 8], [(7, 6)], []⟩
def CBd (A B : Abs) (t : At) (b7 b8 : Bool) : List Ch := (bif b7 then [.box 6 205 (bif b8 then atC t else atC default)] else []) ++ [.abs A, .abs B]

def PBe : Pl := ⟨[[], [], [], [], [], [], [3]], [3, 6], [], []⟩
def CBe (A B B' : Abs) (t : At) (b6 : Bool) : List Ch := [.abs (bif b6 then B' else B), .abs A, .box 6 205 (atC t)]
theorem bkDo_A (g : Nat) (mo : Option Nat) (hw hc ho : Value) (es : List (Int × At)) (hmo : mo = none → es = []) (o : Ord) : FnA Tryz.prog 97 [PT g 0, .agg (Ord.c o)] [wtA g mo hw hc ho, bkA mo es]
    (fun r cs' => r = I64 (bkDoF es o).2 ∧ ∃ mo', (mo' = none → (bkDoF es o).1 = []) ∧ cs' = [wtA g mo' hw hc ho, bkA mo' (bkDoF es o).1]) := by
  refine FnA.intro Tryz.tabOK Tryz.wide_ Tryz.func97 rfl (by decide) rfl (fun X => ?_)
  obtain ⟨q, hq⟩ : ∃ q, bkDoF es o = q := ⟨_, rfl⟩
  rw [hq]
  unfold bkDoF at hq
  repeat (first | refine sc rfl ?_ | refine so rfl ?_ | refine sb rfl ?_)
  refine O_callA [1, 1] (bkCheck_A g mo hw hc ho es o) (by rfl) (by rfl) (by rfl) (by rfl) (by rfl) ?_
  rintro r cs' ⟨rfl, rfl⟩
  obtain ⟨v, hv⟩ : ∃ v, bkCheckF es o = v := ⟨_, rfl⟩
  rw [hv] at hq ⊢
  repeat (first | refine sc rfl ?_ | refine so rfl ?_ | refine sb rfl ?_)
  refine C_if rfl (fun m1 => ?_) (fun m1 => ?_) <;> simp only [decide_eq_true_eq, decide_eq_false_iff_not, Bool.not_eq_true', Bool.not_eq_false', beq_iff_eq, beq_eq_false_iff_ne, bne_iff_ne, ne_eq, bne_eq_false_iff_eq, Decidable.not_not] at m1
  · rw [if_pos m1] at hq
    repeat (first | refine sc rfl ?_ | refine so rfl ?_ | refine sb rfl ?_)
    exact ⟨_, [_, _], _, rfl, pickA_perm (is := [0, 0]) (As := [_, _]) rfl, rfl, by rw [← hq], mo, by rw [← hq]; exact hmo, by rw [← hq]⟩
  rw [if_neg (fun h => h m1)] at hq
  refine C_le _ (Le.freezebox 3 rfl rfl rfl) ?_
  refine sc rfl ?_
  refine sc rfl ?_
  refine C_joinE (fun b : Nat => ⟨[(0, PT g 0), (3, .cp (Ord.c o)), (4, I64 0)], [.abs (wtA g (some b) hw hc ho), .abs (bkA (some b) es)]⟩) (fun _ => True) ?_ (fun b s _ hs => C_le _ hs ?_)
  · repeat (first | refine sc rfl ?_ | refine so rfl ?_ | refine sb rfl ?_)
    first
      | refine O_loadP 0 (reads_box 0) rfl rfl rfl rfl rfl rfl ?_
      | refine O_loadP 1 (reads_box 0) rfl rfl rfl rfl rfl rfl ?_
      | refine O_loadP 2 (reads_box 0) rfl rfl rfl rfl rfl rfl ?_
      | refine O_loadP 3 (reads_box 0) rfl rfl rfl rfl rfl rfl ?_
      | refine O_loadP 4 (reads_box 0) rfl rfl rfl rfl rfl rfl ?_
    repeat (first | refine sc rfl ?_ | refine so rfl ?_ | refine sb rfl ?_)
    refine O_Xd (X_mapnil Tryz.underlying113 rfl rfl rfl) ?_
    repeat (first | refine sc rfl ?_ | refine so rfl ?_ | refine sb rfl ?_)
    cases mo with
    | none =>
      refine C_true rfl rfl ?_
      repeat (first | refine sc rfl ?_ | refine so rfl ?_ | refine sb rfl ?_)
      refine O_makeMap ikz rfl (fun b => ?_)
      repeat (first | refine sc rfl ?_ | refine so rfl ?_ | refine sb rfl ?_)
      refine O_Xn (X_storeP 1 (writes_box (by show 0 < 4; decide)) rfl rfl rfl rfl rfl rfl rfl) ?_
      repeat (first | refine sc rfl ?_ | refine so rfl ?_ | refine sb rfl ?_)
      refine ⟨b, trivial, ?_⟩
      rw [hmo rfl]
      exact Le.pick [0, 0] ⟨rfl, rfl, rfl, trivial⟩ rfl
    | some b =>
      refine C_false rfl rfl ?_
      repeat (first | refine sc rfl ?_ | refine so rfl ?_ | refine sb rfl ?_)
      refine ⟨b, trivial, ?_⟩
      exact Le.pick [0, 0] ⟨rfl, rfl, rfl, trivial⟩ rfl
  obtain ⟨L, hL⟩ : ∃ L, lookT o.owner es = L := ⟨_, rfl⟩
  obtain ⟨t, ht⟩ : ∃ t, L.getD default = t := ⟨_, rfl⟩
  rw [hL, ht] at hq
  repeat (first | refine sc rfl ?_ | refine so rfl ?_ | refine sb rfl ?_)
  refine C_drawM PBd (fun M => CBd (wtA g (some b) hw hc ho) (bkA (some b) es) t (M 7) (M 8)) rfl (by kernel_rfl) (fun M M' h => by show CBd _ _ t (M 7) (M 8) = CBd _ _ t (M' 7) (M' 8); rw [h 7 (by decide), h 8 (by decide)]) rfl ?_
  repeat (refine sm rfl ⟨trivial, ?_⟩)
  refine SM (.v (.map (some b))) rfl (fun M h1 h2 h3 => ?_) ?_
  · show StepX _ _ _ _ _ (CBd _ _ t (M 7) (M 8)) (CBd _ _ t (M 7) (M 8)) _ _ _
    rw [h2 8 (show (3 : Nat) ∈ PBd.anc 8 by decide)]
    cases M 7
    · exact X_loadP 0 (reads_box 0) rfl rfl rfl rfl rfl rfl
    · exact X_loadP 1 (reads_box 0) rfl rfl rfl rfl rfl rfl
  repeat (refine sm rfl ⟨trivial, ?_⟩)
  refine SM (.agg (atC t)) rfl (fun M h1 h2 h3 => ?_) ?_
  · show StepX _ _ _ _ _ (CBd _ _ t (M 7) (M 8)) (CBd _ _ t (M 7) (M 8)) _ _ _
    rw [h2 8 (show (6 : Nat) ∈ PBd.anc 8 by decide)]
    rw [show AV.agg (atC t) = lookAV false (lookE o.owner (esT es)) zAt by unfold lookAV; rw [look_getD, hL, ht]; rfl]
    cases M 7
    · exact X_look 1 (es := esT es) (z := zAt) iKz Tryz.underlying113 rfl rfl rep_zAt rfl rfl rfl rfl rfl rfl
    · exact X_look 2 (es := esT es) (z := zAt) iKz Tryz.underlying113 rfl rfl rep_zAt rfl rfl rfl rfl rfl rfl
  refine SM (.bp 6 0) rfl (fun M h1 h2 h3 => ?_) ?_
  · show StepX _ _ _ _ _ (CBd _ _ t (M 7) (M 8)) (CBd _ _ t true (M 8)) _ _ _
    rw [show M 7 = false from h3, h2 8 (show (7 : Nat) ∈ PBd.anc 8 by decide)]
    exact X_alloc rfl rfl rfl rfl (show ((7, 6) : Nat × Nat) ∈ PBd.cre by decide) rfl rfl rfl
  refine SM .bad rfl (fun M h1 h2 h3 => ?_) ?_
  · show StepX _ _ _ _ _ (CBd _ _ t (M 7) (M 8)) (CBd _ _ t (M 7) true) _ _ _
    rw [show M 8 = false from h3, h1 7 (show (7 : Nat) ∈ PBd.anc 8 by decide)]
    exact X_storeK rfl rfl rfl rfl rfl rfl rfl rfl rfl
  repeat (refine sm rfl ⟨trivial, ?_⟩)
  refine sm rfl ?_
  show SymC _ _ _ ⟨_, [.box 6 205 (atC t), .abs (wtA g (some b) hw hc ho), .abs (bkA (some b) es)]⟩ _
  refine C_le ⟨[(0, PT g 0), (3, .cp (Ord.c o)), (4, I64 0), (6, .bp 6 0)], [.box 6 205 (atC t), .abs (wtA g (some b) hw hc ho), .abs (bkA (some b) es)]⟩ (Le.pick [0, 0, 0] ⟨rfl, rfl, rfl, rfl, trivial⟩ rfl) ?_
  refine sc rfl ?_
  refine C_joinP ⟨[(0, PT g 0), (3, .cp (Ord.c o)), (4, I64 0), (6, .bp 6 0)], [.box 6 205 (atC (doT o t)), .abs (wtA g (some b) hw hc ho), .abs (bkA (some b) es)]⟩ (o.op ≠ 4) ?_ (fun s hs h4 => C_le _ hs ?_)
  · have e23 : ∀ h : o.op = 2 ∨ o.op = 3, doT o t = (t.1, decide (o.op = 2)) := fun h => by unfold doT; rw [if_neg (by omega), if_pos h]
    repeat (first | refine sc rfl ?_ | refine so rfl ?_ | refine sb rfl ?_)
    refine C_if rfl (fun c1 => ?_) (fun c1 => ?_) <;> simp only [decide_eq_true_eq, decide_eq_false_iff_not, Bool.not_eq_true', Bool.not_eq_false', beq_iff_eq, beq_eq_false_iff_ne, bne_iff_ne, ne_eq, bne_eq_false_iff_eq, Decidable.not_not] at c1
    · repeat (first | refine sc rfl ?_ | refine so rfl ?_ | refine sb rfl ?_)
      rw [show doT o t = (o.conf, false) from if_pos c1]
      exact ⟨Le.pick [0, 0, 0] ⟨rfl, rfl, rfl, rfl, trivial⟩ rfl, by omega⟩
    repeat (first | refine sc rfl ?_ | refine so rfl ?_ | refine sb rfl ?_)
    refine C_if rfl (fun c2 => ?_) (fun c2 => ?_) <;> simp only [decide_eq_true_eq, decide_eq_false_iff_not, Bool.not_eq_true', Bool.not_eq_false', beq_iff_eq, beq_eq_false_iff_ne, bne_iff_ne, ne_eq, bne_eq_false_iff_eq, Decidable.not_not] at c2
    · repeat (first | refine sc rfl ?_ | refine so rfl ?_ | refine sb rfl ?_)
      refine C_if rfl (fun d => ?_) (fun d => ?_) <;> simp only [decide_eq_true_eq, decide_eq_false_iff_not, Bool.not_eq_true', Bool.not_eq_false', beq_iff_eq, beq_eq_false_iff_ne, bne_iff_ne, ne_eq, bne_eq_false_iff_eq, Decidable.not_not] at d
      · repeat (first | refine sc rfl ?_ | refine so rfl ?_ | refine sb rfl ?_)
        rw [e23 (Or.inl c2)]
        exact ⟨Le.pick [0, 0, 0] ⟨rfl, rfl, rfl, rfl, trivial⟩ rfl, by omega⟩
      · exact absurd c2 d
    repeat (first | refine sc rfl ?_ | refine so rfl ?_ | refine sb rfl ?_)
    refine C_if rfl (fun c3 => ?_) (fun c3 => ?_) <;> simp only [decide_eq_true_eq, decide_eq_false_iff_not, Bool.not_eq_true', Bool.not_eq_false', beq_iff_eq, beq_eq_false_iff_ne, bne_iff_ne, ne_eq, bne_eq_false_iff_eq, Decidable.not_not] at c3
    · repeat (first | refine sc rfl ?_ | refine so rfl ?_ | refine sb rfl ?_)
      rw [e23 (Or.inr c3)]
      exact ⟨Le.pick [0, 0, 0] ⟨rfl, rfl, rfl, rfl, trivial⟩ rfl, by omega⟩
    repeat (first | refine sc rfl ?_ | refine so rfl ?_ | refine sb rfl ?_)
    have e0 : doT o t = if o.op = 6 then (o.conf, t.2) else t := by unfold doT; rw [if_neg c1, if_neg (by omega)]
    refine C_if rfl (fun c6 => ?_) (fun c6 => ?_) <;> simp only [decide_eq_true_eq, decide_eq_false_iff_not, Bool.not_eq_true', Bool.not_eq_false', beq_iff_eq, beq_eq_false_iff_ne, bne_iff_ne, ne_eq, bne_eq_false_iff_eq, Decidable.not_not] at c6
    · repeat (first | refine sc rfl ?_ | refine so rfl ?_ | refine sb rfl ?_)
      rw [e0, if_pos c6]
      exact ⟨Le.pick [0, 0, 0] ⟨rfl, rfl, rfl, rfl, trivial⟩ rfl, by omega⟩
    rw [if_neg c6] at e0
    repeat (first | refine sc rfl ?_ | refine so rfl ?_ | refine sb rfl ?_)
    refine C_if rfl (fun c4 => ?_) (fun c4 => ?_) <;> simp only [decide_eq_true_eq, decide_eq_false_iff_not, Bool.not_eq_true', Bool.not_eq_false', beq_iff_eq, beq_eq_false_iff_ne, bne_iff_ne, ne_eq, bne_eq_false_iff_eq, Decidable.not_not] at c4
    · rw [if_pos c4] at hq
      repeat (first | refine sc rfl ?_ | refine so rfl ?_ | refine sb rfl ?_)
      refine C_le ⟨[(0, PT g 0), (3, .cp (Ord.c o)), (4, I64 0), (6, .bp 6 0)], [.abs (bkA (some b) es), .abs (wtA g (some b) hw hc ho), .box 6 205 (atC t)]⟩ (Le.pick [2, 1, 0] ⟨rfl, rfl, rfl, rfl, trivial⟩ rfl) ?_
      refine C_drawM PBe (fun M => CBe (wtA g (some b) hw hc ho) (bkA (some b) es) (bkA (some b) (delT o.owner es)) t (M 6)) rfl (by kernel_rfl) (fun M M' h => by show CBe _ _ _ t (M 6) = CBe _ _ _ t (M' 6); rw [h 6 (by decide)]) rfl ?_
      repeat (refine sm rfl ⟨trivial, ?_⟩)
      refine SM (.v (.map (some b))) rfl (fun M h1 h2 h3 => ?_) ?_
      · show StepX _ _ _ _ _ (CBe _ _ _ t (M 6)) (CBe _ _ _ t (M 6)) _ _ _
        rw [h2 6 (show (3 : Nat) ∈ PBe.anc 6 by decide)]
        exact X_loadP 1 (reads_box 0) rfl rfl rfl rfl rfl rfl
      repeat (refine sm rfl ⟨trivial, ?_⟩)
      refine SM (.tup []) rfl (fun M h1 h2 h3 => ?_) ?_
      · show StepX _ _ _ _ _ (CBe _ _ _ t (M 6)) (CBe _ _ _ t true) _ _ _
        rw [show M 6 = false from h3]
        show StepX _ _ _ _ _ _ (.abs (mapA ikz (some b) (esT (delT o.owner es))) :: _) _ _ _
        rw [← delE_esT]
        exact X_delete 0 (es := esT es) iKz Tryz.underlying113 rfl rfl rfl rfl
      refine sm rfl ?_
      show SymC _ _ _ ⟨_, [.abs (bkA (some b) (delT o.owner es)), .abs (wtA g (some b) hw hc ho), .box 6 205 (atC t)]⟩ _
      repeat (first | refine sc rfl ?_ | refine so rfl ?_ | refine sb rfl ?_)
      exact ⟨_, [_, _], _, rfl, pickA_perm (is := [1, 0]) (As := [_, _]) rfl, rfl, by rw [← hq], some b, fun h => (by cases h), by rw [← hq]⟩
    · repeat (first | refine sc rfl ?_ | refine so rfl ?_ | refine sb rfl ?_)
      rw [e0]
      exact ⟨Le.pick [0, 0, 0] ⟨rfl, rfl, rfl, rfl, trivial⟩ rfl, c4⟩
  · rw [if_neg h4] at hq
    obtain ⟨t', ht'⟩ : ∃ t', doT o t = t' := ⟨_, rfl⟩
    rw [ht'] at hq ⊢
    repeat (first | refine sc rfl ?_ | refine so rfl ?_ | refine sb rfl ?_)
    refine C_drawU 20 7 rfl (by kernel_rfl) (by kernel_rfl) (by kernel_rfl) ?_
    repeat (first | refine sd rfl ?_ | refine sdb rfl ?_ | refine sds rfl ?_)
    refine D_X (.v (.map (some b))) (X_loadP 1 (reads_box 0) rfl rfl rfl rfl rfl rfl) ?_
    repeat (first | refine sd rfl ?_ | refine sdb rfl ?_ | refine sds rfl ?_)
    refine O_Xn (X_upd 2 (es := esT es) (av := .agg (atC t')) iKz Tryz.underlying113 sameBits_ik rfl rfl rfl rfl rfl rfl) ?_
    rw [show updE o.owner (.agg (atC t')) (esT es) = esT (updT o.owner t' es) from updE_esT _ _ _]
    repeat (first | refine sc rfl ?_ | refine so rfl ?_ | refine sb rfl ?_)
    exact ⟨_, [_, _], _, rfl, pickA_perm (is := [2, 0]) (As := [_, _]) rfl, rfl, by rw [← hq], some b, fun h => (by cases h), by rw [← hq]; rfl⟩
end Go.Proofs

/- The watch: what of one tenant is open costs; the Wait a turn counts. -/
set_option linter.unusedSimpArgs false
set_option linter.unusedVariables false
set_option maxRecDepth 100000
namespace Go.Proofs
open Go.Sy Go.Lib

abbrev wsA (hw : Value) (ws : List Wt) : Abs := vecA hw 37 7 ws.length (fun i => Wt.c (ws.getD i default))
abbrev csB (hc : Value) (cs : List Int) : Abs := vecA hc 3 1 cs.length (fun i => INTc (cs.getD i default))
abbrev opA (ho : Value) (os : List Nat) : Abs := vecA ho 3 1 os.length (fun i => [I64 ((os.getD i 0 : Nat) : Int)])
def costF (ws : List Wt) (cs : List Int) (k : Int) : List Nat → Int → Int
  | [], a => a
  | i :: r, a => costF ws cs k r (if (ws.getD i default).owner = k then IntKind.i64.wrap (a + cs.getD i default) else a)

theorem costF_nil (ws : List Wt) (cs : List Int) (k a : Int) : costF ws cs k [] a = a := rfl
theorem costF_cons (ws : List Wt) (cs : List Int) (k a : Int) (i : Nat) (r : List Nat) : costF ws cs k (i :: r) a = costF ws cs k r (if (ws.getD i default).owner = k then IntKind.i64.wrap (a + cs.getD i default) else a) := rfl
theorem cost_A (g : Nat) (mo : Option Nat) (hw hc ho : Value) (ws : List Wt) (cs : List Int) (os : List Nat) (k : Int) (hos : ∀ i, i ∈ os → i < ws.length) (hcs : cs.length = ws.length) (hol : os.length ≤ maxLen) (hwl : ws.length ≤ maxLen) :
    FnA Tryz.prog 105 [PT g 0, I64 k] [wtA g mo hw hc ho, wsA hw ws, csB hc cs, opA ho os] (fun r cs' => r = I64 (costF ws cs k os 0) ∧ cs' = [wtA g mo hw hc ho, wsA hw ws, csB hc cs, opA ho os]) := by
  refine FnA.intro Tryz.tabOK Tryz.wide_ Tryz.func105 rfl (by decide) rfl (fun X => ?_)
  simp only [maxLen] at hol hwl
  repeat (first | refine sc rfl ?_ | refine so rfl ?_ | refine sb rfl ?_)
  first
    | refine O_loadP 0 (reads_box 3) rfl rfl rfl rfl rfl rfl ?_
    | refine O_loadP 1 (reads_box 3) rfl rfl rfl rfl rfl rfl ?_
    | refine O_loadP 2 (reads_box 3) rfl rfl rfl rfl rfl rfl ?_
    | refine O_loadP 3 (reads_box 3) rfl rfl rfl rfl rfl rfl ?_
    | refine O_loadP 4 (reads_box 3) rfl rfl rfl rfl rfl rfl ?_
  repeat (first | refine sc rfl ?_ | refine so rfl ?_ | refine sb rfl ?_)
  refine O_Xd (X_lenV 3 rfl rfl rfl rfl rfl) ?_
  repeat (first | refine sc rfl ?_ | refine so rfl ?_ | refine sb rfl ?_)
  refine C_loop (fun q : Nat × Int => ⟨[(0, PT g 0), (1, I64 k), (5, I64 q.2), (11, .v ho), (12, I64 (os.length : Nat)), (13, I64 (q.1 : Nat))], [.abs (wtA g mo hw hc ho), .abs (wsA hw ws), .abs (csB hc cs), .abs (opA ho os)]⟩)
    (fun q => q.1 ≤ os.length ∧ costF ws cs k (os.drop q.1) q.2 = costF ws cs k os 0) (fun q => os.length - q.1) (0, 0) ⟨Nat.zero_le _, rfl⟩ (Le.pick [0, 0, 0, 0] ⟨rfl, rfl, rfl, rfl, rfl, rfl, trivial⟩ rfl) ?_
  rintro ⟨j, a⟩ ⟨hj, hF⟩
  simp only [] at hj hF
  repeat (first | refine sc rfl ?_ | refine so rfl ?_ | refine sb rfl ?_)
  refine C_if rfl (fun m1 => ?_) (fun m1 => ?_) <;> simp only [decide_eq_true_eq, decide_eq_false_iff_not, Bool.not_eq_true', Bool.not_eq_false', beq_iff_eq, beq_eq_false_iff_ne, bne_iff_ne, ne_eq, bne_eq_false_iff_eq, Decidable.not_not] at m1
  · have hjl : j < os.length := by omega
    have hdr : os.drop j = os[j] :: os.drop (j + 1) := List.drop_eq_getElem_cons hjl
    have hg : os.getD j 0 = os[j] := by simp [List.getD_eq_getElem?_getD, List.getElem?_eq_getElem hjl]
    have hi := hos os[j] (List.getElem_mem hjl)
    rw [hdr] at hF
    obtain ⟨i, hi0⟩ : ∃ i, os[j] = i := ⟨_, rfl⟩
    rw [hi0] at hg hi hF
    rw [costF_cons] at hF
    refine C_know 3 (∃ g cc, ho = HD g os.length cc) rfl (fun G w hok _ => vec_HD hok (by omega)) ?_
    rintro ⟨go, co, rfl⟩
    refine C_know 1 (∃ g cc, hw = HD g ws.length cc) rfl (fun G w hok _ => vec_HD hok (by omega)) ?_
    rintro ⟨gw, cw, rfl⟩
    refine C_know 2 (∃ g cc, hc = HD g cs.length cc) rfl (fun G w hok _ => vec_HD hok (by omega)) ?_
    rintro ⟨gc, cc, rfl⟩
    repeat (first | refine sc rfl ?_ | refine so rfl ?_ | refine sb rfl ?_)
    refine ⟨by omega, ?_⟩
    rw [Int.toNat_natCast]
    repeat (first | refine sc rfl ?_ | refine so rfl ?_ | refine sb rfl ?_)
    refine O_loadP 3 (A := opA (HD go os.length co) os) (cells := ([I64 ((os.getD j 0 : Nat) : Int)]).drop 0) (reads_vec (q := j) (j := 0) hjl (by omega)) rfl rfl rfl rfl rfl rfl ?_
    rw [hg]
    repeat (first | refine sc rfl ?_ | refine so rfl ?_ | refine sb rfl ?_)
    first
      | refine O_loadP 0 (reads_box 1) rfl rfl rfl rfl rfl rfl ?_
      | refine O_loadP 1 (reads_box 1) rfl rfl rfl rfl rfl rfl ?_
      | refine O_loadP 2 (reads_box 1) rfl rfl rfl rfl rfl rfl ?_
      | refine O_loadP 3 (reads_box 1) rfl rfl rfl rfl rfl rfl ?_
      | refine O_loadP 4 (reads_box 1) rfl rfl rfl rfl rfl rfl ?_
    repeat (first | refine sc rfl ?_ | refine so rfl ?_ | refine sb rfl ?_)
    refine ⟨by omega, ?_⟩
    rw [Int.toNat_natCast]
    repeat (first | refine sc rfl ?_ | refine so rfl ?_ | refine sb rfl ?_)
    refine O_loadP 1 (A := wsA (HD gw ws.length cw) ws) (cells := (Wt.c (ws.getD i default)).drop 1) (reads_vec (q := i) (j := 1) hi (by omega)) rfl rfl rfl rfl rfl rfl ?_
    repeat (first | refine sc rfl ?_ | refine so rfl ?_ | refine sb rfl ?_)
    refine C_if rfl (fun m2 => ?_) (fun m2 => ?_) <;> simp only [decide_eq_true_eq, decide_eq_false_iff_not, Bool.not_eq_true', Bool.not_eq_false', beq_iff_eq, beq_eq_false_iff_ne, bne_iff_ne, ne_eq, bne_eq_false_iff_eq, Decidable.not_not] at m2
    · rw [if_pos m2] at hF
      repeat (first | refine sc rfl ?_ | refine so rfl ?_ | refine sb rfl ?_)
      first
        | refine O_loadP 0 (reads_box 2) rfl rfl rfl rfl rfl rfl ?_
        | refine O_loadP 1 (reads_box 2) rfl rfl rfl rfl rfl rfl ?_
        | refine O_loadP 2 (reads_box 2) rfl rfl rfl rfl rfl rfl ?_
        | refine O_loadP 3 (reads_box 2) rfl rfl rfl rfl rfl rfl ?_
        | refine O_loadP 4 (reads_box 2) rfl rfl rfl rfl rfl rfl ?_
      repeat (first | refine sc rfl ?_ | refine so rfl ?_ | refine sb rfl ?_)
      refine ⟨by omega, ?_⟩
      rw [Int.toNat_natCast]
      repeat (first | refine sc rfl ?_ | refine so rfl ?_ | refine sb rfl ?_)
      refine O_loadP 2 (A := csB (HD gc cs.length cc) cs) (cells := (INTc (cs.getD i default)).drop 0) (reads_vec (q := i) (j := 0) (by omega) (by omega)) rfl rfl rfl rfl rfl rfl ?_
      repeat (first | refine sc rfl ?_ | refine so rfl ?_ | refine sb rfl ?_)
      rw [w64 (x := (j : Int) + 1) (by omega) (by omega)]
      exact ⟨(j + 1, IntKind.i64.wrap (a + cs.getD i default)), ⟨hjl, hF⟩, by simp only []; omega, Le.pick [0, 0, 0, 0] ⟨rfl, rfl, rfl, rfl, rfl, rfl, trivial⟩ rfl⟩
    · rw [if_neg m2] at hF
      repeat (first | refine sc rfl ?_ | refine so rfl ?_ | refine sb rfl ?_)
      rw [w64 (x := (j : Int) + 1) (by omega) (by omega)]
      exact ⟨(j + 1, a), ⟨hjl, hF⟩, by simp only []; omega, Le.pick [0, 0, 0, 0] ⟨rfl, rfl, rfl, rfl, rfl, rfl, trivial⟩ rfl⟩
  · obtain rfl : j = os.length := by omega
    rw [List.drop_length, costF_nil] at hF
    repeat (first | refine sc rfl ?_ | refine so rfl ?_ | refine sb rfl ?_)
    exact ⟨_, [_, _, _, _], _, rfl, pickA_perm (is := [0, 0, 0, 0]) (As := [_, _, _, _]) rfl, rfl, by rw [← hF], rfl⟩
end Go.Proofs

/- The watch: what stays open. -/
set_option linter.unusedSimpArgs false
set_option linter.unusedVariables false
set_option maxRecDepth 100000
namespace Go.Proofs
open Go.Sy Go.Lib

def NATc (i : Nat) : List AV := [I64 (i : Int)]
abbrev opV (h : Value) (os : List Nat) : Abs := vecA h 3 1 os.length (fun i => NATc (os.getD i default))
theorem getD_snoc {α : Type} [Inhabited α] (l : List α) (x : α) (i : Nat) (h : i < (l ++ [x]).length) : (l ++ [x]).getD i default = if i < l.length then l.getD i default else x := by
  simp only [List.length_append, List.length_singleton] at h
  by_cases hi : i < l.length
  · rw [if_pos hi]
    simp [List.getD_eq_getElem?_getD, List.getElem?_append_left hi]
  · rw [if_neg hi]
    obtain rfl : i = l.length := by omega
    simp [List.getD_eq_getElem?_getD]

theorem keep_A {f : FuncId} {caps : List AV} (g : Nat) (mo : Option Nat) (hw hc ho : Value) (ws : List Wt) (os : List Nat) (p : Nat → Bool)
    (hp : ∀ i, i ∈ os → FnA Tryz.prog f ([I64 (i : Nat)] ++ caps) [wtA g mo hw hc ho, wsA hw ws] (fun r cs' => r = B (p i) ∧ cs' = [wtA g mo hw hc ho, wsA hw ws])) (hol : os.length ≤ 17592186044416) :
    FnA Tryz.prog 98 [PT g 0, .p (cloRP f caps)] [wtA g mo hw hc ho, wsA hw ws, opV ho os] (fun r cs' => ∃ ho', cs' = [wtA g mo hw hc ho', wsA hw ws, opV ho' (os.filter p)]) := by
  refine FnA.intro Tryz.tabOK Tryz.wide_ Tryz.func98 rfl (by decide) rfl (fun X => ?_)
  repeat (first | refine sc rfl ?_ | refine so rfl ?_ | refine sb rfl ?_)
  first
    | refine O_loadP 0 (reads_box 3) rfl rfl rfl rfl rfl rfl ?_
    | refine O_loadP 1 (reads_box 3) rfl rfl rfl rfl rfl rfl ?_
    | refine O_loadP 2 (reads_box 3) rfl rfl rfl rfl rfl rfl ?_
    | refine O_loadP 3 (reads_box 3) rfl rfl rfl rfl rfl rfl ?_
    | refine O_loadP 4 (reads_box 3) rfl rfl rfl rfl rfl rfl ?_
  repeat (first | refine sc rfl ?_ | refine so rfl ?_ | refine sb rfl ?_)
  refine O_Xd (X_lenV 2 rfl rfl rfl rfl rfl) ?_
  repeat (first | refine sc rfl ?_ | refine so rfl ?_ | refine sb rfl ?_)
  refine C_le _ (Le.addVec 3 1 (fun i => NATc (([] : List Nat).getD i default))) ?_
  refine C_loop (fun q : Nat × Value => ⟨[(0, PT g 0), (1, .p (cloRP f caps)), (4, .v q.2), (10, .v ho), (11, I64 (os.length : Nat)), (12, I64 (q.1 : Nat))], [.abs (opV q.2 ((os.take q.1).filter p)), .abs (wtA g mo hw hc ho), .abs (wsA hw ws), .abs (opV ho os)]⟩)
    (fun q => q.1 ≤ os.length ∧ isSl q.2) (fun q => os.length - q.1) (0, .slice none 0 0) ⟨Nat.zero_le _, _, _, _, rfl⟩ (Le.pick [0, 0, 0, 0] ⟨rfl, rfl, rfl, rfl, rfl, rfl, trivial⟩ rfl) ?_
  rintro ⟨j, h⟩ ⟨hj, hisl⟩
  simp only [] at hj hisl
  repeat (first | refine sc rfl ?_ | refine so rfl ?_ | refine sb rfl ?_)
  refine C_if rfl (fun m1 => ?_) (fun m1 => ?_) <;> simp only [decide_eq_true_eq, decide_eq_false_iff_not, Bool.not_eq_true', Bool.not_eq_false', beq_iff_eq, beq_eq_false_iff_ne, bne_iff_ne, ne_eq, bne_eq_false_iff_eq, Decidable.not_not] at m1
  · have hjl : j < os.length := by omega
    have hg : os.getD j default = os[j] := by simp [List.getD_eq_getElem?_getD, List.getElem?_eq_getElem hjl]
    have hpi := hp os[j] (List.getElem_mem hjl)
    have htk : (os.take (j + 1)).filter p = (os.take j).filter p ++ (if p os[j] then [os[j]] else []) := by
      rw [← List.take_append_getElem hjl, List.filter_append]
      congr 1
      cases hpx : p os[j] <;> simp [hpx]
    obtain ⟨i, hi0⟩ : ∃ i, os[j] = i := ⟨_, rfl⟩
    rw [hi0] at hg hpi htk
    refine C_know 3 (∃ g cc, ho = HD g os.length cc) rfl (fun G w hok _ => vec_HD hok (by omega)) ?_
    rintro ⟨go, co, rfl⟩
    repeat (first | refine sc rfl ?_ | refine so rfl ?_ | refine sb rfl ?_)
    refine ⟨by omega, ?_⟩
    rw [Int.toNat_natCast]
    repeat (first | refine sc rfl ?_ | refine so rfl ?_ | refine sb rfl ?_)
    refine O_loadP 3 (A := opV (HD go os.length co) os) (cells := (NATc (os.getD j default)).drop 0) (reads_vec (q := j) (j := 0) hjl (by omega)) rfl rfl rfl rfl rfl rfl ?_
    rw [hg]
    repeat (first | refine sc rfl ?_ | refine so rfl ?_ | refine sb rfl ?_)
    refine O_callAV (cs := [wtA g mo hw hc (HD go os.length co), wsA hw ws]) (isClo_p f caps) rfl hpi (by rfl) (by rfl) (by rfl) (by rfl) (pickA_perm (is := [1, 1]) (As := [_, _]) (by rfl)) (by rfl) ?_
    rintro r cs' ⟨rfl, rfl⟩
    repeat (first | refine sc rfl ?_ | refine so rfl ?_ | refine sb rfl ?_)
    refine C_if rfl (fun m2 => ?_) (fun m2 => ?_)
    · have m3 : p i = true := m2
      rw [m3, if_pos rfl] at htk
      obtain ⟨K, hK⟩ : ∃ K, (os.take j).filter p = K := ⟨_, rfl⟩
      have hKl : K.length ≤ j := by
        rw [← hK]
        refine Nat.le_trans (List.length_filter_le _ _) ?_
        rw [List.length_take]; omega
      rw [hK] at htk ⊢
      repeat (first | refine sc rfl ?_ | refine so rfl ?_ | refine sb rfl ?_)
      refine O_le _ (Le.freeze 21 rfl rfl) ?_
      refine O_appendV 2 (m2 := 1) (m3 := (K ++ [i]).length) (row3 := fun q => NATc ((K ++ [i]).getD q default)) rfl rfl rfl rfl rfl rfl (fun q hq => ?_) rfl (by show (K.length + 1) * 8 ≤ 140737488355328; omega) (by show K.length + 1 ≤ maxLen; simp only [maxLen]; omega) (by simp) (fun q hq => ?_) (fun v' hv' => ?_)
      · have h0 : q = 0 := by have : q < 1 := hq; omega
        subst h0; rfl
      · rw [getD_snoc K i q hq]
        unfold appRow
        by_cases hqk : q < K.length
        · rw [if_pos hqk, if_pos hqk]
        · rw [if_neg hqk, if_neg hqk]
          have : q = K.length := by simp at hq; omega
          subst this
          rw [Nat.sub_self]; rfl
      · obtain ⟨g9, cc9, rfl⟩ := hv'.resolve_left (fun h => by simp at h)
        repeat (first | refine sc rfl ?_ | refine so rfl ?_ | refine sb rfl ?_)
        rw [w64 (x := (j : Int) + 1) (by omega) (by omega)]
        refine ⟨(j + 1, HD g9 (K ++ [i]).length cc9), ⟨by simp only []; omega, _, _, _, rfl⟩, by simp only []; omega, ?_⟩
        rw [htk]
        exact Le.pick [0, 0, 0, 0] ⟨rfl, rfl, rfl, rfl, rfl, rfl, trivial⟩ rfl
    · have m3 : p i = false := m2
      rw [m3] at htk
      simp only [Bool.false_eq_true, if_false, List.append_nil] at htk
      repeat (first | refine sc rfl ?_ | refine so rfl ?_ | refine sb rfl ?_)
      rw [w64 (x := (j : Int) + 1) (by omega) (by omega)]
      refine ⟨(j + 1, h), ⟨by simp only []; omega, hisl⟩, by simp only []; omega, ?_⟩
      rw [htk]
      exact Le.pick [2, 0, 0, 0] ⟨rfl, rfl, rfl, rfl, rfl, rfl, trivial⟩ rfl
  · obtain rfl : j = os.length := by omega
    rw [List.take_length]
    obtain ⟨ha, hm, hcc, rfl⟩ := hisl
    repeat (first | refine sc rfl ?_ | refine so rfl ?_ | refine sb rfl ?_)
    refine O_Xn (X_storeP 1 (writes_box (by show 3 < 4; decide)) rfl rfl rfl rfl rfl rfl rfl) ?_
    repeat (first | refine sc rfl ?_ | refine so rfl ?_ | refine sb rfl ?_)
    exact ⟨_, [_, _, _], _, rfl, pickA_perm (is := [0, 1, 0]) (As := [_, _, _]) rfl, rfl, _, rfl⟩
end Go.Proofs

/- The watch: an order that was done. -/
set_option linter.unusedSimpArgs false
set_option linter.unusedVariables false
set_option maxRecDepth 100000
namespace Go.Proofs
open Go.Sy Go.Lib

theorem order1_A (g : Nat) (mo : Option Nat) (hw hc ho : Value) (ws : List Wt) (o : Ord) (i : Nat) (hi : i < ws.length) :
    FnA Tryz.prog 99 ([I64 (i : Nat)] ++ [.cp [PT g 0], .cp (Ord.c o)]) [wtA g mo hw hc ho, wsA hw ws] (fun r cs' => r = B (decide ((ws.getD i default).owner ≠ o.owner)) ∧ cs' = [wtA g mo hw hc ho, wsA hw ws]) := by
  refine FnA.intro Tryz.tabOK Tryz.wide_ Tryz.func99 rfl (by decide) rfl (fun X => ?_)
  repeat (first | refine sc rfl ?_ | refine so rfl ?_ | refine sb rfl ?_)
  refine C_know 1 (∃ g cc, hw = HD g ws.length cc) rfl (fun G w hok _ => vec_HD hok (by omega)) ?_
  rintro ⟨gw, cw, rfl⟩
  refine C_drawU 20 11 rfl (by kernel_rfl) (by kernel_rfl) (by kernel_rfl) ?_
  repeat (first | refine sd rfl ?_ | refine sdb rfl ?_ | refine sds rfl ?_)
  refine D_X (.v (HD gw ws.length cw)) (X_loadP 0 (reads_box 1) rfl rfl rfl rfl rfl rfl) ?_
  repeat (first | refine sd rfl ?_ | refine sdb rfl ?_ | refine sds rfl ?_)
  refine ⟨by omega, ?_⟩
  rw [Int.toNat_natCast]
  repeat (first | refine sd rfl ?_ | refine sdb rfl ?_ | refine sds rfl ?_)
  refine D_X (I64 (ws.getD i default).owner) (X_loadP 1 (A := wsA (HD gw ws.length cw) ws) (cells := (Wt.c (ws.getD i default)).drop 1) (reads_vec (q := i) (j := 1) hi (by omega)) rfl rfl rfl rfl rfl rfl) ?_
  repeat (first | refine sd rfl ?_ | refine sdb rfl ?_ | refine sds rfl ?_)
  repeat (first | refine sc rfl ?_ | refine so rfl ?_ | refine sb rfl ?_)
  exact ⟨_, [_, _], _, rfl, pickA_perm (is := [0, 0]) (As := [_, _]) rfl, rfl, congrArg (fun b => B b) (by rw [Bool.eq_iff_iff]; simp), rfl⟩
theorem turn1_c (i k : Nat) : FnP Tryz.prog 100 ([I64 (i : Nat)] ++ [.cp [I64 (k : Nat)]]) (· = B (decide (i ≠ k))) := by
  refine FnP.intro Tryz.tabOK Tryz.wide_ Tryz.func100 rfl (by decide) rfl (fun X => ?_)
  repeat (first | refine sc rfl ?_ | refine so rfl ?_ | refine sb rfl ?_)
  exact ⟨_, rfl, rfl, congrArg (fun b => B b) (by rw [Bool.eq_iff_iff]; simp; omega)⟩

def setLet (ws : List Wt) (i : Nat) : List Wt := ws.set i { ws.getD i default with flet := true }
def letAll (ws : List Wt) (os : List Nat) : List Wt := os.foldl setLet ws
theorem setLet_len (ws : List Wt) (i : Nat) : (setLet ws i).length = ws.length := by simp [setLet]
theorem letAll_len : ∀ (os : List Nat) (ws : List Wt), (letAll ws os).length = ws.length
  | [], ws => rfl
  | i :: os, ws => by show (letAll (setLet ws i) os).length = _; rw [letAll_len os, setLet_len]
theorem wsA_set (hw : Value) (ws : List Wt) (i : Nat) (x : Wt) : wsA hw (ws.set i x) = vecA hw 37 7 ws.length (fun j => Wt.c ((ws.set i x).getD j default)) := by
  unfold wsA; rw [List.length_set]
theorem getD_set (ws : List Wt) (i j : Nat) (x : Wt) (h : j < ws.length) : (ws.set i x).getD j default = if j = i then x else ws.getD j default := by
  simp only [List.getD_eq_getElem?_getD, List.getElem?_set]
  by_cases hij : i = j
  · subst hij; simp [h]
  · rw [if_neg hij, if_neg (fun h => hij h.symm)]

def orderOs (ws : List Wt) (os : List Nat) (o : Ord) : List Nat := if o.op = 4 then os.filter (fun i => decide (((letAll ws os).getD i default).owner ≠ o.owner)) else os
theorem order_A (g : Nat) (mo : Option Nat) (hw hc ho : Value) (ws : List Wt) (es : List (Int × At)) (os : List Nat) (o : Ord) (hmo : mo = none → es = []) (hos : ∀ i, i ∈ os → i < ws.length) (hol : os.length ≤ 17592186044416) (hwl : ws.length ≤ 17592186044416) :
    FnA Tryz.prog 55 [PT g 0, .agg (Ord.c o)] [wtA g mo hw hc ho, bkA mo es, wsA hw ws, opV ho os] (fun r cs' => ∃ mo' ho', (mo' = none → (bkDoF es o).1 = []) ∧
      cs' = [wtA g mo' hw hc ho', bkA mo' (bkDoF es o).1, wsA hw (letAll ws os), opV ho' (orderOs ws os o)]) := by
  refine FnA.intro Tryz.tabOK Tryz.wide_ Tryz.func55 rfl (by decide) rfl (fun X => ?_)
  repeat (first | refine sc rfl ?_ | refine so rfl ?_ | refine sb rfl ?_)
  refine C_le _ (Le.freezebox 2 rfl rfl rfl) ?_
  refine C_le _ (Le.freezebox 3 rfl rfl rfl) ?_
  refine C_drawU 20 4 rfl (by kernel_rfl) (by kernel_rfl) (by kernel_rfl) ?_
  repeat (first | refine sd rfl ?_ | refine sdb rfl ?_ | refine sds rfl ?_)
  repeat (first | refine sc rfl ?_ | refine so rfl ?_ | refine sb rfl ?_)
  refine O_callA [0, 0] (bkDo_A g mo hw hc ho es hmo o) (by rfl) (by rfl) (by rfl) (by rfl) (by rfl) ?_
  rintro r cs' ⟨rfl, mo', hmo', rfl⟩
  obtain ⟨es', hes'⟩ : ∃ es', (bkDoF es o).1 = es' := ⟨_, rfl⟩
  rw [hes'] at hmo' ⊢
  repeat (first | refine sc rfl ?_ | refine so rfl ?_ | refine sb rfl ?_)
  first
    | refine O_loadP 0 (reads_box 3) rfl rfl rfl rfl rfl rfl ?_
    | refine O_loadP 1 (reads_box 3) rfl rfl rfl rfl rfl rfl ?_
    | refine O_loadP 2 (reads_box 3) rfl rfl rfl rfl rfl rfl ?_
    | refine O_loadP 3 (reads_box 3) rfl rfl rfl rfl rfl rfl ?_
    | refine O_loadP 4 (reads_box 3) rfl rfl rfl rfl rfl rfl ?_
  repeat (first | refine sc rfl ?_ | refine so rfl ?_ | refine sb rfl ?_)
  refine O_Xd (X_lenV 3 rfl rfl rfl rfl rfl) ?_
  repeat (first | refine sc rfl ?_ | refine so rfl ?_ | refine sb rfl ?_)
  refine C_loop (fun j : Nat => ⟨[(2, .cp [PT g 0]), (3, .cp (Ord.c o)), (14, .v ho), (15, I64 (os.length : Nat)), (16, I64 (j : Nat))], [.abs (wtA g mo' hw hc ho), .abs (bkA mo' es'), .abs (wsA hw (letAll ws (os.take j))), .abs (opV ho os)]⟩)
    (fun j => j ≤ os.length) (fun j => os.length - j) 0 (Nat.zero_le _) (Le.pick [0, 0, 0, 0] ⟨rfl, rfl, rfl, rfl, rfl, trivial⟩ rfl) ?_
  intro j hj
  repeat (first | refine sc rfl ?_ | refine so rfl ?_ | refine sb rfl ?_)
  refine C_if rfl (fun m1 => ?_) (fun m1 => ?_) <;> simp only [decide_eq_true_eq, decide_eq_false_iff_not, Bool.not_eq_true', Bool.not_eq_false', beq_iff_eq, beq_eq_false_iff_ne, bne_iff_ne, ne_eq, bne_eq_false_iff_eq, Decidable.not_not] at m1
  · have hjl : j < os.length := by omega
    have hg : os.getD j default = os[j] := by simp [List.getD_eq_getElem?_getD, List.getElem?_eq_getElem hjl]
    have hi := hos os[j] (List.getElem_mem hjl)
    have htk : letAll ws (os.take (j + 1)) = setLet (letAll ws (os.take j)) os[j] := by
      rw [← List.take_append_getElem hjl]
      unfold letAll
      rw [List.foldl_append]; rfl
    obtain ⟨i, hi0⟩ : ∃ i, os[j] = i := ⟨_, rfl⟩
    rw [hi0] at hg hi htk
    obtain ⟨W, hW⟩ : ∃ W, letAll ws (os.take j) = W := ⟨_, rfl⟩
    have hWl : W.length = ws.length := by rw [← hW]; exact letAll_len _ _
    rw [hW] at htk ⊢
    refine C_know 3 (∃ g cc, ho = HD g os.length cc) rfl (fun G w hok _ => vec_HD hok (by omega)) ?_
    rintro ⟨go, co, rfl⟩
    refine C_know 2 (∃ g cc, hw = HD g W.length cc) rfl (fun G w hok _ => vec_HD hok (by omega)) ?_
    rintro ⟨gw, cw, rfl⟩
    repeat (first | refine sc rfl ?_ | refine so rfl ?_ | refine sb rfl ?_)
    refine ⟨by omega, ?_⟩
    rw [Int.toNat_natCast]
    repeat (first | refine sc rfl ?_ | refine so rfl ?_ | refine sb rfl ?_)
    refine O_loadP 3 (A := opV (HD go os.length co) os) (cells := (NATc (os.getD j default)).drop 0) (reads_vec (q := j) (j := 0) hjl (by omega)) rfl rfl rfl rfl rfl rfl ?_
    rw [hg]
    repeat (first | refine sc rfl ?_ | refine so rfl ?_ | refine sb rfl ?_)
    first
      | refine O_loadP 0 (reads_box 1) rfl rfl rfl rfl rfl rfl ?_
      | refine O_loadP 1 (reads_box 1) rfl rfl rfl rfl rfl rfl ?_
      | refine O_loadP 2 (reads_box 1) rfl rfl rfl rfl rfl rfl ?_
      | refine O_loadP 3 (reads_box 1) rfl rfl rfl rfl rfl rfl ?_
      | refine O_loadP 4 (reads_box 1) rfl rfl rfl rfl rfl rfl ?_
    repeat (first | refine sc rfl ?_ | refine so rfl ?_ | refine sb rfl ?_)
    refine ⟨by omega, ?_⟩
    rw [Int.toNat_natCast]
    repeat (first | refine sc rfl ?_ | refine so rfl ?_ | refine sb rfl ?_)
    refine O_Xn (X_storeP 2 (A := wsA (HD gw W.length cw) W) (A' := vecA (HD gw W.length cw) 37 7 W.length (fun q => Wt.c ((setLet W i).getD q default))) (x := B true) (writes_vec (q := i) (j := 6) (by omega) (by decide) (by omega) (fun q hq => ?_)) rfl rfl rfl rfl rfl rfl rfl) ?_
    · unfold setLet
      rw [getD_set _ _ _ _ hq]
      by_cases h : q = i
      · rw [if_pos h, if_pos h]; rfl
      · rw [if_neg h, if_neg h]
    rw [show vecA (HD gw W.length cw) 37 7 W.length (fun q => Wt.c ((setLet W i).getD q default)) = wsA (HD gw W.length cw) (setLet W i) from (wsA_set _ _ _ _).symm]
    repeat (first | refine sc rfl ?_ | refine so rfl ?_ | refine sb rfl ?_)
    rw [w64 (x := (j : Int) + 1) (by omega) (by omega)]
    refine ⟨j + 1, hjl, by omega, ?_⟩
    rw [htk]
    exact Le.pick [1, 1, 0, 0] ⟨rfl, rfl, rfl, rfl, rfl, trivial⟩ rfl
  · obtain rfl : j = os.length := by omega
    rw [List.take_length]
    unfold orderOs
    repeat (first | refine sc rfl ?_ | refine so rfl ?_ | refine sb rfl ?_)
    refine C_if rfl (fun m2 => ?_) (fun m2 => ?_) <;> simp only [decide_eq_true_eq, decide_eq_false_iff_not, Bool.not_eq_true', Bool.not_eq_false', beq_iff_eq, beq_eq_false_iff_ne, bne_iff_ne, ne_eq, bne_eq_false_iff_eq, Decidable.not_not] at m2
    · rw [if_pos m2]
      repeat (first | refine sc rfl ?_ | refine so rfl ?_ | refine sb rfl ?_)
      refine O_makeFunc rfl rfl rfl rfl ?_
      repeat (first | refine sc rfl ?_ | refine so rfl ?_ | refine sb rfl ?_)
      refine O_callA [0, 1, 1] (keep_A (f := 99) (caps := [.cp [PT g 0], .cp (Ord.c o)]) g mo' hw hc ho (letAll ws os) os (fun i => decide (((letAll ws os).getD i default).owner ≠ o.owner)) (fun i hi => order1_A g mo' hw hc ho (letAll ws os) o i (by rw [letAll_len]; exact hos i hi)) hol) (by rfl) (by rfl) (by rfl) (by rfl) (by rfl) ?_
      rintro r cs' ⟨ho', rfl⟩
      repeat (first | refine sc rfl ?_ | refine so rfl ?_ | refine sb rfl ?_)
      exact ⟨_, [_, _, _, _], _, rfl, pickA_perm (is := [0, 2, 0, 0]) (As := [_, _, _, _]) rfl, rfl, mo', ho', hmo', rfl⟩
    · rw [if_neg m2]
      repeat (first | refine sc rfl ?_ | refine so rfl ?_ | refine sb rfl ?_)
      exact ⟨_, [_, _, _, _], _, rfl, pickA_perm (is := [0, 0, 0, 0]) (As := [_, _, _, _]) rfl, rfl, mo', ho, hmo', rfl⟩
end Go.Proofs

/- The watch: a turn. -/
set_option linter.unusedSimpArgs false
set_option linter.unusedVariables false
set_option maxRecDepth 100000
namespace Go.Proofs
open Go.Sy Go.Lib

def upTurn (ws : List Wt) (i : Nat) : List Wt := ws.set i { ws.getD i default with turns := IntKind.i64.wrap ((ws.getD i default).turns + 1) }
def upServed (ws : List Wt) (i : Nat) : List Wt := ws.set i { ws.getD i default with served := true }
def turnStep (x : Rw) (s : List Wt × Int) (i : Nat) : List Wt × Int := (upTurn s.1 i, if s.2 < 0 ∧ x.act = 2 ∧ ((upTurn s.1 i).getD i default).owner = x.note.owner then (i : Int) else s.2)
def turnAll (x : Rw) (ws : List Wt) (os : List Nat) : List Wt × Int := os.foldl (turnStep x) (ws, -1)
theorem turnFold_ok (x : Rw) (n : Nat) : ∀ (os : List Nat) (s : List Wt × Int), s.1.length = n → (s.2 < 0 ∨ ∃ k : Nat, s.2 = k ∧ k < n) → (∀ i, i ∈ os → i < n) →
    (os.foldl (turnStep x) s).1.length = n ∧ ((os.foldl (turnStep x) s).2 < 0 ∨ ∃ k : Nat, (os.foldl (turnStep x) s).2 = k ∧ k < n)
  | [], s, h1, h2, _ => ⟨h1, h2⟩
  | i :: os, s, h1, h2, h3 => by
    refine turnFold_ok x n os (turnStep x s i) (by simp [turnStep, upTurn, h1]) ?_ (fun j hj => h3 j (List.mem_cons_of_mem _ hj))
    unfold turnStep
    by_cases h : s.2 < 0 ∧ x.act = 2 ∧ ((upTurn s.1 i).getD i default).owner = x.note.owner
    · rw [if_pos h]; exact .inr ⟨i, rfl, h3 i (List.mem_cons_self ..)⟩
    · rw [if_neg h]; exact h2
def turnF (x : Rw) (ws : List Wt) (os : List Nat) : List Wt × List Nat :=
  if (turnAll x ws os).2 < 0 then ((turnAll x ws os).1, os) else (upServed (turnAll x ws os).1 (turnAll x ws os).2.toNat, os.filter (fun i => decide (i ≠ (turnAll x ws os).2.toNat)))

theorem turn_A (g : Nat) (mo : Option Nat) (hw hc ho : Value) (ws : List Wt) (os : List Nat) (x : Rw) (hos : ∀ i, i ∈ os → i < ws.length) (hol : os.length ≤ 17592186044416) (hwl : ws.length ≤ 17592186044416) :
    FnA Tryz.prog 56 [PT g 0, .agg (Rw.c x)] [wtA g mo hw hc ho, wsA hw ws, opV ho os] (fun r cs' => ∃ ho', cs' = [wtA g mo hw hc ho', wsA hw (turnF x ws os).1, opV ho' (turnF x ws os).2]) := by
  refine FnA.intro Tryz.tabOK Tryz.wide_ Tryz.func56 rfl (by decide) rfl (fun X => ?_)
  repeat (first | refine sc rfl ?_ | refine so rfl ?_ | refine sb rfl ?_)
  first
    | refine O_loadP 0 (reads_box 3) rfl rfl rfl rfl rfl rfl ?_
    | refine O_loadP 1 (reads_box 3) rfl rfl rfl rfl rfl rfl ?_
    | refine O_loadP 2 (reads_box 3) rfl rfl rfl rfl rfl rfl ?_
    | refine O_loadP 3 (reads_box 3) rfl rfl rfl rfl rfl rfl ?_
    | refine O_loadP 4 (reads_box 3) rfl rfl rfl rfl rfl rfl ?_
  repeat (first | refine sc rfl ?_ | refine so rfl ?_ | refine sb rfl ?_)
  refine O_Xd (X_lenV 4 rfl rfl rfl rfl rfl) ?_
  repeat (first | refine sc rfl ?_ | refine so rfl ?_ | refine sb rfl ?_)
  refine C_le _ (Le.freezebox 3 rfl rfl rfl) ?_
  have hA : ∀ j, j ≤ os.length → (turnAll x ws (os.take j)).1.length = ws.length ∧ ((turnAll x ws (os.take j)).2 < 0 ∨ ∃ k : Nat, (turnAll x ws (os.take j)).2 = k ∧ k < ws.length) := fun j _ =>
    turnFold_ok x ws.length (os.take j) (ws, -1) rfl (.inl (by show (-1 : Int) < 0; decide)) (fun i hi => hos i (List.mem_of_mem_take hi))
  refine C_loop (fun j : Nat => ⟨[(0, PT g 0), (3, .cp (Rw.c x)), (4, .bp 4 0), (10, .v ho), (11, I64 (os.length : Nat)), (12, I64 (j : Nat))], [.box 4 3 [I64 (turnAll x ws (os.take j)).2], .abs (wtA g mo hw hc ho), .abs (wsA hw (turnAll x ws (os.take j)).1), .abs (opV ho os)]⟩)
    (fun j => j ≤ os.length) (fun j => os.length - j) 0 (Nat.zero_le _) (Le.pick [0, 0, 0, 0] ⟨rfl, rfl, rfl, rfl, rfl, rfl, trivial⟩ rfl) ?_
  intro j hj
  repeat (first | refine sc rfl ?_ | refine so rfl ?_ | refine sb rfl ?_)
  refine C_if rfl (fun m1 => ?_) (fun m1 => ?_) <;> simp only [decide_eq_true_eq, decide_eq_false_iff_not, Bool.not_eq_true', Bool.not_eq_false', beq_iff_eq, beq_eq_false_iff_ne, bne_iff_ne, ne_eq, bne_eq_false_iff_eq, Decidable.not_not] at m1
  · have hjl : j < os.length := by omega
    have hg : os.getD j default = os[j] := by simp [List.getD_eq_getElem?_getD, List.getElem?_eq_getElem hjl]
    have hi := hos os[j] (List.getElem_mem hjl)
    have htk : turnAll x ws (os.take (j + 1)) = turnStep x (turnAll x ws (os.take j)) os[j] := by
      rw [← List.take_append_getElem hjl]
      unfold turnAll
      rw [List.foldl_append]; rfl
    obtain ⟨hWl, hk⟩ := hA j hj
    obtain ⟨i, hi0⟩ : ∃ i, os[j] = i := ⟨_, rfl⟩
    rw [hi0] at hg hi htk
    obtain ⟨S, hS⟩ : ∃ S, turnAll x ws (os.take j) = S := ⟨_, rfl⟩
    rw [hS] at htk hWl hk ⊢
    obtain ⟨W, k⟩ := S
    simp only [] at hWl hk ⊢
    refine C_know 3 (∃ g cc, ho = HD g os.length cc) rfl (fun G w hok _ => vec_HD hok (by omega)) ?_
    rintro ⟨go, co, rfl⟩
    refine C_know 2 (∃ g cc, hw = HD g W.length cc) rfl (fun G w hok _ => vec_HD hok (by omega)) ?_
    rintro ⟨gw, cw, rfl⟩
    repeat (first | refine sc rfl ?_ | refine so rfl ?_ | refine sb rfl ?_)
    refine ⟨by omega, ?_⟩
    rw [Int.toNat_natCast]
    repeat (first | refine sc rfl ?_ | refine so rfl ?_ | refine sb rfl ?_)
    refine O_loadP 3 (A := opV (HD go os.length co) os) (cells := (NATc (os.getD j default)).drop 0) (reads_vec (q := j) (j := 0) hjl (by omega)) rfl rfl rfl rfl rfl rfl ?_
    rw [hg]
    repeat (first | refine sc rfl ?_ | refine so rfl ?_ | refine sb rfl ?_)
    first
      | refine O_loadP 0 (reads_box 1) rfl rfl rfl rfl rfl rfl ?_
      | refine O_loadP 1 (reads_box 1) rfl rfl rfl rfl rfl rfl ?_
      | refine O_loadP 2 (reads_box 1) rfl rfl rfl rfl rfl rfl ?_
      | refine O_loadP 3 (reads_box 1) rfl rfl rfl rfl rfl rfl ?_
      | refine O_loadP 4 (reads_box 1) rfl rfl rfl rfl rfl rfl ?_
    repeat (first | refine sc rfl ?_ | refine so rfl ?_ | refine sb rfl ?_)
    refine ⟨by omega, ?_⟩
    rw [Int.toNat_natCast]
    repeat (first | refine sc rfl ?_ | refine so rfl ?_ | refine sb rfl ?_)
    refine O_loadP 2 (A := wsA (HD gw W.length cw) W) (cells := (Wt.c (W.getD i default)).drop 3) (reads_vec (q := i) (j := 3) (by omega) (by omega)) rfl rfl rfl rfl rfl rfl ?_
    repeat (first | refine sc rfl ?_ | refine so rfl ?_ | refine sb rfl ?_)
    refine ⟨by omega, ?_⟩
    rw [Int.toNat_natCast]
    repeat (first | refine sc rfl ?_ | refine so rfl ?_ | refine sb rfl ?_)
    refine O_Xn (X_storeP 2 (A := wsA (HD gw W.length cw) W) (A' := vecA (HD gw W.length cw) 37 7 W.length (fun q => Wt.c ((upTurn W i).getD q default))) (x := I64 (IntKind.i64.wrap ((W.getD i default).turns + 1))) (writes_vec (q := i) (j := 3) (by omega) (by decide) (by omega) (fun q hq => ?_)) rfl rfl rfl rfl rfl rfl rfl) ?_
    · unfold upTurn
      rw [getD_set _ _ _ _ hq]
      by_cases h : q = i
      · rw [if_pos h, if_pos h]; rfl
      · rw [if_neg h, if_neg h]
    rw [show vecA (HD gw W.length cw) 37 7 W.length (fun q => Wt.c ((upTurn W i).getD q default)) = wsA (HD gw W.length cw) (upTurn W i) from (wsA_set _ _ _ _).symm]
    have hWl2 : (upTurn W i).length = W.length := by simp [upTurn]
    have hstep : turnAll x ws (os.take (j + 1)) = (upTurn W i, if k < 0 ∧ x.act = 2 ∧ ((upTurn W i).getD i default).owner = x.note.owner then (i : Int) else k) := htk
    obtain ⟨V, hV⟩ : ∃ V, upTurn W i = V := ⟨_, rfl⟩
    rw [hV] at hWl2 hstep ⊢
    rw [← hWl2]
    repeat (first | refine sc rfl ?_ | refine so rfl ?_ | refine sb rfl ?_)
    refine C_drawD rfl (by kernel_rfl) ?_
    repeat (first | refine sd rfl ?_ | refine sdb rfl ?_ | refine sds rfl ?_)
    refine D_case 2 rfl (fun c1 => ?_) (fun c1 => ?_) <;> simp only [decide_eq_true_eq, decide_eq_false_iff_not, Bool.not_eq_true', Bool.not_eq_false', beq_iff_eq, beq_eq_false_iff_ne, bne_iff_ne, ne_eq, bne_eq_false_iff_eq, Decidable.not_not] at c1
    · repeat (first | refine sd rfl ?_ | refine sdb rfl ?_ | refine sds rfl ?_)
      refine D_case 7 rfl (fun c2 => ?_) (fun c2 => ?_) <;> simp only [decide_eq_true_eq, decide_eq_false_iff_not, Bool.not_eq_true', Bool.not_eq_false', beq_iff_eq, beq_eq_false_iff_ne, bne_iff_ne, ne_eq, bne_eq_false_iff_eq, Decidable.not_not] at c2
      · repeat (first | refine sd rfl ?_ | refine sdb rfl ?_ | refine sds rfl ?_)
        first
          | refine D_X (.v (HD gw V.length cw)) (X_loadP 0 (reads_box 1) rfl rfl rfl rfl rfl rfl) ?_
          | refine D_X (.v (HD gw V.length cw)) (X_loadP 1 (reads_box 1) rfl rfl rfl rfl rfl rfl) ?_
          | refine D_X (.v (HD gw V.length cw)) (X_loadP 2 (reads_box 1) rfl rfl rfl rfl rfl rfl) ?_
        repeat (first | refine sd rfl ?_ | refine sdb rfl ?_ | refine sds rfl ?_)
        refine ⟨by omega, ?_⟩
        rw [Int.toNat_natCast]
        repeat (first | refine sd rfl ?_ | refine sdb rfl ?_ | refine sds rfl ?_)
        first
          | refine D_X (I64 (V.getD i default).owner) (X_loadP 0 (A := wsA (HD gw V.length cw) V) (cells := (Wt.c (V.getD i default)).drop 1) (reads_vec (q := i) (j := 1) (by omega) (by omega)) rfl rfl rfl rfl rfl rfl) ?_
          | refine D_X (I64 (V.getD i default).owner) (X_loadP 1 (A := wsA (HD gw V.length cw) V) (cells := (Wt.c (V.getD i default)).drop 1) (reads_vec (q := i) (j := 1) (by omega) (by omega)) rfl rfl rfl rfl rfl rfl) ?_
          | refine D_X (I64 (V.getD i default).owner) (X_loadP 2 (A := wsA (HD gw V.length cw) V) (cells := (Wt.c (V.getD i default)).drop 1) (reads_vec (q := i) (j := 1) (by omega) (by omega)) rfl rfl rfl rfl rfl rfl) ?_
        repeat (first | refine sd rfl ?_ | refine sdb rfl ?_ | refine sds rfl ?_)
        repeat (first | refine sc rfl ?_ | refine so rfl ?_ | refine sb rfl ?_)
        refine C_if rfl (fun c3 => ?_) (fun c3 => ?_) <;> simp only [decide_eq_true_eq, decide_eq_false_iff_not, Bool.not_eq_true', Bool.not_eq_false', beq_iff_eq, beq_eq_false_iff_ne, bne_iff_ne, ne_eq, bne_eq_false_iff_eq, Decidable.not_not] at c3
        · repeat (first | refine sc rfl ?_ | refine so rfl ?_ | refine sb rfl ?_)
          rw [w64 (x := (j : Int) + 1) (by omega) (by omega)]
          rw [if_pos ⟨c1, c2, c3⟩] at hstep
          refine ⟨j + 1, hjl, by omega, ?_⟩
          rw [hstep]
          first
            | exact Le.pick [1, 1, 0, 0] ⟨rfl, rfl, rfl, rfl, rfl, rfl, trivial⟩ rfl
            | exact Le.pick [0, 1, 0, 0] ⟨rfl, rfl, rfl, rfl, rfl, rfl, trivial⟩ rfl
            | exact Le.pick [0, 0, 0, 0] ⟨rfl, rfl, rfl, rfl, rfl, rfl, trivial⟩ rfl
            | exact Le.pick [2, 1, 0, 0] ⟨rfl, rfl, rfl, rfl, rfl, rfl, trivial⟩ rfl
            | exact Le.pick [1, 0, 0, 0] ⟨rfl, rfl, rfl, rfl, rfl, rfl, trivial⟩ rfl
            | exact Le.pick [1, 2, 0, 0] ⟨rfl, rfl, rfl, rfl, rfl, rfl, trivial⟩ rfl
            | exact Le.pick [0, 2, 0, 0] ⟨rfl, rfl, rfl, rfl, rfl, rfl, trivial⟩ rfl
        · repeat (first | refine sc rfl ?_ | refine so rfl ?_ | refine sb rfl ?_)
          rw [w64 (x := (j : Int) + 1) (by omega) (by omega)]
          rw [if_neg (fun h => c3 h.2.2)] at hstep
          refine ⟨j + 1, hjl, by omega, ?_⟩
          rw [hstep]
          first
            | exact Le.pick [1, 1, 0, 0] ⟨rfl, rfl, rfl, rfl, rfl, rfl, trivial⟩ rfl
            | exact Le.pick [0, 1, 0, 0] ⟨rfl, rfl, rfl, rfl, rfl, rfl, trivial⟩ rfl
            | exact Le.pick [0, 0, 0, 0] ⟨rfl, rfl, rfl, rfl, rfl, rfl, trivial⟩ rfl
            | exact Le.pick [2, 1, 0, 0] ⟨rfl, rfl, rfl, rfl, rfl, rfl, trivial⟩ rfl
            | exact Le.pick [1, 0, 0, 0] ⟨rfl, rfl, rfl, rfl, rfl, rfl, trivial⟩ rfl
            | exact Le.pick [1, 2, 0, 0] ⟨rfl, rfl, rfl, rfl, rfl, rfl, trivial⟩ rfl
            | exact Le.pick [0, 2, 0, 0] ⟨rfl, rfl, rfl, rfl, rfl, rfl, trivial⟩ rfl
      · repeat (first | refine sd rfl ?_ | refine sdb rfl ?_ | refine sds rfl ?_)
        repeat (first | refine sc rfl ?_ | refine so rfl ?_ | refine sb rfl ?_)
        refine C_false rfl rfl ?_
        repeat (first | refine sc rfl ?_ | refine so rfl ?_ | refine sb rfl ?_)
        rw [w64 (x := (j : Int) + 1) (by omega) (by omega)]
        rw [if_neg (fun h => c2 h.2.1)] at hstep
        refine ⟨j + 1, hjl, by omega, ?_⟩
        rw [hstep]
        first
          | exact Le.pick [1, 1, 0, 0] ⟨rfl, rfl, rfl, rfl, rfl, rfl, trivial⟩ rfl
          | exact Le.pick [0, 1, 0, 0] ⟨rfl, rfl, rfl, rfl, rfl, rfl, trivial⟩ rfl
          | exact Le.pick [0, 0, 0, 0] ⟨rfl, rfl, rfl, rfl, rfl, rfl, trivial⟩ rfl
          | exact Le.pick [2, 1, 0, 0] ⟨rfl, rfl, rfl, rfl, rfl, rfl, trivial⟩ rfl
          | exact Le.pick [1, 0, 0, 0] ⟨rfl, rfl, rfl, rfl, rfl, rfl, trivial⟩ rfl
          | exact Le.pick [1, 2, 0, 0] ⟨rfl, rfl, rfl, rfl, rfl, rfl, trivial⟩ rfl
          | exact Le.pick [0, 2, 0, 0] ⟨rfl, rfl, rfl, rfl, rfl, rfl, trivial⟩ rfl
    · repeat (first | refine sd rfl ?_ | refine sdb rfl ?_ | refine sds rfl ?_)
      repeat (first | refine sc rfl ?_ | refine so rfl ?_ | refine sb rfl ?_)
      refine C_false rfl rfl ?_
      repeat (first | refine sc rfl ?_ | refine so rfl ?_ | refine sb rfl ?_)
      rw [w64 (x := (j : Int) + 1) (by omega) (by omega)]
      rw [if_neg (fun h => c1 h.1)] at hstep
      refine ⟨j + 1, hjl, by omega, ?_⟩
      rw [hstep]
      first
        | exact Le.pick [1, 1, 0, 0] ⟨rfl, rfl, rfl, rfl, rfl, rfl, trivial⟩ rfl
        | exact Le.pick [0, 1, 0, 0] ⟨rfl, rfl, rfl, rfl, rfl, rfl, trivial⟩ rfl
        | exact Le.pick [0, 0, 0, 0] ⟨rfl, rfl, rfl, rfl, rfl, rfl, trivial⟩ rfl
        | exact Le.pick [2, 1, 0, 0] ⟨rfl, rfl, rfl, rfl, rfl, rfl, trivial⟩ rfl
        | exact Le.pick [1, 0, 0, 0] ⟨rfl, rfl, rfl, rfl, rfl, rfl, trivial⟩ rfl
        | exact Le.pick [1, 2, 0, 0] ⟨rfl, rfl, rfl, rfl, rfl, rfl, trivial⟩ rfl
        | exact Le.pick [0, 2, 0, 0] ⟨rfl, rfl, rfl, rfl, rfl, rfl, trivial⟩ rfl
  · obtain rfl : j = os.length := by omega
    have hAe := hA os.length (Nat.le_refl _)
    rw [List.take_length] at hAe ⊢
    unfold turnF
    obtain ⟨S, hS⟩ : ∃ S, turnAll x ws os = S := ⟨_, rfl⟩
    rw [hS] at hAe ⊢
    obtain ⟨W, k⟩ := S
    simp only [] at hAe ⊢
    obtain ⟨hWl, hk⟩ := hAe
    repeat (first | refine sc rfl ?_ | refine so rfl ?_ | refine sb rfl ?_)
    refine C_if rfl (fun m2 => ?_) (fun m2 => ?_) <;> simp only [decide_eq_true_eq, decide_eq_false_iff_not, Bool.not_eq_true', Bool.not_eq_false', beq_iff_eq, beq_eq_false_iff_ne, bne_iff_ne, ne_eq, bne_eq_false_iff_eq, Decidable.not_not] at m2
    · rw [if_neg (by omega)]
      obtain ⟨kn, rfl, hkn⟩ : ∃ kn : Nat, k = kn ∧ kn < ws.length := hk.resolve_left (by omega)
      rw [Int.toNat_natCast]
      refine C_know 2 (∃ g cc, hw = HD g W.length cc) rfl (fun G w hok _ => vec_HD hok (by omega)) ?_
      rintro ⟨gw, cw, rfl⟩
      refine C_le _ (Le.freezebox 4 rfl rfl rfl) ?_
      repeat (first | refine sc rfl ?_ | refine so rfl ?_ | refine sb rfl ?_)
      refine C_drawU 20 7 rfl (by kernel_rfl) (by kernel_rfl) (by kernel_rfl) ?_
      repeat (first | refine sd rfl ?_ | refine sdb rfl ?_ | refine sds rfl ?_)
      first
        | refine D_X (.v (HD gw W.length cw)) (X_loadP 0 (reads_box 1) rfl rfl rfl rfl rfl rfl) ?_
        | refine D_X (.v (HD gw W.length cw)) (X_loadP 1 (reads_box 1) rfl rfl rfl rfl rfl rfl) ?_
      repeat (first | refine sd rfl ?_ | refine sdb rfl ?_ | refine sds rfl ?_)
      refine ⟨by omega, ?_⟩
      rw [Int.toNat_natCast]
      repeat (first | refine sd rfl ?_ | refine sdb rfl ?_ | refine sds rfl ?_)
      refine O_Xn (X_storeP 1 (A := wsA (HD gw W.length cw) W) (A' := vecA (HD gw W.length cw) 37 7 W.length (fun q => Wt.c ((upServed W kn).getD q default))) (x := B true) (writes_vec (q := kn) (j := 5) (by omega) (by decide) (by omega) (fun q hq => ?_)) rfl rfl rfl rfl rfl rfl rfl) ?_
      · unfold upServed
        rw [getD_set _ _ _ _ hq]
        by_cases h : q = kn
        · rw [if_pos h, if_pos h]; rfl
        · rw [if_neg h, if_neg h]
      rw [show vecA (HD gw W.length cw) 37 7 W.length (fun q => Wt.c ((upServed W kn).getD q default)) = wsA (HD gw W.length cw) (upServed W kn) from (wsA_set _ _ _ _).symm]
      repeat (first | refine sc rfl ?_ | refine so rfl ?_ | refine sb rfl ?_)
      refine O_makeFunc rfl rfl rfl rfl ?_
      repeat (first | refine sc rfl ?_ | refine so rfl ?_ | refine sb rfl ?_)
      refine O_callA [1, 0, 0] (keep_A (f := 100) (caps := [.cp [I64 (kn : Nat)]]) g mo (HD gw W.length cw) hc ho (upServed W kn) os (fun i => decide (i ≠ kn)) (fun i hi => (turn1_c i kn).toA _) hol) (by rfl) (by rfl) (by rfl) (by rfl) (by rfl) ?_
      rintro r cs' ⟨ho', rfl⟩
      repeat (first | refine sc rfl ?_ | refine so rfl ?_ | refine sb rfl ?_)
      exact ⟨_, [_, _, _], _, rfl, pickA_perm (is := [0, 0, 0]) (As := [_, _, _]) rfl, rfl, ho', rfl⟩
    · rw [if_pos (by omega)]
      repeat (first | refine sc rfl ?_ | refine so rfl ?_ | refine sb rfl ?_)
      exact ⟨_, [_, _, _], _, rfl, pickA_perm (is := [1, 1, 1]) (As := [_, _, _]) rfl, rfl, ho, rfl⟩
end Go.Proofs

/- The bound: the number of turns, in both. -/
set_option linter.unusedSimpArgs false
set_option linter.unusedVariables false
set_option maxRecDepth 100000
namespace Go.Proofs
open Go.Sy Go.Lib

def withF (lo x : Int) : Int := max lo (min x 1048576)
def roundF (q : Int) : Int := (withF 1 q + 1040) / 16
def sumR (l : List Int) : Int := l.foldl (fun a q => a + roundF q) 0
def mostF (c q : Int) (l : List Int) : Int := ((withF 0 c + withF 1 q - 1) / withF 1 q + 2) * sumR (l.take 8)
theorem withF_le {lo x : Int} (h : 0 ≤ lo) (h1 : lo ≤ 1048576) : lo ≤ withF lo x ∧ withF lo x ≤ 1048576 := by unfold withF; omega
theorem roundF_le (q : Int) : 65 ≤ roundF q ∧ roundF q ≤ 65601 := by
  have := withF_le (lo := 1) (x := q) (by decide) (by decide)
  unfold roundF; omega
theorem sumR_snoc (l : List Int) (x : Int) : sumR (l ++ [x]) = sumR l + roundF x := by simp [sumR, List.foldl_append]
theorem sumR_le : ∀ (n : Nat) (l : List Int), l.length = n → 0 ≤ sumR l ∧ sumR l ≤ 65601 * n
  | 0, l, h => by rw [List.length_eq_zero_iff.1 h]; simp [sumR]
  | n + 1, l, h => by
    rcases List.eq_nil_or_concat l with rfl | ⟨l', x, rfl⟩
    · cases h
    · simp at h
      have h1 := sumR_le n l' h
      have h2 := roundF_le x
      rw [List.concat_eq_append, sumR_snoc]
      omega
theorem BWithin_c (lo x : Int) : FnP Tryz.prog 95 [I64 x, I64 lo, I64 1048576] (· = I64 (withF lo x)) := BWithin_w x lo 1048576 _ rfl
theorem BRound_c (q : Int) : FnP Tryz.prog 52 [I64 q] (· = I64 (roundF q)) := BRound_w q _ (by
  unfold BRound_F
  rw [show BWithin_F q 1 1048576 = some (withF 1 q) from rfl]
  simp only [Option.bind_some]
  rw [chk_pos (by decide)]
  have := withF_le (lo := 1) (x := q) (by decide) (by decide)
  rw [w64 (x := withF 1 q + 1040) (by omega) (by omega), Int.tdiv_eq_ediv_of_nonneg (by omega), w64 (by omega) (by omega)]
  rfl)
theorem QuantumR_c (q : Int) : FnP Tryz.prog 179 [I64 q] (· = I64 (withF 1 q)) := QuantumR_w q _ (by
  unfold QuantumR_F withF
  by_cases h1 : q < 1
  · rw [decide_eq_true h1]; simp only [cond_true]; congr 1; omega
  · rw [decide_eq_false h1]
    by_cases h2 : 1048576 < q
    · rw [decide_eq_true h2]; simp only [cond_true, cond_false]; congr 1; omega
    · rw [decide_eq_false h2]; simp only [cond_false]; congr 1; omega)
theorem RoundR_c (q : Int) : FnP Tryz.prog 180 [I64 q] (· = I64 (roundF q)) := RoundR_w q _ (by
  unfold RoundR_F
  have h0 : QuantumR_F q = some (withF 1 q) := by
    unfold QuantumR_F withF
    by_cases h1 : q < 1
    · rw [decide_eq_true h1]; simp only [cond_true]; congr 1; omega
    · rw [decide_eq_false h1]
      by_cases h2 : 1048576 < q
      · rw [decide_eq_true h2]; simp only [cond_true, cond_false]; congr 1; omega
      · rw [decide_eq_false h2]; simp only [cond_false]; congr 1; omega
  rw [h0]
  simp only [Option.bind_some]
  rw [chk_pos (by decide)]
  have := withF_le (lo := 1) (x := q) (by decide) (by decide)
  rw [w64 (x := withF 1 q + 1040) (by omega) (by omega), Int.tdiv_eq_ediv_of_nonneg (by omega), w64 (by omega) (by omega)]
  rfl)

theorem most_bd {A S : Int} (h1 : 0 ≤ A) (h2 : A ≤ 2097151) (h3 : 0 ≤ S) (h4 : S ≤ 524808) : 0 ≤ (A + 2) * S ∧ (A + 2) * S ≤ 9223372036854775807 := by
  refine ⟨Int.mul_nonneg (by omega) h3, ?_⟩
  have := Int.mul_le_mul (a := A + 2) (b := S) (c := 2097153) (d := 524808) (by omega) h4 h3 (by decide)
  omega
theorem div_bd {C Q : Int} (hc : 0 ≤ C ∧ C ≤ 1048576) (hq : 1 ≤ Q ∧ Q ≤ 1048576) : 0 ≤ (C + Q - 1) / Q ∧ (C + Q - 1) / Q ≤ 2097151 := by
  refine ⟨Int.ediv_nonneg (by omega) (by omega), ?_⟩
  have := Int.ediv_le_self (a := C + Q - 1) Q (by omega)
  omega
theorem Most_c (c q : Int) (l : List Int) (hl : l.length ≤ 9223372036854775807) : FnP Tryz.prog 53 [I64 c, I64 q, SL 1 INTc l] (· = I64 (mostF c q l)) := by
  refine FnP.intro Tryz.tabOK Tryz.wide_ Tryz.func53 rfl (by decide) rfl (fun X => ?_)
  repeat (first | refine sc rfl ?_ | refine so rfl ?_ | refine sb rfl ?_)
  refine O_call (BWithin_c 0 c) (by rfl) (by rfl) (by rfl) (by rfl) (fun r hr => ?_)
  subst hr
  repeat (first | refine sc rfl ?_ | refine so rfl ?_ | refine sb rfl ?_)
  refine O_call (BWithin_c 1 q) (by rfl) (by rfl) (by rfl) (by rfl) (fun r hr => ?_)
  subst hr
  have hc := withF_le (lo := 0) (x := c) (by decide) (by decide)
  have hq := withF_le (lo := 1) (x := q) (by decide) (by decide)
  unfold mostF
  obtain ⟨C, hC⟩ : ∃ C, withF 0 c = C := ⟨_, rfl⟩
  obtain ⟨Q, hQ⟩ : ∃ Q, withF 1 q = Q := ⟨_, rfl⟩
  rw [hC] at hc ⊢
  rw [hQ] at hq ⊢
  obtain ⟨n, hn⟩ : ∃ n, min l.length 8 = n := ⟨_, rfl⟩
  have hn1 : (min (l.length : Int) 8).toNat = n := by omega
  have hn2 : (min (l.length : Int) 8) = (n : Nat) := by omega
  have hl8 : l.take 8 = l.take n := by
    rw [← hn, List.take_eq_take_iff]; omega
  rw [hl8]
  repeat (first | refine sc rfl ?_ | refine so rfl ?_ | refine sb rfl ?_)
  refine ⟨by omega, ?_⟩
  rw [hn1]
  repeat (first | refine sc rfl ?_ | refine so rfl ?_ | refine sb rfl ?_)
  refine C_loop (fun j : Nat => ⟨[(0, I64 C), (1, I64 Q), (7, I64 (sumR (l.take j))), (18, .sl n 1 fun i => INTc (l.getD i default)), (19, I64 (n : Nat)), (20, I64 (j : Nat))], []⟩)
    (fun j => j ≤ n) (fun j => n - j) 0 (Nat.zero_le _) (Le.sub [] ⟨rfl, rfl, rfl, rfl, rfl, rfl, trivial⟩ rfl) ?_
  intro j hj
  have hS := sumR_le (l.take j).length (l.take j) rfl
  rw [List.length_take] at hS
  repeat (first | refine sc rfl ?_ | refine so rfl ?_ | refine sb rfl ?_)
  refine C_if rfl (fun m1 => ?_) (fun m1 => ?_) <;> simp only [decide_eq_true_eq, decide_eq_false_iff_not, Bool.not_eq_true', Bool.not_eq_false', beq_iff_eq, beq_eq_false_iff_ne, bne_iff_ne, ne_eq, bne_eq_false_iff_eq, Decidable.not_not] at m1
  · have hjl : j < l.length := by omega
    have hg : l.getD j default = l[j] := by simp [List.getD_eq_getElem?_getD, List.getElem?_eq_getElem hjl]
    have hr := roundF_le l[j]
    have htk : sumR (l.take (j + 1)) = sumR (l.take j) + roundF l[j] := by rw [← List.take_append_getElem hjl, sumR_snoc]
    repeat (first | refine sc rfl ?_ | refine so rfl ?_ | refine sb rfl ?_)
    refine ⟨by omega, ?_⟩
    simp only [Int.toNat_natCast, hg]
    repeat (first | refine sc rfl ?_ | refine so rfl ?_ | refine sb rfl ?_)
    refine O_call (BRound_c l[j]) (by rfl) (by rfl) (by rfl) (by rfl) (fun r hr => ?_)
    subst hr
    repeat (first | refine sc rfl ?_ | refine so rfl ?_ | refine sb rfl ?_)
    rw [w64 (x := sumR (l.take j) + roundF l[j]) (by omega) (by omega), ← htk, w64 (x := (j : Int) + 1) (by omega) (by omega)]
    exact ⟨j + 1, by omega, by omega, Le.sub [] ⟨rfl, rfl, rfl, rfl, rfl, rfl, trivial⟩ rfl⟩
  · obtain rfl : j = n := by omega
    obtain ⟨S, hSS⟩ : ∃ S, sumR (l.take j) = S := ⟨_, rfl⟩
    rw [hSS] at hS ⊢
    have hd := div_bd hc hq
    repeat (first | refine sc rfl ?_ | refine so rfl ?_ | refine sb rfl ?_)
    rw [w64 (x := C + Q) (by omega) (by omega), w64 (x := C + Q - 1) (by omega) (by omega), Int.tdiv_eq_ediv_of_nonneg (by omega)]
    obtain ⟨A, hA⟩ : ∃ A, (C + Q - 1) / Q = A := ⟨_, rfl⟩
    rw [hA] at hd ⊢
    have hb := most_bd hd.1 hd.2 hS.1 (by omega)
    refine ⟨by omega, ?_⟩
    rw [w64 (x := A) (by omega) (by omega)]
    repeat (first | refine sc rfl ?_ | refine so rfl ?_ | refine sb rfl ?_)
    rw [w64 (x := A + 2) (by omega) (by omega), w64 (x := (A + 2) * S) (by omega) (by omega)]
    exact ⟨_, rfl, rfl, rfl⟩
theorem ceil_eq {C Q : Int} (hc : 0 ≤ C) (hq : 1 ≤ Q) : (C + Q - 1) / Q = if C / Q * Q < C then C / Q + 1 else C / Q := by
  have h1 := Int.emod_add_mul_ediv C Q
  have h2 := Int.emod_nonneg C (show Q ≠ 0 by omega)
  have h3 := Int.emod_lt_of_pos C (show 0 < Q by omega)
  have e1 : Q * (C / Q) = C / Q * Q := Int.mul_comm _ _
  by_cases h : C / Q * Q < C
  · rw [if_pos h]
    rw [show C + Q - 1 = (C % Q - 1) + Q * (C / Q + 1) by rw [Int.mul_add]; omega, Int.add_mul_ediv_left _ _ (by omega), Int.ediv_eq_zero_of_lt (by omega) (by omega)]
    omega
  · rw [if_neg h]
    rw [show C + Q - 1 = (C % Q + Q - 1) + Q * (C / Q) by omega, Int.add_mul_ediv_left _ _ (by omega), Int.ediv_eq_zero_of_lt (by omega) (by omega)]
    omega
theorem MostR_c (c q : Int) (l : List Int) (hl : l.length ≤ 9223372036854775807) : FnP Tryz.prog 111 [I64 c, I64 q, SL 1 INTc l] (· = I64 (mostF c q l)) := by
  refine FnP.intro Tryz.tabOK Tryz.wide_ Tryz.func111 rfl (by decide) rfl (fun X => ?_)
  repeat (first | refine sc rfl ?_ | refine so rfl ?_ | refine sb rfl ?_)
  refine C_ifJ ⟨[(0, I64 (max 0 c)), (1, I64 q), (2, SL 1 INTc l)], []⟩ rfl (fun m1 => ?_) (fun m1 => ?_) (fun s h => C_le _ h ?_)
  · simp only [decide_eq_true_eq] at m1
    repeat (first | refine sc rfl ?_ | refine so rfl ?_ | refine sb rfl ?_)
    rw [show max 0 c = 0 by omega]
    exact Le.sub [] ⟨rfl, rfl, rfl, trivial⟩ rfl
  · simp only [decide_eq_false_iff_not] at m1
    repeat (first | refine sc rfl ?_ | refine so rfl ?_ | refine sb rfl ?_)
    rw [show max 0 c = c by omega]
    exact Le.sub [] ⟨rfl, rfl, rfl, trivial⟩ rfl
  repeat (first | refine sc rfl ?_ | refine so rfl ?_ | refine sb rfl ?_)
  refine C_ifJ ⟨[(0, I64 (withF 0 c)), (1, I64 q), (2, SL 1 INTc l)], []⟩ rfl (fun m1 => ?_) (fun m1 => ?_) (fun s h => C_le _ h ?_)
  · simp only [decide_eq_true_eq] at m1
    repeat (first | refine sc rfl ?_ | refine so rfl ?_ | refine sb rfl ?_)
    rw [show withF 0 c = 1048576 by unfold withF; omega]
    exact Le.sub [] ⟨rfl, rfl, rfl, trivial⟩ rfl
  · simp only [decide_eq_false_iff_not] at m1
    repeat (first | refine sc rfl ?_ | refine so rfl ?_ | refine sb rfl ?_)
    rw [show max 0 c = withF 0 c by unfold withF; omega]
    exact Le.sub [] ⟨rfl, rfl, rfl, trivial⟩ rfl
  repeat (first | refine sc rfl ?_ | refine so rfl ?_ | refine sb rfl ?_)
  refine O_call (QuantumR_c q) (by rfl) (by rfl) (by rfl) (by rfl) (fun r hr => ?_)
  subst hr
  have hc := withF_le (lo := 0) (x := c) (by decide) (by decide)
  have hq := withF_le (lo := 1) (x := q) (by decide) (by decide)
  unfold mostF
  obtain ⟨C, hC⟩ : ∃ C, withF 0 c = C := ⟨_, rfl⟩
  obtain ⟨Q, hQ⟩ : ∃ Q, withF 1 q = Q := ⟨_, rfl⟩
  rw [hC] at hc ⊢
  rw [hQ] at hq ⊢
  have hd := div_bd hc hq
  have hce := ceil_eq hc.1 hq.1
  have hdd : 0 ≤ C / Q ∧ C / Q ≤ C := ⟨Int.ediv_nonneg (by omega) (by omega), Int.ediv_le_self Q (by omega)⟩
  have hmul : C / Q * Q ≤ C := Int.ediv_mul_le C (by omega)
  have hmul0 : 0 ≤ C / Q * Q := Int.mul_nonneg hdd.1 (by omega)
  repeat (first | refine sc rfl ?_ | refine so rfl ?_ | refine sb rfl ?_)
  rw [Int.tdiv_eq_ediv_of_nonneg (by omega)]
  refine ⟨by omega, ?_⟩
  rw [w64 (x := C / Q) (by omega) (by omega)]
  repeat (first | refine sc rfl ?_ | refine so rfl ?_ | refine sb rfl ?_)
  rw [w64 (x := C / Q * Q) (by omega) (by omega)]
  obtain ⟨A, hA⟩ : ∃ A, (C + Q - 1) / Q = A := ⟨_, rfl⟩
  rw [hA] at hd hce ⊢
  refine C_ifJ ⟨[(2, SL 1 INTc l), (7, I64 A)], []⟩ rfl (fun m1 => ?_) (fun m1 => ?_) (fun s h => C_le _ h ?_)
  · simp only [decide_eq_true_eq] at m1
    rw [if_pos m1] at hce
    repeat (first | refine sc rfl ?_ | refine so rfl ?_ | refine sb rfl ?_)
    rw [← hce, w64 (x := A) (by omega) (by omega)]
    exact Le.sub [] ⟨rfl, rfl, trivial⟩ rfl
  · simp only [decide_eq_false_iff_not] at m1
    rw [if_neg m1] at hce
    repeat (first | refine sc rfl ?_ | refine so rfl ?_ | refine sb rfl ?_)
    rw [hce]
    exact Le.sub [] ⟨rfl, rfl, trivial⟩ rfl
  repeat (first | refine sc rfl ?_ | refine so rfl ?_ | refine sb rfl ?_)
  refine C_loop (fun j : Nat => ⟨[(2, SL 1 INTc l), (7, I64 A), (8, I64 (sumR (l.take j))), (9, I64 (j : Nat))], []⟩)
    (fun j => j ≤ l.length ∧ j ≤ 8) (fun j => 8 - j) 0 ⟨Nat.zero_le _, by decide⟩ (Le.sub [] ⟨rfl, rfl, rfl, rfl, trivial⟩ rfl) ?_
  rintro j ⟨hj, hj8⟩
  have hS := sumR_le (l.take j).length (l.take j) rfl
  rw [List.length_take] at hS
  have hb := most_bd (A := A) (S := sumR (l.take j)) hd.1 hd.2 hS.1 (by omega)
  repeat (first | refine sc rfl ?_ | refine so rfl ?_ | refine sb rfl ?_)
  refine O_case 30 rfl (fun m1 => ?_) (fun m1 => ?_) <;> simp only [decide_eq_true_eq, decide_eq_false_iff_not, Bool.not_eq_true', Bool.not_eq_false', beq_iff_eq, beq_eq_false_iff_ne, bne_iff_ne, ne_eq, bne_eq_false_iff_eq, Decidable.not_not] at m1
  · repeat (first | refine sc rfl ?_ | refine so rfl ?_ | refine sb rfl ?_)
    refine C_if rfl (fun m2 => ?_) (fun m2 => ?_) <;> simp only [decide_eq_true_eq, decide_eq_false_iff_not, Bool.not_eq_true', Bool.not_eq_false', beq_iff_eq, beq_eq_false_iff_ne, bne_iff_ne, ne_eq, bne_eq_false_iff_eq, Decidable.not_not] at m2
    · have hjl : j < l.length := by omega
      have hg : l.getD j default = l[j] := by simp [List.getD_eq_getElem?_getD, List.getElem?_eq_getElem hjl]
      have hr := roundF_le l[j]
      have htk : sumR (l.take (j + 1)) = sumR (l.take j) + roundF l[j] := by rw [← List.take_append_getElem hjl, sumR_snoc]
      repeat (first | refine sc rfl ?_ | refine so rfl ?_ | refine sb rfl ?_)
      refine ⟨by omega, ?_⟩
      simp only [Int.toNat_natCast, hg]
      repeat (first | refine sc rfl ?_ | refine so rfl ?_ | refine sb rfl ?_)
      refine O_call (RoundR_c l[j]) (by rfl) (by rfl) (by rfl) (by rfl) (fun r hr => ?_)
      subst hr
      repeat (first | refine sc rfl ?_ | refine so rfl ?_ | refine sb rfl ?_)
      rw [w64 (x := sumR (l.take j) + roundF l[j]) (by omega) (by omega), ← htk, w64 (x := (j : Int) + 1) (by omega) (by omega)]
      exact ⟨j + 1, by omega, by omega, Le.sub [] ⟨rfl, rfl, rfl, rfl, trivial⟩ rfl⟩
    · obtain rfl : j = 8 := by omega
      repeat (first | refine sc rfl ?_ | refine so rfl ?_ | refine sb rfl ?_)
      rw [w64 (x := A + 2) (by omega) (by omega), w64 (x := (A + 2) * sumR (l.take 8)) (by omega) (by omega)]
      exact ⟨_, rfl, rfl, rfl⟩
  · have e8 : l.take 8 = l.take j := by rw [List.take_eq_take_iff]; omega
    rw [e8]
    repeat (first | refine sc rfl ?_ | refine so rfl ?_ | refine sb rfl ?_)
    refine C_false rfl rfl ?_
    repeat (first | refine sc rfl ?_ | refine so rfl ?_ | refine sb rfl ?_)
    rw [w64 (x := A + 2) (by omega) (by omega), w64 (x := (A + 2) * sumR (l.take j)) (by omega) (by omega)]
    exact ⟨_, rfl, rfl, rfl⟩
end Go.Proofs

/- The kit's contracts of maps.Keys and slices.Sorted at this seat; what a map of the engine reads as. -/
set_option linter.unusedSimpArgs false
set_option linter.unusedVariables false
namespace Go.Proofs
open Go.RowKit Go.Maps Go.Sort Go.Shelf

shelf_lay_g SlLaysZI.n7 Ggz 7 at Tryz 173 as Tryz.keysA
shelf_lay_g SlLaysZI.n6 Ggz 6 at Tryz 172 as Tryz.sortedA
shelf_lay_g SlLaysM.n5 Slgm 5 at Tryz 236 as Tryz.sortA

theorem Tryz.sortsA (m : Nat) : AnyZI.SortsIn Tryz.prog Tryz.sortedA_ren Fence.wide m :=
  ⟨fun blk off cap ss W hH hblk hsz => callsIn_wide.2 (AnyM.slices_Sort_int Tryz.sortA blk off cap ss W hH hblk hsz),
   fun p cap W => callsIn_wide.2 (AnyM.slices_Sort_int_none Tryz.sortA p cap W)⟩

def Rnil : Value → Option (DataW Unit × List MemPlace) := fun _ => some (.nil, [])
theorem own_of_map {G : Go.Sy.IM} {w : World} {b : Nat} {es : List (Int × At)} (h : (bkA (some b) es).ok G w) (hn : (es.map (·.1)).Nodup) (hr : ∀ q ∈ es, 1 ≤ q.1 ∧ q.1 ≤ 8) (h8 : es.length ≤ 8) :
    ∃ D0 : DataW Unit, w.ownsMap Tryz.prog 3 Rnil b es.length D0 ∧ (intKeys D0).Perm (es.map (·.1)) ∧ Maps.size D0 = es.length := by
  obtain ⟨arr, cl, g1, g2, g3, g4, g5⟩ := h
  have hk : ∀ x ∈ arr.toList, ∃ q ∈ es, x.key = .int .i64 q.1 := fun x hx => by
    have : x.key ∈ arr.toList.map (·.key) := List.mem_map.2 ⟨x, hx, rfl⟩
    rw [g2] at this
    obtain ⟨q, hq, e⟩ := List.mem_map.1 this
    simp only [esT] at hq
    obtain ⟨q', hq', rfl⟩ := List.mem_map.1 hq
    exact ⟨q', hq', e.symm⟩
  have hsz : arr.toList.length = es.length := by
    have := congrArg List.length g2
    simpa [esT] using this
  have hrd : ∀ x ∈ arr.toList, ∃ q ∈ es, x.key = .int .i64 q.1 ∧ WideElems.rd Tryz.prog 3 Rnil x = some (.int .i64 q.1, .nil) := fun x hx => by
    obtain ⟨q, hq, e⟩ := hk x hx
    refine ⟨q, hq, e, ?_⟩
    unfold WideElems.rd
    have hw : (Lit.int .i64 q.1).wf = true := by
      have := hr q hq
      simp only [Lit.wf, Bool.and_eq_true, decide_eq_true_eq]
      have h1 : IntKind.i64.min = -9223372036854775808 := by decide
      have h2 : IntKind.i64.max = 9223372036854775807 := by decide
      omega
    rw [e, keyOf_int_mk Tryz.underlying3 hw]
    rfl
  have hkeys : arr.toList.map (·.key) = (es.map (·.1)).map fun x => Value.int .i64 x := by
    rw [g2]; simp [esT]
  have hst : Go.MapKept.Stamped arr cl := by
    refine ⟨g5, g4, ?_⟩
    rw [hkeys]
    refine List.pairwise_map.2 (hn.imp ?_)
    intro a b hne h
    cases h
    exact hne rfl
  have hsz2 : arr.size = es.length := by simpa using hsz
  have hfit : WideElems.Fit Tryz.prog 3 Rnil arr cl := ⟨by simp only [maxLen]; omega, hst, fun x hx => by
    obtain ⟨q, _, _, h⟩ := hrd x hx
    exact ⟨_, h⟩⟩
  refine ⟨_, ⟨arr, cl, g1, hfit, by omega, rfl⟩, ?_, ?_⟩
  · show (((arr.toList.map (WideElems.rg Tryz.prog 3 Rnil)).foldr DataW.insert []).map fun p => _root_.Go.intOf p.1).Perm _
    refine ((WideShapes.sorted_perm _).map _).trans ?_
    have h2 : (arr.toList.map (WideElems.rg Tryz.prog 3 Rnil)).map (fun p => _root_.Go.intOf p.1) = (arr.toList.map (·.key)).map (fun v => match v with | .int _ a => a | _ => 0) := by
      rw [List.map_map, List.map_map]
      refine List.map_congr_left (fun x hx => ?_)
      obtain ⟨q, _, h1, h⟩ := hrd x hx
      simp only [Function.comp, WideElems.rg, h, Option.getD_some, _root_.Go.intOf, h1]
    rw [h2, hkeys, List.map_map]
    have h3 : ((fun v => match v with | Value.int _ a => a | _ => 0) ∘ fun x => Value.int .i64 x) = (id : Int → Int) := by funext x; rfl
    rw [h3, List.map_id]
  · show ((arr.toList.map (WideElems.rg Tryz.prog 3 Rnil)).foldr DataW.insert []).length = _
    rw [(WideShapes.sorted_perm _).length_eq, List.length_map, hsz]
end Go.Proofs
