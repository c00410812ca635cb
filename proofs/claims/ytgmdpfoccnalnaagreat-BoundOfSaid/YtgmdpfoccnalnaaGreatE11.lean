/- The plain law of the bound: quanta. -/
import Derived.Test.YtgmdpfoccnalnaaGreatE10
import Derived.JoinedOf
import Derived.HandedShaped
import Derived.Test.YtgmdpfoccnalnaaGreatRows
set_option linter.unusedSimpArgs false
set_option linter.unusedVariables false
namespace Go.Proofs
open Go.Sy Go.Lib

theorem quant_rel {es : List (Int × At)} {k : Bk} (h : BkRel es k) {w : Int} (hw : (lookT w es).isSome = true) : quantF es w = (rOfF k w).conf.quantum := by
  have hb := h.es.keys w ((mem_keys w es).2 hw)
  obtain ⟨n, rfl⟩ : ∃ n : Nat, w = (n : Int) := ⟨w.toNat, by omega⟩
  have hl := h.lk n (by omega) (by omega)
  unfold quantF
  rw [rOfF_at k n (by omega)]
  rw [hl] at hw ⊢
  split at hw
  · rename_i hh; rw [if_pos hh]; rfl
  · cases hw
theorem lives_rel {es : List (Int × At)} {k : Bk} (h : BkRel es k) (w : Int) : (lookT w es).isSome = (rOfF k w).lives := by
  by_cases hw : 1 ≤ w ∧ w ≤ 8
  · obtain ⟨n, rfl⟩ : ∃ n : Nat, w = (n : Int) := ⟨w.toNat, by omega⟩
    rw [rOfF_at k n (by omega), h.lk n (by omega) (by omega)]
    cases (k.l.getD n default).lives <;> simp
  · have h1 : lookT w es = none := lookT_none (fun hm => hw (h.es.keys w hm))
    rw [h1]
    by_cases h0 : w = 0
    · subst h0
      rw [show (0 : Int) = ((0 : Nat) : Int) from rfl, rOfF_at k 0 (by omega), h.z]; rfl
    · unfold rOfF
      rw [if_pos (by omega)]; rfl
theorem quanta_rel {es : List (Int × At)} {k : Bk} (h : BkRel es k) : quantaF es = rQuantaF k := by
  unfold quantaF rQuantaF
  rw [← all_rel h]
  refine List.map_congr_left (fun w hw => quant_rel h ?_)
  unfold bkAllF at hw
  rw [List.mem_mergeSort] at hw
  exact (mem_keys w es).1 hw
end Go.Proofs

/- The plain law of the bound: the waits that are open, at orders and at turns. -/
set_option linter.unusedSimpArgs false
set_option linter.unusedVariables false
namespace Go.Proofs
open Go.Sy Go.Lib

/-- The places of what is open. -/
def opnI (os : List Opn) (n : Nat) : List Nat := (List.range n).filter fun i => (os.getD i default).fopen
theorem opnI_succ (os : List Opn) (n : Nat) : opnI os (n + 1) = if (os.getD n default).fopen = true then opnI os n ++ [n] else opnI os n := by
  unfold opnI
  rw [List.range_succ, List.filter_append]
  cases h : (os.getD n default).fopen <;> rw [List.getD_eq_getElem?_getD] at h <;> simp [h]
theorem mem_opnI {os : List Opn} {n i : Nat} : i ∈ opnI os n ↔ i < n ∧ (os.getD i default).fopen = true := by
  unfold opnI
  rw [List.mem_filter, List.mem_range]
theorem getD_w (os : List Opn) (i : Nat) : (os.map (·.w)).getD i default = (os.getD i default).w := by
  simp only [List.getD_eq_getElem?_getD, List.getElem?_map]
  cases os[i]? <;> rfl
theorem getD_cost (os : List Opn) (i : Nat) : (os.map (·.cost)).getD i default = (os.getD i default).cost := by
  simp only [List.getD_eq_getElem?_getD, List.getElem?_map]
  cases os[i]? <;> rfl
theorem ext_getD {α : Type} [Inhabited α] {a b : List α} (h : a.length = b.length) (hh : ∀ i, i < a.length → a.getD i default = b.getD i default) : a = b := by
  refine List.ext_getElem h (fun i h1 h2 => ?_)
  have := hh i h1
  rwa [List.getD_eq_getElem?_getD, List.getD_eq_getElem?_getD, List.getElem?_eq_getElem h1, List.getElem?_eq_getElem h2] at this

theorem letAll_snoc (ws : List Wt) (is : List Nat) (i : Nat) : letAll ws (is ++ [i]) = setLet (letAll ws is) i := by
  unfold letAll; rw [List.foldl_append]; rfl
theorem letAll_at (os : List Opn) (j : Nat) (hj : j < os.length) : ∀ n, (letAll (os.map (·.w)) (opnI os n)).getD j default =
    if j < n ∧ (os.getD j default).fopen = true then { (os.getD j default).w with flet := true } else (os.getD j default).w
  | 0 => by
    rw [if_neg (by omega)]
    exact getD_w os j
  | n + 1 => by
    have ih := letAll_at os j hj n
    rw [opnI_succ]
    by_cases ho : (os.getD n default).fopen = true
    · rw [if_pos ho, letAll_snoc]
      unfold setLet
      rw [getD_set _ _ _ _ (by rw [letAll_len, List.length_map]; exact hj)]
      by_cases hjn : j = n
      · subst hjn
        rw [if_pos rfl, if_pos ⟨by omega, ho⟩, ih, if_neg (by omega)]
      · rw [if_neg hjn, ih]
        by_cases hc : j < n ∧ (os.getD j default).fopen = true
        · rw [if_pos hc, if_pos ⟨by omega, hc.2⟩]
        · rw [if_neg hc, if_neg (fun hh => hc ⟨by omega, hh.2⟩)]
    · rw [if_neg ho, ih]
      by_cases hc : j < n ∧ (os.getD j default).fopen = true
      · rw [if_pos hc, if_pos ⟨by omega, hc.2⟩]
      · rw [if_neg hc, if_neg]
        rintro ⟨h1, h2⟩
        by_cases hjn : j = n
        · subst hjn; exact ho h2
        · exact hc ⟨by omega, h2⟩
theorem rOrdAll_at (o : Ord) (os : List Opn) (j : Nat) (hj : j < os.length) : ∀ n, (rOrdAll o os n).getD j default =
    if j < n ∧ (os.getD j default).fopen = true then oOrd o (os.getD j default) else os.getD j default
  | 0 => by rw [if_neg (by omega)]; rfl
  | n + 1 => by
    have ih := rOrdAll_at o os j hj n
    rw [rOrdAll_succ]
    unfold rOrdStep
    by_cases hn : n < os.length
    · have ih2 := rOrdAll_at o os n hn n
      rw [if_neg (by omega)] at ih2
      rw [ih2]
      by_cases ho : (os.getD n default).fopen = false
      · rw [if_pos ho, ih]
        by_cases hc : j < n ∧ (os.getD j default).fopen = true
        · rw [if_pos hc, if_pos ⟨by omega, hc.2⟩]
        · rw [if_neg hc, if_neg]
          rintro ⟨h1, h2⟩
          by_cases hjn : j = n
          · subst hjn; rw [ho] at h2; cases h2
          · exact hc ⟨by omega, h2⟩
      · rw [if_neg ho, upO_getD _ _ _ _ (by rw [rOrdAll_len]; exact hj), ih2]
        by_cases hjn : j = n
        · subst hjn
          rw [if_pos rfl, if_pos ⟨by omega, by simpa using ho⟩]
        · rw [if_neg hjn, ih]
          by_cases hc : j < n ∧ (os.getD j default).fopen = true
          · rw [if_pos hc, if_pos ⟨by omega, hc.2⟩]
          · rw [if_neg hc, if_neg (fun hh => hc ⟨by omega, hh.2⟩)]
    · have hd : ((rOrdAll o os n).getD n default).fopen = false := by
        rw [List.getD_eq_getElem?_getD, List.getElem?_eq_none (by rw [rOrdAll_len]; omega)]; rfl
      rw [if_pos hd, ih]
      by_cases hc : j < n ∧ (os.getD j default).fopen = true
      · rw [if_pos hc, if_pos ⟨by omega, hc.2⟩]
      · rw [if_neg hc, if_neg (fun hh => hc ⟨by omega, hh.2⟩)]
theorem ord_ws (o : Ord) (os : List Opn) : letAll (os.map (·.w)) (opnI os os.length) = (rOrdAll o os os.length).map (·.w) := by
  refine ext_getD (by rw [letAll_len, List.length_map, List.length_map, rOrdAll_len]) (fun i hi => ?_)
  rw [letAll_len, List.length_map] at hi
  rw [getD_w, letAll_at os i hi, rOrdAll_at o os i hi]
  split <;> rfl
theorem ord_cs (o : Ord) (os : List Opn) : os.map (·.cost) = (rOrdAll o os os.length).map (·.cost) := by
  refine ext_getD (by rw [List.length_map, List.length_map, rOrdAll_len]) (fun i hi => ?_)
  rw [List.length_map] at hi
  rw [getD_cost, getD_cost, rOrdAll_at o os i hi]
  split <;> rfl
theorem ord_os (o : Ord) (os : List Opn) : orderOs (os.map (·.w)) (opnI os os.length) o = opnI (rOrdAll o os os.length) os.length := by
  have e1 : opnI (rOrdAll o os os.length) os.length = (opnI os os.length).filter fun i => (decide (o.op ≠ 4) || decide ((os.getD i default).w.owner ≠ o.owner)) := by
    unfold opnI
    rw [List.filter_filter]
    refine List.filter_congr (fun i hi => ?_)
    rw [List.mem_range] at hi
    rw [rOrdAll_at o os i hi]
    by_cases ho : (os.getD i default).fopen = true
    · rw [if_pos ⟨hi, ho⟩, ho]
      simp [oOrd]
    · rw [if_neg (fun hh => ho hh.2)]
      have ho' : (os.getD i default).fopen = false := by simpa using ho
      rw [ho']; simp
  rw [e1]
  unfold orderOs
  by_cases h4 : o.op = 4
  · rw [if_pos h4]
    refine List.filter_congr (fun i hi => ?_)
    obtain ⟨h1, h2⟩ := mem_opnI.1 hi
    rw [letAll_at os i h1, if_pos ⟨h1, h2⟩]
    simp [h4]
  · rw [if_neg h4]
    symm
    refine List.filter_eq_self.2 (fun i hi => ?_)
    simp [h4]
end Go.Proofs

/- The plain law of the bound: a turn. -/
set_option linter.unusedSimpArgs false
set_option linter.unusedVariables false
namespace Go.Proofs
open Go.Sy Go.Lib

theorem turnAll_snoc (x : Rw) (ws : List Wt) (is : List Nat) (i : Nat) : turnAll x ws (is ++ [i]) = turnStep x (turnAll x ws is) i := by
  unfold turnAll; rw [List.foldl_append]; rfl
/-- Both folds, side by side. -/
structure TurnRel (x : Rw) (os : List Opn) (n : Nat) (t : List Wt × Int) (r : List Opn × Bool) : Prop where
  tl : t.1.length = os.length
  rl : r.1.length = os.length
  hit : t.2 = -1 ∨ ∃ k : Nat, t.2 = (k : Int) ∧ k < n
  on : r.2 = (decide (x.act ≠ 2) || decide (0 ≤ t.2))
  w : ∀ j, j < os.length → (r.1.getD j default).w = if (j : Int) = t.2 then { t.1.getD j default with served := true } else t.1.getD j default
  f : ∀ j, j < os.length → (r.1.getD j default).fopen = ((os.getD j default).fopen && decide ((j : Int) ≠ t.2))
  c : ∀ j, j < os.length → (r.1.getD j default).cost = (os.getD j default).cost
theorem turn_rel (x : Rw) (os : List Opn) : ∀ n, n ≤ os.length → TurnRel x os n (turnAll x (os.map (·.w)) (opnI os n)) (rTurnAll x os n)
  | 0, _ => by
    refine ⟨by simp [turnAll, opnI], rfl, .inl rfl, ?_, ?_, ?_, ?_⟩
    · show decide (x.act ≠ 2) = _
      rw [show decide (0 ≤ (turnAll x (os.map (·.w)) (opnI os 0)).2) = false from rfl, Bool.or_false]
    · intro j hj
      rw [if_neg (by show ¬(j : Int) = -1; omega)]
      exact (getD_w os j).symm
    · intro j hj
      have h1 : ((turnAll x (os.map (·.w)) (opnI os 0)).2 : Int) = -1 := rfl
      rw [h1, decide_eq_true (show (j : Int) ≠ -1 by omega), Bool.and_true]; rfl
    · intro j hj; rfl
  | n + 1, hn => by
    have ih := turn_rel x os n (by omega)
    rw [rTurnAll_succ, opnI_succ]
    obtain ⟨t, ht⟩ : ∃ t, turnAll x (os.map (·.w)) (opnI os n) = t := ⟨_, rfl⟩
    obtain ⟨r, hr⟩ : ∃ r, rTurnAll x os n = r := ⟨_, rfl⟩
    rw [hr]
    rw [ht, hr] at ih
    have hne : (n : Int) ≠ t.2 := by
      rcases ih.hit with h | ⟨k, h, hk⟩ <;> omega
    have hfn := ih.f n (by omega)
    rw [decide_eq_true hne, Bool.and_true] at hfn
    have hwn := ih.w n (by omega)
    rw [if_neg hne] at hwn
    unfold rTurnStep
    by_cases ho : (os.getD n default).fopen = true
    · rw [if_pos ho, turnAll_snoc, ht, if_neg (by rw [hfn, ho]; decide)]
      have hup : ∀ j, j < os.length → (upTurn t.1 n).getD j default = if j = n then { t.1.getD n default with turns := IntKind.i64.wrap ((t.1.getD n default).turns + 1) } else t.1.getD j default := fun j hj => by
        unfold upTurn; exact getD_set _ _ _ _ (by rw [ih.tl]; exact hj)
      have hul : (upTurn t.1 n).length = os.length := by unfold upTurn; rw [List.length_set, ih.tl]
      unfold turnStep
      rw [hup n (by omega), if_pos rfl, hwn]
      by_cases hc : r.2 = false ∧ (t.1.getD n default).owner = x.note.owner
      · rw [if_pos hc]
        have hon := ih.on
        rw [hc.1] at hon
        have hon1 := (Bool.or_eq_false_iff.1 hon.symm)
        have ha : x.act = 2 := by simpa using hon1.1
        have ht2 : t.2 < 0 := by have := hon1.2; simp at this; omega
        rw [if_pos ⟨ht2, ha, hc.2⟩]
        have hget : ∀ j, j < os.length → (upO oShut (upO oServe (upO oTurn r.1 n) n) n).getD j default = if j = n then oShut (oServe (oTurn (r.1.getD n default))) else r.1.getD j default := fun j hj => by
          have U : ∀ (f : Opn → Opn) (l : List Opn) (j : Nat), l.length = os.length → j < os.length → (upO f l n).getD j default = if j = n then f (l.getD n default) else l.getD j default := fun f l j h1 h2 => upO_getD f l n j (by omega)
          have l1 : (upO oTurn r.1 n).length = os.length := by rw [upO_len, ih.rl]
          have l2 : (upO oServe (upO oTurn r.1 n) n).length = os.length := by rw [upO_len, l1]
          by_cases hjn : j = n
          · subst hjn
            rw [if_pos rfl, U _ _ _ l2 hj, if_pos rfl, U _ _ _ l1 hj, if_pos rfl, U _ _ _ ih.rl hj, if_pos rfl]
          · rw [if_neg hjn, U _ _ _ l2 hj, if_neg hjn, U _ _ _ l1 hj, if_neg hjn, U _ _ _ ih.rl hj, if_neg hjn]
        refine ⟨hul, by simp [upO_len, ih.rl], .inr ⟨n, rfl, by omega⟩, ?_, ?_, ?_, ?_⟩
        · rw [ha]; simp
        · intro j hj
          dsimp only
          rw [hget j hj, hup j hj]
          by_cases hjn : j = n
          · subst hjn
            rw [if_pos rfl, if_pos rfl, if_pos rfl]
            simp only [oShut, oServe, oTurn, hwn]
          · rw [if_neg hjn, if_neg (by omega), if_neg hjn, ih.w j hj, if_neg (by omega)]
        · intro j hj
          dsimp only
          rw [hget j hj]
          by_cases hjn : j = n
          · subst hjn
            rw [if_pos rfl]; simp [oShut]
          · rw [if_neg hjn, ih.f j hj, decide_eq_true (show (j : Int) ≠ t.2 by omega), decide_eq_true (show (j : Int) ≠ n by omega)]
        · intro j hj
          dsimp only
          rw [hget j hj]
          by_cases hjn : j = n
          · subst hjn
            rw [if_pos rfl]; exact ih.c j hj
          · rw [if_neg hjn]; exact ih.c j hj
      · rw [if_neg hc]
        have hc2 : ¬(t.2 < 0 ∧ x.act = 2 ∧ (t.1.getD n default).owner = x.note.owner) := fun hh => by
          refine hc ⟨?_, hh.2.2⟩
          rw [ih.on, hh.2.1]
          simp; omega
        rw [if_neg hc2]
        refine ⟨hul, by simp [upO_len, ih.rl], ?_, ih.on, ?_, ?_, ?_⟩
        · rcases ih.hit with h | ⟨k, h, hk⟩
          · exact .inl h
          · exact .inr ⟨k, h, by omega⟩
        · intro j hj
          dsimp only
          rw [upO_getD _ _ _ _ (by rw [ih.rl]; exact hj), hup j hj]
          by_cases hjn : j = n
          · subst hjn
            rw [if_pos rfl, if_pos rfl, if_neg hne]
            simp only [oTurn, hwn]
          · rw [if_neg hjn, if_neg hjn]; exact ih.w j hj
        · intro j hj
          dsimp only
          rw [upO_getD _ _ _ _ (by rw [ih.rl]; exact hj)]
          by_cases hjn : j = n
          · subst hjn
            rw [if_pos rfl]; exact ih.f j hj
          · rw [if_neg hjn]; exact ih.f j hj
        · intro j hj
          dsimp only
          rw [upO_getD _ _ _ _ (by rw [ih.rl]; exact hj)]
          by_cases hjn : j = n
          · subst hjn
            rw [if_pos rfl]; exact ih.c j hj
          · rw [if_neg hjn]; exact ih.c j hj
    · have ho' : (os.getD n default).fopen = false := by simpa using ho
      rw [if_neg ho, if_pos (by rw [hfn, ho']), ht]
      refine ⟨ih.tl, ih.rl, ?_, ih.on, ih.w, ih.f, ih.c⟩
      rcases ih.hit with h | ⟨k, h, hk⟩
      · exact .inl h
      · exact .inr ⟨k, h, by omega⟩
theorem turn_all (x : Rw) (os : List Opn) :
    (turnF x (os.map (·.w)) (opnI os os.length)).1 = (rTurnAll x os os.length).1.map (·.w) ∧
    (turnF x (os.map (·.w)) (opnI os os.length)).2 = opnI (rTurnAll x os os.length).1 os.length ∧
    os.map (·.cost) = (rTurnAll x os os.length).1.map (·.cost) := by
  have h := turn_rel x os os.length (Nat.le_refl _)
  unfold turnF
  obtain ⟨t, ht⟩ : ∃ t, turnAll x (os.map (·.w)) (opnI os os.length) = t := ⟨_, rfl⟩
  obtain ⟨r, hr⟩ : ∃ r, rTurnAll x os os.length = r := ⟨_, rfl⟩
  rw [ht, hr] at h ⊢
  have hI : opnI r.1 os.length = (opnI os os.length).filter fun i : Nat => decide ((i : Int) ≠ t.2) := by
    unfold opnI
    rw [List.filter_filter]
    refine List.filter_congr (fun i hi => ?_)
    rw [List.mem_range] at hi
    rw [h.f i hi, Bool.and_comm]
  refine ⟨?_, ?_, ?_⟩
  · refine ext_getD ?_ (fun i hi => ?_)
    · rw [List.length_map, h.rl]
      split
      · exact h.tl
      · simp only [upServed, List.length_set]; exact h.tl
    · have hi' : i < os.length := by
        rw [← h.tl]
        split at hi
        · exact hi
        · simp only [upServed, List.length_set] at hi; exact hi
      rw [getD_w, h.w i hi']
      rcases h.hit with h1 | ⟨k, h1, hk⟩
      · rw [if_pos (by omega), if_neg (by omega)]
      · rw [if_neg (by omega)]
        simp only [upServed]
        rw [getD_set _ _ _ _ (by rw [h.tl]; exact hi'), h1, Int.toNat_natCast]
        by_cases hik : i = k
        · subst hik; rw [if_pos rfl, if_pos rfl]
        · rw [if_neg hik, if_neg (by omega)]
  · rw [hI]
    rcases h.hit with h1 | ⟨k, h1, hk⟩
    · rw [if_pos (by omega)]
      symm
      refine List.filter_eq_self.2 (fun i hi => ?_)
      exact decide_eq_true (by omega)
    · rw [if_neg (by omega)]
      refine List.filter_congr (fun i hi => ?_)
      rw [h1, Int.toNat_natCast]
      by_cases hik : i = k
      · subst hik; simp
      · rw [decide_eq_true hik, decide_eq_true (show (i : Int) ≠ (k : Int) by omega)]
  · refine ext_getD (by rw [List.length_map, List.length_map, h.rl]) (fun i hi => ?_)
    rw [List.length_map] at hi
    rw [getD_cost, getD_cost, h.c i hi]
end Go.Proofs

/- The plain law of the bound: a wait begins; both say the same. -/
set_option linter.unusedSimpArgs false
set_option linter.unusedVariables false
namespace Go.Proofs
open Go.Sy Go.Lib

/-- What is open of an owner costs so much. -/
def sumO (os : List Opn) (w : Int) : Nat → Int
  | 0 => 0
  | n + 1 => sumO os w n + if (os.getD n default).fopen = true ∧ (os.getD n default).w.owner = w then (os.getD n default).cost else 0
theorem sumO_le (os : List Opn) (w : Int) (hc : ∀ o, o ∈ os → 0 ≤ o.cost ∧ o.cost ≤ 1040) : ∀ n, n ≤ os.length → 0 ≤ sumO os w n ∧ sumO os w n ≤ 1040 * n
  | 0, _ => by simp [sumO]
  | n + 1, hn => by
    have ih := sumO_le os w hc n (by omega)
    have hm : os.getD n default ∈ os := by
      rw [List.getD_eq_getElem?_getD, List.getElem?_eq_getElem (by omega)]
      exact List.getElem_mem _
    have := hc _ hm
    simp only [sumO]
    split <;> omega
theorem costF_snoc (ws : List Wt) (cs : List Int) (k : Int) (i : Nat) : ∀ (is : List Nat) (a : Int), costF ws cs k (is ++ [i]) a = if (ws.getD i default).owner = k then IntKind.i64.wrap (costF ws cs k is a + cs.getD i default) else costF ws cs k is a
  | [], a => rfl
  | j :: is, a => by
    rw [List.cons_append, costF_cons, costF_cons]
    exact costF_snoc ws cs k i is _
theorem cost_sum (os : List Opn) (w : Int) (hl : os.length ≤ 1000000) (hc : ∀ o, o ∈ os → 0 ≤ o.cost ∧ o.cost ≤ 1040) : ∀ n, n ≤ os.length → costF (os.map (·.w)) (os.map (·.cost)) w (opnI os n) 0 = sumO os w n
  | 0, _ => rfl
  | n + 1, hn => by
    have ih := cost_sum os w hl hc n (by omega)
    have hb := sumO_le os w hc n (by omega)
    have hm : os.getD n default ∈ os := by
      rw [List.getD_eq_getElem?_getD, List.getElem?_eq_getElem (by omega)]
      exact List.getElem_mem _
    have hcm := hc _ hm
    rw [opnI_succ]
    simp only [sumO]
    by_cases ho : (os.getD n default).fopen = true
    · rw [if_pos ho, costF_snoc, getD_w, getD_cost, ih]
      by_cases hw : (os.getD n default).w.owner = w
      · rw [if_pos hw, if_pos ⟨ho, hw⟩, w64 (by omega) (by omega)]
      · rw [if_neg hw, if_neg (fun hh => hw hh.2)]; omega
    · rw [if_neg ho, ih, if_neg (fun hh => ho hh.1)]; omega
theorem rcost_sum (os : List Opn) (w : Int) (a : Int) (ha : 0 ≤ a ∧ a ≤ 1040) (hl : os.length ≤ 1000000) (hc : ∀ o, o ∈ os → 0 ≤ o.cost ∧ o.cost ≤ 1040) : ∀ n, n ≤ os.length → (os.take n).foldl (rCostStep w) a = a + sumO os w n
  | 0, _ => by simp [sumO]
  | n + 1, hn => by
    have ih := rcost_sum os w a ha hl hc n (by omega)
    have hb := sumO_le os w hc n (by omega)
    have hg : os.getD n default = os[n] := by rw [List.getD_eq_getElem?_getD, List.getElem?_eq_getElem (by omega)]; rfl
    have hm : os.getD n default ∈ os := by rw [hg]; exact List.getElem_mem _
    have hcm := hc _ hm
    rw [List.take_succ_eq_append_getElem (by omega), List.foldl_append, ih, ← hg]
    show rCostStep w (a + sumO os w n) (os.getD n default) = _
    simp only [sumO]
    unfold rCostStep
    by_cases ho : (os.getD n default).fopen = true ∧ (os.getD n default).w.owner = w
    · rw [if_pos ho, if_pos ho, w64 (by omega) (by omega)]; omega
    · rw [if_neg ho, if_neg ho]; omega

/-- The two states say the same. -/
structure StRel (s : BS) (r : RS) : Prop where
  bk : BkRel s.es r.bk
  ws : s.ws = r.os.map (·.w)
  cs : s.cs = r.os.map (·.cost)
  os : s.os = opnI r.os r.os.length
  ct : ∀ o, o ∈ r.os → 0 ≤ o.cost ∧ o.cost ≤ 1040
theorem costN_le (n : Nat) : 0 ≤ costN n ∧ costN n ≤ 1040 := by unfold costN; omega
theorem cost_mem {f : Opn → Int} {a b : List Opn} (h : a.map (·.cost) = b.map (·.cost)) (hc : ∀ o, o ∈ a → 0 ≤ o.cost ∧ o.cost ≤ 1040) : ∀ o, o ∈ b → 0 ≤ o.cost ∧ o.cost ≤ 1040 := fun o ho => by
  have : o.cost ∈ b.map (·.cost) := List.mem_map.2 ⟨o, ho, rfl⟩
  rw [← h] at this
  obtain ⟨o', ho', e⟩ := List.mem_map.1 this
  rw [← e]; exact hc o' ho'
theorem begin_rel {s : BS} {r : RS} (h : StRel s r) (hl : r.os.length ≤ 1000000) (x : Rw) (hx : (lookT x.note.owner s.es).isSome = true) : beginF s.es s.ws s.cs s.os x.fat x.note = (rBeginF r.os r.bk x).w := by
  have h1 : costF s.ws s.cs x.note.owner s.os 0 = sumO r.os x.note.owner r.os.length := by
    rw [h.ws, h.cs, h.os]; exact cost_sum r.os _ hl h.ct _ (Nat.le_refl _)
  have h2 := rcost_sum r.os x.note.owner (costN x.note.body.length) (costN_le _) hl h.ct _ (Nat.le_refl _)
  rw [List.take_length] at h2
  have hb := sumO_le r.os x.note.owner h.ct _ (Nat.le_refl _)
  have hcn := costN_le x.note.body.length
  unfold beginF rBeginF
  rw [h1, h2, quant_rel h.bk hx, quanta_rel h.bk, w64 (by omega) (by omega), Int.add_comm]
theorem came_rel (x : Rw) : (cameF x x.note.owner = true) ↔ (x.act = 1 ∧ x.note.err = 0 ∧ asksF x.note.kind = true) := by
  unfold cameF
  rw [Bool.and_eq_true, decide_eq_true_eq]
  exact ⟨fun h => ⟨h.1.1, h.1.2.2, h.2⟩, fun h => ⟨⟨h.1, rfl, h.2.1⟩, h.2.2⟩⟩
theorem step_rel {s : BS} {r : RS} (h : StRel s r) (hl : r.os.length ≤ 1000000) (x : Rw) : StRel (stepB s x) (stepR r x) := by
  unfold stepB stepR
  by_cases h1 : (trDoneF x).2 = true
  · rw [if_pos h1, if_pos h1]
    refine ⟨bkDo_rel h.bk _, ?_, ?_, ?_, ?_⟩
    · dsimp only
      rw [h.ws, h.os]; exact ord_ws _ _
    · dsimp only
      rw [h.cs]; exact ord_cs _ _
    · dsimp only
      rw [h.ws, h.os, rOrdAll_len]; exact ord_os _ _
    · exact cost_mem (f := (·.cost)) (ord_cs _ _) h.ct
  rw [if_neg h1, if_neg h1]
  by_cases h2 : x.act = 2 ∨ x.act = 3
  · rw [if_pos h2, if_pos h2]
    have ht := turn_all x r.os
    refine ⟨h.bk, ?_, ?_, ?_, ?_⟩
    · dsimp only
      rw [h.ws, h.os]; exact ht.1
    · dsimp only
      rw [h.cs]; exact ht.2.2
    · dsimp only
      rw [h.ws, h.os, rTurnAll_len]; exact ht.2.1
    · exact cost_mem (f := (·.cost)) ht.2.2 h.ct
  rw [if_neg h2, if_neg h2]
  by_cases h3 : cameF x x.note.owner = true ∧ (rOfF r.bk x.note.owner).lives = true
  · have hlv : (lookT x.note.owner s.es).isSome = true := by rw [lives_rel h.bk]; exact h3.2
    have hca := (came_rel x).1 h3.1
    rw [if_pos h3, if_pos ⟨hca.1, hca.2.1, hca.2.2, hlv⟩]
    refine ⟨h.bk, ?_, ?_, ?_, ?_⟩
    · dsimp only
      rw [begin_rel h hl x hlv, h.ws, List.map_append]; rfl
    · dsimp only
      rw [h.cs, List.map_append]; rfl
    · dsimp only
      rw [List.length_append, List.length_singleton, opnI_succ]
      have hg : (r.os ++ [rBeginF r.os r.bk x]).getD r.os.length default = rBeginF r.os r.bk x := by
        simp [List.getD_eq_getElem?_getD]
      have hop : (rBeginF r.os r.bk x).fopen = true := rfl
      rw [hg, if_pos hop, h.os, h.ws, List.length_map]
      congr 1
      unfold opnI
      refine List.filter_congr (fun i hi => ?_)
      rw [List.mem_range] at hi
      simp only [List.getD_eq_getElem?_getD]
      rw [List.getElem?_append_left hi]
    · intro o ho
      dsimp only at ho
      rw [List.mem_append, List.mem_singleton] at ho
      rcases ho with ho | rfl
      · exact h.ct o ho
      · exact costN_le _
  · rw [if_neg h3, if_neg (fun hh => h3 ⟨(came_rel x).2 ⟨hh.1, hh.2.1, hh.2.2.1⟩, by rw [← lives_rel h.bk]; exact hh.2.2.2⟩)]
    exact h
theorem start_rel : StRel ⟨[], [], [], []⟩ ⟨⟨List.replicate 9 default⟩, []⟩ := by
  refine ⟨⟨by simp, ⟨by simp, by simp, by simp⟩, rfl, ?_⟩, rfl, rfl, rfl, by simp⟩
  intro w h1 h8
  have hd : ((List.replicate 9 (default : Tn)).getD w default) = default := by
    rw [List.getD_eq_getElem?_getD, List.getElem?_replicate]
    split <;> rfl
  dsimp only
  rw [hd]; rfl
theorem run_rel : ∀ (l : List Rw) (n : Nat) (s : BS) (r : RS), StRel s r → r.bk.l.length = 9 → r.os.length ≤ n → n + l.length ≤ 1000000 → StRel (l.foldl stepB s) (l.foldl stepR r)
  | [], n, s, r, h, h9, hn, hl => h
  | x :: l, n, s, r, h, h9, hn, hl => by
    have h2 := runR_ok [x] n r h9 hn
    rw [List.length_cons] at hl
    exact run_rel l (n + 1) (stepB s x) (stepR r x) (step_rel h (by omega) x) h2.1 h2.2 (by omega)
theorem plain_law (l : List Rw) (hl : l.length ≤ 400) : (runB l).ws = (runR l).os.map (·.w) :=
  (run_rel l 0 _ _ start_rel (by simp) (Nat.le_refl _) (by omega)).ws
end Go.Proofs

/- The closed facts of the row, limb by limb. -/
set_option maxRecDepth 100000
namespace Go.Proofs.YtgmdpfoccnalnaaGreat.boundOfDone
open Go.ChangeShapes Go.WideShapes

theorem fact1 : Rows.boundOfRow.wf (OpenSpec.ofChange Rows.boundOfSpec) = true := by kernel_rfl
theorem fact2 : laidOutB Tryz.prog = true := by kernel_rfl
theorem fact3 : mapsRowed Tryz.prog = true := by kernel_rfl
theorem fact4 : Tryz.f3.params.all (Program.readableRec Tryz.prog ·) = true := by kernel_rfl
theorem fact5 : namedTie Tryz.prog Rows.boundOfRow.named Rows.boundOfSpec.vars = true := by kernel_rfl
theorem fact6 : (Rows.boundOfRow.stops == []) = true := by kernel_rfl
theorem fact7 : (Tryz.prog.stops == []) = true := by kernel_rfl
theorem fact8 : (Rows.boundOfRow.knobs == []) = true := by kernel_rfl
theorem fact9 : (Tryz.prog.stopKnobs == []) = true := by kernel_rfl
theorem fact10 : (Rows.boundOfRow.inPlace == Tryz.prog.inPlace 3) = true := by kernel_rfl
theorem fact11 : (Rows.boundOfRow.unfollowed == Tryz.prog.unfollowed 3) = true := by kernel_rfl
theorem fact12 : (Rows.boundOfRow.recurses == Tryz.prog.recurses 3) = true := by kernel_rfl
theorem fact13 : (Rows.boundOfRow.named == Tryz.prog.varsNamed 3) = true := by kernel_rfl
theorem fact14 : (Rows.boundOfRow.maps == (Tryz.f3.params.toList ++ Rows.boundOfSpec.plain.varTypes Tryz.prog).any (Program.mapsRec Tryz.prog ·)) = true := by kernel_rfl
theorem fact15 : (Rows.boundOfRow.ifaces == (Tryz.f3.params.toList ++ Rows.boundOfSpec.plain.varTypes Tryz.prog).any (Program.ifacesRec Tryz.prog ·)) = true := by kernel_rfl
theorem fact16 : (Rows.boundOfRow.mapsOut == Program.mapsAmong Tryz.prog Tryz.f3.resultTypes.toList) = true := by kernel_rfl
theorem fact17 : (Rows.boundOfRow.loops == (Tryz.f3.params.toList ++ Rows.boundOfSpec.plain.varTypes Tryz.prog).any (Program.loopsFrom Tryz.prog ·)) = true := by kernel_rfl
theorem fact18 : (Rows.boundOfRow.wideKeys == (Tryz.f3.params.toList ++ Rows.boundOfSpec.plain.varTypes Tryz.prog ++ Tryz.f3.resultTypes.toList).any (Program.wideKeysFrom Tryz.prog ·)) = true := by kernel_rfl
theorem fact19 : Rows.boundOfSpec.vars.all (Program.varReadable Tryz.prog ·) = true := by kernel_rfl
theorem fact20 : Tryz.f3.resultTypes.all (fun t => Program.readableRec Tryz.prog t && decide (t < Tryz.prog.types.size)) = true := by kernel_rfl
theorem fact21 : (Rows.boundOfRow.ifacesOut == Tryz.f3.resultTypes.toList.any (Program.ifacesRec Tryz.prog ·)) = true := by kernel_rfl
theorem fact22 : (Rows.boundOfRow.loopsOut == Tryz.f3.resultTypes.toList.any (Program.loopsFrom Tryz.prog ·)) = true := by kernel_rfl
theorem fact23 : (Rows.boundOfRow.plainKeys == Tryz.prog.plainKeys) = true := by kernel_rfl
theorem fact24 : Rows.boundOfRow.shortTexts.isNone = true := by kernel_rfl
theorem fact25 : Tryz.prog.stopsHeard = true := by kernel_rfl
theorem fact26 : Tryz.prog.mayEnter = true := by kernel_rfl
theorem fact27 : (Rows.boundOfRow.lifted == Tryz.prog.liftsFinal) = true := by kernel_rfl
theorem fact28 : (Program.make Tryz.prog == some Rows.boundOfRow.make) = true := by kernel_rfl
theorem fact30 : (Rows.boundOfRow.pinned == Rows.boundOfRow.pinnedBy) = true := by kernel_rfl
theorem fact31 : (Rows.boundOfRow.veiled == (Tryz.f3.params.toList ++ Rows.boundOfSpec.plain.varTypes Tryz.prog ++ Tryz.f3.resultTypes.toList).any (Program.veiledRec Tryz.prog ·)) = true := by kernel_rfl
theorem fact32 : Rows.boundOfRow.veiledFits Tryz.prog Tryz.f3.params.toList (Tryz.f3.params.toList ++ Rows.boundOfSpec.plain.varTypes Tryz.prog ++ Tryz.f3.resultTypes.toList) = true := by kernel_rfl
theorem facts : joinedFacts Tryz.prog 3 Tryz.f3 Rows.boundOfSpec Rows.boundOfRow = true := by
  unfold joinedFacts
  simp only [Bool.and_eq_true]
  exact ⟨⟨⟨⟨⟨⟨⟨⟨⟨⟨⟨⟨⟨⟨⟨⟨⟨⟨⟨⟨⟨⟨⟨⟨⟨⟨⟨⟨⟨⟨⟨fact1, fact2⟩, fact3⟩, fact4⟩, fact5⟩, fact6⟩, fact7⟩, fact8⟩, fact9⟩, fact10⟩, fact11⟩, fact12⟩, fact13⟩, fact14⟩, fact15⟩, fact16⟩, fact17⟩, fact18⟩, fact19⟩, fact20⟩, fact21⟩, fact22⟩, fact23⟩, fact24⟩, fact25⟩, fact26⟩, fact27⟩, fact28⟩, (by kernel_rfl)⟩, fact30⟩, fact31⟩, fact32⟩
end Go.Proofs.YtgmdpfoccnalnaaGreat.boundOfDone
