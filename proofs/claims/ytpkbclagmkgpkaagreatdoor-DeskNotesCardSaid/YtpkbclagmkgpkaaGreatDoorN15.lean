/- Plain: the text with notes and more blanks, read. -/
import Derived.Test.YtpkbclagmkgpkaaGreatDoorN14
set_option linter.unusedSimpArgs false
set_option linter.unusedVariables false
set_option maxRecDepth 100000
namespace Go.Proofs
open Go.Sy Go.Lib

theorem addF_len (x : Sht) (n : Int) (k : Bool) (q : Cu) : (addF x n k q).1.evs.length ≤ x.evs.length + 1 := by
  unfold addF
  split
  · split <;> exact Nat.le_succ _
  · split
    · exact Nat.le_succ _
    · split
      · exact Nat.le_succ _
      · simp
theorem rdL_len : ∀ (L : List (List UInt8)) (i : Nat) (x : Sht) (k : Bool), (rdL i x k L).1.evs.length ≤ x.evs.length + L.length
  | [], _, _, _ => Nat.le_refl _
  | l :: r, i, x, k => by
    rw [rdL_cons]
    split
    · exact Nat.zero_le _
    · have h1 := rdL_len r (i + 1) (stL i x k l).1 (stL i x k l).2.1
      have h2 : (stL i x k l).1.evs.length ≤ x.evs.length + 1 := by
        unfold stL
        split
        · exact Nat.le_succ _
        · split
          · exact Nat.le_succ _
          · exact addF_len _ _ _ _
      rw [List.length_cons]
      omega
theorem wid_no (k : Nat) (c : UInt8) (hc : c ≠ 32) (l : List UInt8) (h : c ∉ l) : c ∉ wid k l := by
  unfold wid
  rw [List.mem_flatMap]
  rintro ⟨a, ha, hm⟩
  split at hm
  · simp only [List.mem_cons, List.not_mem_nil, or_false] at hm
    rcases hm with rfl | rfl
    · exact h ha
    · exact hc rfl
  · rw [List.mem_singleton.1 hm] at h; exact h ha
theorem WLf_no (ks : Nat → Nat) : ∀ (L : List (List UInt8)) (i : Nat), (∀ p ∈ L, (10 : UInt8) ∉ p) → ∀ p ∈ WLf ks i L, (10 : UInt8) ∉ p
  | [], _, _, p, h => by cases h
  | l :: R, i, hL, p, h => by
    simp only [WLf, List.mem_append, List.mem_singleton] at h
    rcases h with ((h | h) | h) | h
    · unfold ex1 at h
      split at h
      · rw [List.mem_singleton.1 h]; decide
      · cases h
    · unfold ex2 at h
      split at h
      · rw [List.mem_singleton.1 h]; decide
      · cases h
    · subst h
      unfold wln
      have hw := wid_no (ks i) 10 (by decide) l (hL l (by simp))
      simp only [List.mem_append, List.mem_singleton, not_or]
      refine ⟨⟨?_, hw⟩, by decide⟩
      split <;> decide
    · exact WLf_no ks R (i + 1) (fun q hq => hL q (by simp [hq])) p h
theorem WLf_len (ks : Nat → Nat) : ∀ (L : List (List UInt8)) (i : Nat), (WLf ks i L).length ≤ 3 * L.length
  | [], _ => Nat.zero_le _
  | l :: R, i => by
    have ih := WLf_len ks R (i + 1)
    have h1 : (ex1 (ks i)).length ≤ 1 := by unfold ex1; split <;> decide
    have h2 : (ex2 (ks i)).length ≤ 1 := by unfold ex2; split <;> decide
    simp only [WLf, List.length_append, List.length_cons, List.length_nil]
    omega
theorem spl_WLf (ks : Nat → Nat) (s : List UInt8) : spl 10 (joinL (WLf ks 0 (spl 10 s))) = WLf ks 0 (spl 10 s) ++ [[]] := by
  have h := spl_lines 10 [] (WLf ks 0 (spl 10 s)) (WLf_no ks _ 0 (fun p hp => spl_no 10 s p hp))
  rw [List.append_nil] at h
  exact h
theorem count_WLf (ks : Nat → Nat) (s : List UInt8) : (joinL (WLf ks 0 (spl 10 s))).count 10 ≤ 3 * (spl 10 s).length := by
  have h := spl_len 10 (joinL (WLf ks 0 (spl 10 s)))
  have h2 := WLf_len ks (spl 10 s) 0
  rw [spl_WLf, List.length_append, List.length_singleton] at h
  omega
theorem notes_sim (ks : Nat → Nat) (s : List UInt8) :
    (readS (joinL (WLf ks 0 (spl 10 s)))).2.1 = (readS s).2.1 ∧ Alk ks (readS s).1 (readS (joinL (WLf ks 0 (spl 10 s)))).1 (spl 10 s).length ∧
    ((readS s).2.1 ≠ 0 → 1 ≤ (readS s).2.2 ∧ (readS s).2.2 ≤ (spl 10 s).length ∧ (readS (joinL (WLf ks 0 (spl 10 s)))).2.2 = NN ks (readS s).2.2) := by
  have h := sim ks (spl 10 s) 0 Sht.nil Sht.nil false ⟨rfl, rfl, rfl, fun q hq => by cases hq⟩
  unfold readS
  rw [spl_WLf]
  simp only [Nat.zero_add] at h
  exact h
end Go.Proofs

namespace Go.Proofs
open Go.Sy Go.Lib

def evV (x : Evt) : Array Value := #[.int .i64 x.kind, .int .i64 x.conn, .int .u64 x.num, S x.bytes]
theorem rep_ev (m : Evt) (e : Env) (ys : List Value) (h : RepL e (Evt.c m) ys) : ys = (evV m).toList := by
  simp only [Evt.c, RepL, Rep] at h
  obtain ⟨z1, t1, rfl, rfl, _, z2, t2, rfl, rfl, _, z3, t3, rfl, rfl, _, z4, t4, rfl, rfl, _, rfl⟩ := h
  rfl
theorem eq_ev (m : Evt) (w : World) : (Op.equalIn 10000 54 (.agg (evV m)) (.agg (evV m))).run Tryz.prog w = .ok true w := by
  rw [run_equalIn_struct w 9999 54 _ _ Tryz.underlying54 Tryz.stoodInHeld54]
  unfold Program.fieldsOf
  rw [Tryz.underlying54]
  have p0 : (part 3 (evV m) 0).run Tryz.prog w = .ok (.int .i64 m.kind) w := by simp [part, isAgg, run_underlying Tryz.underlying3, evV]
  have p1 : (part 3 (evV m) 1).run Tryz.prog w = .ok (.int .i64 m.conn) w := by simp [part, isAgg, run_underlying Tryz.underlying3, evV]
  have p2 : (part 24 (evV m) 2).run Tryz.prog w = .ok (.int .u64 m.num) w := by simp [part, isAgg, run_underlying Tryz.underlying24, evV]
  have p3 : (part 9 (evV m) 3).run Tryz.prog w = .ok (S m.bytes) w := by simp [part, isAgg, run_underlying Tryz.underlying9, evV]
  have e0 : ∀ k, (Op.equalIn 9999 3 (.int .i64 k) (.int .i64 k)).run Tryz.prog w = .ok true w := fun k => by rw [run_equalIn_int w 9998 3 .i64 .i64 _ _ Tryz.underlying3]; simp
  have e1 : ∀ k, (Op.equalIn 9999 24 (.int .u64 k) (.int .u64 k)).run Tryz.prog w = .ok true w := fun k => by rw [run_equalIn_int w 9998 24 .u64 .u64 _ _ Tryz.underlying24]; simp
  have e2 : ∀ l, (Op.equalIn 9999 9 (S l) (S l)).run Tryz.prog w = .ok true w := fun l => by unfold S; rw [run_equalIn_string w 9998 9 _ _ Tryz.underlying9]; simp
  simp only [Op.eqFields]
  rw [if_pos (by decide), if_pos (by decide), if_pos (by decide), if_pos (by decide)]
  simp [Sem.run_bind, p0, p1, p2, p3, e0, e1, e2]
theorem sameEvs_c (E : List Evt) (hE : E.length ≤ 1000000) : FnP Tryz.prog 10 [SL 4 Evt.c E, SL 4 Evt.c E] (· = B true) := by
  refine FnP.intro Tryz.tabOK Tryz.wide_ Tryz.func10 rfl (by decide) rfl (fun X => ?_)
  repeat (first|refine sc rfl ?_|refine so rfl ?_|refine sb rfl ?_)
  refine C_false rfl (by simp) ?_
  repeat (first|refine sc rfl ?_|refine so rfl ?_|refine sb rfl ?_)
  refine C_loop (fun i : Nat => ⟨[(0, SL 4 Evt.c E), (1, SL 4 Evt.c E), (5, I64 (i : Nat))], []⟩) (fun i => i ≤ E.length) (fun i => E.length - i) 0 (Nat.zero_le _) (Le.sub [] ⟨rfl, rfl, rfl, trivial⟩ rfl) ?_
  intro i hi
  repeat (first|refine sc rfl ?_|refine so rfl ?_|refine sb rfl ?_)
  refine C_if rfl (fun k1 => ?_) (fun k1 => ?_) <;> simp only [pL] at k1
  · repeat (first|refine sc rfl ?_|refine so rfl ?_|refine sb rfl ?_)
    refine C_drawD rfl (by kernel_rfl) ?_
    repeat (first|refine sd rfl ?_|refine sdb rfl ?_|refine sds rfl ?_)
    refine ⟨by omega, ?_⟩
    simp only [Int.toNat_natCast]
    repeat (first|refine sd rfl ?_|refine sdb rfl ?_|refine sds rfl ?_)
    refine ⟨by omega, ?_⟩
    simp only [Int.toNat_natCast]
    repeat (first|refine sd rfl ?_|refine sdb rfl ?_|refine sds rfl ?_)
    refine D_X (B false) (X_aggC (us := evV (E.getD i default)) (vs := evV (E.getD i default)) (b := true) (op := .neq) (fun e2 ys h => rep_ev _ e2 ys h) (fun e2 ys h => rep_ev _ e2 ys h) (fun w => eq_ev _ w) Tryz.eqGuardType54 (.inr rfl) rfl rfl rfl rfl) ?_
    repeat (first|refine sd rfl ?_|refine sdb rfl ?_|refine sds rfl ?_)
    refine C_false rfl (by decide) ?_
    repeat (first|refine sc rfl ?_|refine so rfl ?_|refine sb rfl ?_)
    rw [w64 (x := (i : Int) + 1) (by omega) (by omega)]
    exact ⟨i + 1, by omega, by omega, Le.sub [] ⟨rfl, rfl, rfl, trivial⟩ rfl⟩
  · repeat (first|refine sc rfl ?_|refine so rfl ?_|refine sb rfl ?_)
    exact ⟨_, rfl, rfl, rfl⟩
end Go.Proofs

namespace Go.Proofs
open Go.Sy Go.Lib

def kOf (bl : List UInt8) (i : Nat) : Nat := if 0 < bl.length then (bl.getD (i % bl.length) 0).toNat else 0
theorem kOf_lt (bl : List UInt8) (i : Nat) : kOf bl i < 256 := by
  unfold kOf
  split
  · exact UInt8.toNat_lt _
  · decide
theorem WLf_snoc (ks : Nat → Nat) (l : List UInt8) : ∀ (A : List (List UInt8)) (j : Nat), WLf ks j (A ++ [l]) = WLf ks j A ++ (ex1 (ks (j + A.length)) ++ ex2 (ks (j + A.length)) ++ [wln (ks (j + A.length)) l])
  | [], j => by simp [WLf]
  | a :: A, j => by
    have ih := WLf_snoc ks l A (j + 1)
    simp only [List.cons_append, WLf, ih, List.length_cons, show j + 1 + A.length = j + (A.length + 1) by omega, List.append_assoc]
def WD (ks : Nat → Nat) (L : List (List UInt8)) (i : Nat) : List UInt8 := joinL (WLf ks 0 (L.take i))
theorem joinL_app (a b : List (List UInt8)) : joinL (a ++ b) = joinL a ++ joinL b := by simp [joinL]
theorem WD_succ (ks : Nat → Nat) (L : List (List UInt8)) (i : Nat) (h : i < L.length) : WD ks L (i + 1) = WD ks L i ++ joinL (ex1 (ks i)) ++ joinL (ex2 (ks i)) ++ (if ks i % 2 = 1 then e1L else []) ++ wid (ks i) L[i] ++ [32, 10] := by
  unfold WD
  rw [List.take_succ_eq_append_getElem h, WLf_snoc, joinL_app, joinL_app, joinL_app, List.length_take, Nat.min_eq_left (by omega), Nat.zero_add]
  simp [joinL, wln]
theorem wid_le (k : Nat) : ∀ l : List UInt8, (wid k l).length ≤ 2 * l.length
  | [] => by simp [wid]
  | c :: r => by
    have := wid_le k r
    unfold wid at this ⊢
    rw [List.flatMap_cons, List.length_append, List.length_cons]
    split <;> simp only [List.length_cons, List.length_nil] <;> omega
theorem ex_len (k : Nat) : (joinL (ex1 k)).length ≤ 3 ∧ (joinL (ex2 k)).length ≤ 10 ∧ (ex1 k).length ≤ 1 ∧ (ex2 k).length ≤ 1 := by
  unfold ex1 ex2
  refine ⟨?_, ?_, ?_, ?_⟩ <;> split <;> decide
theorem WD_len (ks : Nat → Nat) (L : List (List UInt8)) : ∀ i, i ≤ L.length → (WD ks L i).length ≤ 17 * i + 2 * ((L.take i).map fun w => w.length + 1).sum
  | 0, _ => by simp [WD, WLf, joinL]
  | i + 1, h => by
    have ih := WD_len ks L i (by omega)
    have h1 := ex_len (ks i)
    have h2 := wid_le (ks i) L[i]
    rw [WD_succ ks L i (by omega), List.take_succ_eq_append_getElem (by omega), List.map_append, List.sum_append]
    simp only [List.length_append, List.map_cons, List.map_nil, List.sum_cons, List.sum_nil, List.length_cons, List.length_nil]
    have h3 : (if ks i % 2 = 1 then e1L else ([] : List UInt8)).length ≤ 2 := by split <;> decide
    omega
def ATL (ks : Nat → Nat) (i : Nat) : List Int := (List.range i).map fun j => ((NN ks (j + 1) : Nat) : Int)
theorem ATL_succ (ks : Nat → Nat) (i : Nat) : ATL ks (i + 1) = ATL ks i ++ [((NN ks (i + 1) : Nat) : Int)] := by simp [ATL, List.range_succ]
theorem NN_le (ks : Nat → Nat) (i : Nat) : NN ks i ≤ 3 * i := by
  induction i with
  | zero => exact Nat.le_refl _
  | succ i ih =>
    have h1 := ex_len (ks i)
    simp only [NN]; omega
theorem remI (a b : Nat) : ((a : Int).tmod (b : Int)) = ((a % b : Nat) : Int) := (Int.ofNat_tmod a b).symm
theorem rem3 (a : Nat) : ((a : Int).tmod 3) = ((a % 3 : Nat) : Int) := remI a 3
theorem rem5 (a : Nat) : ((a : Int).tmod 5) = ((a % 5 : Nat) : Int) := remI a 5
theorem rem2 (a : Nat) : ((a : Int).tmod 2) = ((a % 2 : Nat) : Int) := remI a 2
theorem rem7 (a : Nat) : ((a : Int).tmod 7) = ((a % 7 : Nat) : Int) := remI a 7
section
variable {P : Program} {T : Tab} {X : Ctx P T} {n : Nat} {st : St}
theorem C_join {Q : Exit → St → Prop} {c : Code} (J : St) (h : SymC X n c st (fun ex s => match ex with
      | .normal => Le X n s J
      | ex => Q ex s)) (hQ : ∀ s, Le X n s J → Q .normal s) : SymC X n c st Q :=
  h.mono fun ex s h => by cases ex <;> first | exact h | exact hQ s h
end
theorem deskNotes_W (s : List UInt8) (bl : List UInt8) : FnK 5 [.s s, SL 1 U8c bl] [] (fun r cs' => r = B true ∧ cs' = []) := by
  refine FnW.intro Tryz.tabOK Tryz.wide_ Tryz.func5 rfl (by decide) rfl (fun X hK => ?_)
  repeat (first|refine sc rfl ?_|refine so rfl ?_|refine sb rfl ?_)
  refine O_call (much_c s) (by rfl) (by rfl) (by rfl) (by rfl) (fun r hr => ?_)
  subst hr
  repeat (first|refine sc rfl ?_|refine so rfl ?_|refine sb rfl ?_)
  cases k1 : muchF s with
  | true =>
    repeat (first|refine sc rfl ?_|refine so rfl ?_|refine sb rfl ?_)
    refine C_true rfl rfl ?_
    repeat (first|refine sc rfl ?_|refine so rfl ?_|refine sb rfl ?_)
    refine O_callW hK [] awake50_W (by rfl) (by rfl) (by rfl) (by rfl) (by rfl) ?_
    rintro r' cs' ⟨rfl, rfl⟩
    repeat (first|refine sc rfl ?_|refine so rfl ?_|refine sb rfl ?_)
    exact ⟨_, [], _, rfl, pickA_perm (is := []) (As := []) rfl, rfl, rfl, rfl⟩
  | false =>
  obtain ⟨hlen, hcnt⟩ := much_le k1
  repeat (first|refine sc rfl ?_|refine so rfl ?_|refine sb rfl ?_)
  refine C_if rfl (fun k2 => ?_) (fun k2 => ?_) <;> simp only [pL] at k2
  · repeat (first|refine sc rfl ?_|refine so rfl ?_|refine sb rfl ?_)
    refine O_callW hK [] awake50_W (by rfl) (by rfl) (by rfl) (by rfl) (by rfl) ?_
    rintro r' cs' ⟨rfl, rfl⟩
    repeat (first|refine sc rfl ?_|refine so rfl ?_|refine sb rfl ?_)
    exact ⟨_, [], _, rfl, pickA_perm (is := []) (As := []) rfl, rfl, rfl, rfl⟩
  repeat (first|refine sc rfl ?_|refine so rfl ?_|refine sb rfl ?_)
  refine O_call (lines_c s (by omega)) (by rfl) (by rfl) (by rfl) (by rfl) (fun r hr => ?_)
  subst hr
  have hcl : (spl 10 s).length ≤ 151 := by rw [spl_len]; omega
  have hsum := spl_sum 10 s
  obtain ⟨L, hL⟩ : ∃ L, spl 10 s = L := ⟨_, rfl⟩
  rw [hL] at hcl hsum ⊢
  obtain ⟨ks, hks⟩ : ∃ ks, kOf bl = ks := ⟨_, rfl⟩
  have hW : ∀ i, i ≤ L.length → (WD ks L i).length ≤ 21000 := fun i hi => by
    have h1 := WD_len ks L i hi
    have h2 := sum_take (L.map fun w => w.length + 1) i
    rw [← List.map_take] at h2
    omega
  repeat (first|refine sc rfl ?_|refine so rfl ?_|refine sb rfl ?_)
  first
    | refine C_le _ (Le.nilvec INTc 7 102 3 1 rfl rfl rfl) ?_
    | refine O_le _ (Le.nilvec INTc 7 102 3 1 rfl rfl rfl) ?_
  refine C_loop (fun i : Nat => ⟨[(0, .s s), (1, SL 1 U8c bl), (5, SL 1 wc1 L), (6, .s (WD ks L i)), (7, .own 102), (8, I64 (NN ks i : Nat)), (9, I64 (i : Nat))], [VEC 102 3 1 INTc (ATL ks i)]⟩) (fun i => i ≤ L.length) (fun i => L.length - i) 0 (Nat.zero_le _) ?_ ?_
  · exact Le.pick [0] ⟨rfl, rfl, rfl, rfl, rfl, rfl, rfl, trivial⟩ rfl
  intro i hi
  repeat (first|refine sc rfl ?_|refine so rfl ?_|refine sb rfl ?_)
  refine C_if rfl (fun k3 => ?_) (fun k3 => ?_) <;> simp only [pL] at k3
  · have hiL : i < L.length := by omega
    have hk := kOf_lt bl i
    rw [hks] at hk
    have hNN := NN_le ks (i + 1)
    have hNi := NN_le ks i
    have hWi := hW (i + 1) hiL
    have hWs := WD_succ ks L i hiL
    have hl : L.getD i default = L[i] := by rw [List.getD_eq_getElem?_getD, List.getElem?_eq_getElem hiL]; rfl
    have hlw : (wid (ks i) L[i]).length ≤ 30000 := by
      have h1 := wid_le (ks i) L[i]
      have h2 := spl_le (c := 10) (l := s) (p := L[i]) (by rw [hL]; exact List.getElem_mem hiL)
      omega
    rw [hWs] at hWi
    simp only [List.length_append, List.length_cons, List.length_nil] at hWi
    repeat (first|refine sc rfl ?_|refine so rfl ?_|refine sb rfl ?_)
    refine C_ifJ ⟨[(0, .s s), (1, SL 1 U8c bl), (5, SL 1 wc1 L), (6, .s (WD ks L i)), (7, .own 102), (8, I64 (NN ks i : Nat)), (9, I64 (i : Nat)), (10, .v (.int .u8 (ks i : Nat)))], [VEC 102 3 1 INTc (ATL ks i)]⟩ rfl (fun k4 => ?_) (fun k4 => ?_) (fun s0 hs0 => C_le _ hs0 ?_) <;> try simp only [pL] at k4
    · repeat (first|refine sc rfl ?_|refine so rfl ?_|refine sb rfl ?_)
      refine ⟨by omega, ?_⟩
      rw [remI i bl.length]
      have hmod := Nat.mod_lt i (show 0 < bl.length by omega)
      repeat (first|refine sc rfl ?_|refine so rfl ?_|refine sb rfl ?_)
      refine ⟨by omega, ?_⟩
      simp only [Int.toNat_natCast]
      repeat (first|refine sc rfl ?_|refine so rfl ?_|refine sb rfl ?_)
      have hk1 : ks i = (bl.getD (i % bl.length) 0).toNat := by rw [← hks]; unfold kOf; rw [if_pos (by omega)]
      rw [hk1]
      exact Le.pick [0] ⟨rfl, rfl, rfl, rfl, rfl, rfl, rfl, rfl, trivial⟩ rfl
    · have hk0 : ks i = 0 := by rw [← hks]; unfold kOf; rw [if_neg (by omega)]
      repeat (first|refine sc rfl ?_|refine so rfl ?_|refine sb rfl ?_)
      rw [hk0]
      exact Le.pick [0] ⟨rfl, rfl, rfl, rfl, rfl, rfl, rfl, rfl, trivial⟩ rfl
    repeat (first|refine sc rfl ?_|refine so rfl ?_|refine sb rfl ?_)
    refine ⟨by decide, ?_⟩
    rw [rem3]
    repeat (first|refine sc rfl ?_|refine so rfl ?_|refine sb rfl ?_)
    refine C_ifJ ⟨[(0, .s s), (1, SL 1 U8c bl), (5, SL 1 wc1 L), (6, .s (WD ks L i ++ joinL (ex1 (ks i)))), (7, .own 102), (8, I64 ((NN ks i + (ex1 (ks i)).length : Nat) : Int)), (9, I64 (i : Nat)), (10, .v (.int .u8 (ks i : Nat)))], [VEC 102 3 1 INTc (ATL ks i)]⟩ rfl (fun k4 => ?_) (fun k4 => ?_) (fun s0 hs0 => C_le _ hs0 ?_) <;> try simp only [pL] at k4
    · have he : ex1 (ks i) = [e1L] := by unfold ex1; rw [if_pos (by omega)]
      rw [he]
      repeat (first|refine sc rfl ?_|refine so rfl ?_|refine sb rfl ?_)
      refine ⟨by simp only [List.length_cons, List.length_nil]; omega, ?_⟩
      repeat (first|refine sc rfl ?_|refine so rfl ?_|refine sb rfl ?_)
      rw [w64 (x := (NN ks i : Int) + 1) (by omega) (by omega)]
      exact Le.pick [0] ⟨rfl, rfl, rfl, rfl, rfl, rfl, rfl, rfl, trivial⟩ rfl
    · have he : ex1 (ks i) = [] := by unfold ex1; rw [if_neg (by omega)]
      rw [he, show joinL [] = [] from rfl, List.append_nil, List.length_nil, Nat.add_zero]
      repeat (first|refine sc rfl ?_|refine so rfl ?_|refine sb rfl ?_)
      exact Le.pick [0] ⟨rfl, rfl, rfl, rfl, rfl, rfl, rfl, rfl, trivial⟩ rfl
    repeat (first|refine sc rfl ?_|refine so rfl ?_|refine sb rfl ?_)
    refine ⟨by decide, ?_⟩
    rw [rem5]
    repeat (first|refine sc rfl ?_|refine so rfl ?_|refine sb rfl ?_)
    refine C_ifJ ⟨[(0, .s s), (1, SL 1 U8c bl), (5, SL 1 wc1 L), (6, .s (WD ks L i ++ joinL (ex1 (ks i)) ++ joinL (ex2 (ks i)))), (7, .own 102), (8, I64 ((NN ks i + (ex1 (ks i)).length + (ex2 (ks i)).length : Nat) : Int)), (9, I64 (i : Nat)), (10, .v (.int .u8 (ks i : Nat)))], [VEC 102 3 1 INTc (ATL ks i)]⟩ rfl (fun k4 => ?_) (fun k4 => ?_) (fun s0 hs0 => C_le _ hs0 ?_) <;> try simp only [pL] at k4
    · have he : ex2 (ks i) = [e2L] := by unfold ex2; rw [if_pos (by omega)]
      rw [he]
      repeat (first|refine sc rfl ?_|refine so rfl ?_|refine sb rfl ?_)
      refine ⟨by simp only [List.length_append, List.length_cons, List.length_nil]; omega, ?_⟩
      repeat (first|refine sc rfl ?_|refine so rfl ?_|refine sb rfl ?_)
      have hx := (ex_len (ks i)).2.2.1
      rw [w64 (x := ((NN ks i + (ex1 (ks i)).length : Nat) : Int) + 1) (by omega) (by omega)]
      exact Le.pick [0] ⟨rfl, rfl, rfl, rfl, rfl, rfl, rfl, rfl, trivial⟩ rfl
    · have he : ex2 (ks i) = [] := by unfold ex2; rw [if_neg (by omega)]
      rw [he, show joinL [] = [] from rfl, List.append_nil, List.length_nil, Nat.add_zero]
      repeat (first|refine sc rfl ?_|refine so rfl ?_|refine sb rfl ?_)
      exact Le.pick [0] ⟨rfl, rfl, rfl, rfl, rfl, rfl, rfl, rfl, trivial⟩ rfl
    repeat (first|refine sc rfl ?_|refine so rfl ?_|refine sb rfl ?_)
    refine ⟨by decide, ?_⟩
    rw [rem2]
    repeat (first|refine sc rfl ?_|refine so rfl ?_|refine sb rfl ?_)
    refine C_ifJ ⟨[(0, .s s), (1, SL 1 U8c bl), (5, SL 1 wc1 L), (6, .s (WD ks L i ++ joinL (ex1 (ks i)) ++ joinL (ex2 (ks i)) ++ (if ks i % 2 = 1 then e1L else []))), (7, .own 102), (8, I64 ((NN ks i + (ex1 (ks i)).length + (ex2 (ks i)).length : Nat) : Int)), (9, I64 (i : Nat)), (10, .v (.int .u8 (ks i : Nat)))], [VEC 102 3 1 INTc (ATL ks i)]⟩ rfl (fun k4 => ?_) (fun k4 => ?_) (fun s0 hs0 => C_le _ hs0 ?_) <;> try simp only [pL] at k4
    · rw [if_pos (by omega)]
      repeat (first|refine sc rfl ?_|refine so rfl ?_|refine sb rfl ?_)
      refine ⟨by simp only [List.length_append, List.length_cons, List.length_nil]; omega, ?_⟩
      repeat (first|refine sc rfl ?_|refine so rfl ?_|refine sb rfl ?_)
      exact Le.pick [0] ⟨rfl, rfl, rfl, rfl, rfl, rfl, rfl, rfl, trivial⟩ rfl
    · rw [if_neg (by omega), List.append_nil]
      repeat (first|refine sc rfl ?_|refine so rfl ?_|refine sb rfl ?_)
      exact Le.pick [0] ⟨rfl, rfl, rfl, rfl, rfl, rfl, rfl, rfl, trivial⟩ rfl
    obtain ⟨W0, hW0⟩ : ∃ W0, WD ks L i ++ joinL (ex1 (ks i)) ++ joinL (ex2 (ks i)) ++ (if ks i % 2 = 1 then e1L else []) = W0 := ⟨_, rfl⟩
    have hW0l : W0.length ≤ 22000 := by
      rw [← hW0]; simp only [List.length_append]; omega
    rw [hW0] at hWs ⊢
    repeat (first|refine sc rfl ?_|refine so rfl ?_|refine sb rfl ?_)
    obtain ⟨l, hle⟩ : ∃ l, L[i] = l := ⟨_, rfl⟩
    rw [hle] at hl hlw hWs hWi
    have hwj : ∀ j, (wid (ks i) (l.take j)).length ≤ 30000 := fun j => by
      have h1 := wid_le (ks i) (l.take j)
      have h2 := spl_le (c := 10) (l := s) (p := l) (by rw [hL, ← hle]; exact List.getElem_mem hiL)
      rw [List.length_take] at h1
      omega
    have hll : l.length ≤ 9001 := by
      have h2 := spl_le (c := 10) (l := s) (p := l) (by rw [hL, ← hle]; exact List.getElem_mem hiL)
      omega
    refine C_loop (fun j : Nat => ⟨[(0, .s s), (1, SL 1 U8c bl), (5, SL 1 wc1 L), (6, .s (W0 ++ wid (ks i) (l.take j))), (7, .own 102), (8, I64 ((NN ks i + (ex1 (ks i)).length + (ex2 (ks i)).length : Nat) : Int)), (9, I64 (i : Nat)), (10, .v (.int .u8 (ks i : Nat))), (11, I64 (j : Nat))], [VEC 102 3 1 INTc (ATL ks i)]⟩) (fun j => j ≤ l.length) (fun j => l.length - j) 0 (Nat.zero_le _) ?_ ?_
    · have h0 : wid (ks i) (l.take 0) = [] := rfl
      rw [h0, List.append_nil]
      exact Le.pick [0] ⟨rfl, rfl, rfl, rfl, rfl, rfl, rfl, rfl, rfl, trivial⟩ rfl
    intro j hj
    repeat (first|refine sc rfl ?_|refine so rfl ?_|refine sb rfl ?_)
    refine ⟨by omega, ?_⟩
    repeat (first|refine sc rfl ?_|refine so rfl ?_|refine sb rfl ?_)
    simp only [Int.toNat_natCast, hl]
    repeat (first|refine sc rfl ?_|refine so rfl ?_|refine sb rfl ?_)
    refine C_if rfl (fun k5 => ?_) (fun k5 => ?_) <;> simp only [pL] at k5
    · have hjl : j < l.length := by omega
      have hw1 := hwj (j + 1)
      have htk : wid (ks i) (l.take (j + 1)) = wid (ks i) (l.take j) ++ [l[j]] ++ (if l[j] = 32 ∧ ks i % 7 = 3 then [32] else []) := by
        unfold wid
        rw [List.take_succ_eq_append_getElem hjl, List.flatMap_append, List.flatMap_cons, List.flatMap_nil, List.append_nil, List.append_assoc]
        congr 1
        split <;> rfl
      rw [htk] at hw1
      simp only [List.length_append, List.length_cons, List.length_nil] at hw1
      repeat (first|refine sc rfl ?_|refine so rfl ?_|refine sb rfl ?_)
      refine ⟨by omega, ?_⟩
      repeat (first|refine sc rfl ?_|refine so rfl ?_|refine sb rfl ?_)
      simp only [Int.toNat_natCast, hl]
      repeat (first|refine sc rfl ?_|refine so rfl ?_|refine sb rfl ?_)
      rw [w64 (x := (j : Int) + 1) (by omega) (by omega)]
      refine ⟨⟨by omega, by omega, by omega⟩, ?_⟩
      have hsl : (l.drop j).take ((((j : Nat) : Int) + 1).toNat - j) = [l[j]] := by
        rw [show (((j : Nat) : Int) + 1).toNat - j = 1 by omega, List.drop_eq_getElem_cons hjl]
        rfl
      repeat (first|refine sc rfl ?_|refine so rfl ?_|refine sb rfl ?_)
      simp only [Int.toNat_natCast, hsl]
      repeat (first|refine sc rfl ?_|refine so rfl ?_|refine sb rfl ?_)
      refine ⟨by simp only [List.length_append, List.length_cons, List.length_nil]; omega, ?_⟩
      repeat (first|refine sc rfl ?_|refine so rfl ?_|refine sb rfl ?_)
      refine ⟨by omega, ?_⟩
      repeat (first|refine sc rfl ?_|refine so rfl ?_|refine sb rfl ?_)
      simp only [Int.toNat_natCast, hl]
      repeat (first|refine sc rfl ?_|refine so rfl ?_|refine sb rfl ?_)
      refine ⟨⟨by omega, by omega⟩, ?_⟩
      have hgl : l.getD j 0 = l[j] := by rw [List.getD_eq_getElem?_getD, List.getElem?_eq_getElem hjl]; rfl
      repeat (first|refine sc rfl ?_|refine so rfl ?_|refine sb rfl ?_)
      refine O_case 88 rfl (fun k6 => ?_) (fun k6 => ?_) <;> simp only [pL] at k6
      · repeat (first|refine sc rfl ?_|refine so rfl ?_|refine sb rfl ?_)
        refine ⟨by decide, ?_⟩
        rw [rem7]
        repeat (first|refine sc rfl ?_|refine so rfl ?_|refine sb rfl ?_)
        refine C_if rfl (fun k7 => ?_) (fun k7 => ?_) <;> simp only [pL] at k7
        · have hc : l[j] = 32 := by rw [← hgl]; exact UInt8.toNat_inj.1 (by rw [show (32 : UInt8).toNat = 32 from rfl]; omega)
          rw [if_pos ⟨hc, by omega⟩] at htk hw1
          repeat (first|refine sc rfl ?_|refine so rfl ?_|refine sb rfl ?_)
          refine ⟨by simp only [List.length_append, List.length_cons, List.length_nil] at hw1 ⊢; omega, ?_⟩
          repeat (first|refine sc rfl ?_|refine so rfl ?_|refine sb rfl ?_)
          rw [w64 (x := (j : Int) + 1) (by omega) (by omega)]
          refine ⟨j + 1, by omega, by omega, ?_⟩
          rw [htk, ← List.append_assoc, ← List.append_assoc]
          exact Le.pick [0] ⟨rfl, rfl, rfl, rfl, rfl, rfl, rfl, rfl, rfl, trivial⟩ rfl
        · rw [if_neg (fun h => k7 (by omega)), List.append_nil] at htk
          repeat (first|refine sc rfl ?_|refine so rfl ?_|refine sb rfl ?_)
          rw [w64 (x := (j : Int) + 1) (by omega) (by omega)]
          refine ⟨j + 1, by omega, by omega, ?_⟩
          rw [htk, ← List.append_assoc]
          exact Le.pick [0] ⟨rfl, rfl, rfl, rfl, rfl, rfl, rfl, rfl, rfl, trivial⟩ rfl
      · have hc : l[j] ≠ 32 := fun h => k6 (by rw [hgl, h]; rfl)
        rw [if_neg (fun h => hc h.1), List.append_nil] at htk
        repeat (first|refine sc rfl ?_|refine so rfl ?_|refine sb rfl ?_)
        refine C_false rfl rfl ?_
        repeat (first|refine sc rfl ?_|refine so rfl ?_|refine sb rfl ?_)
        rw [w64 (x := (j : Int) + 1) (by omega) (by omega)]
        refine ⟨j + 1, by omega, by omega, ?_⟩
        rw [htk, ← List.append_assoc]
        exact Le.pick [0] ⟨rfl, rfl, rfl, rfl, rfl, rfl, rfl, rfl, rfl, trivial⟩ rfl
    · obtain rfl : j = l.length := by omega
      rw [List.take_length]
      have hWs2 : WD ks L (i + 1) = W0 ++ wid (ks i) l ++ [32, 10] := hWs
      have hx := ex_len (ks i)
      have hNs : ((NN ks i + (ex1 (ks i)).length + (ex2 (ks i)).length : Nat) : Int) + 1 = ((NN ks (i + 1) : Nat) : Int) := by simp only [NN]; omega
      repeat (first|refine sc rfl ?_|refine so rfl ?_|refine sb rfl ?_)
      refine ⟨by simp only [List.length_append, List.length_cons, List.length_nil]; omega, ?_⟩
      repeat (first|refine sc rfl ?_|refine so rfl ?_|refine sb rfl ?_)
      rw [w64 (x := ((NN ks i + (ex1 (ks i)).length + (ex2 (ks i)).length : Nat) : Int) + 1) (by omega) (by omega), hNs, ← hWs2]
      have hal : (ATL ks i).length = i := by simp [ATL]
      refine O_push INTc (ATL ks i) ((NN ks (i + 1) : Nat) : Int) [(0, .s s), (1, SL 1 U8c bl), (5, SL 1 wc1 L), (6, .s (WD ks L (i + 1))), (8, I64 (NN ks (i + 1) : Nat)), (9, I64 (i : Nat))] rfl rfl rfl rfl rfl rfl rfl rfl rfl rfl ⟨rfl, rfl, rfl, rfl, rfl, rfl, trivial⟩ rfl rfl (by omega) (by simp only [maxLen]; omega) ?_
      rw [← ATL_succ]
      repeat (first|refine sc rfl ?_|refine so rfl ?_|refine sb rfl ?_)
      rw [w64 (x := (i : Int) + 1) (by omega) (by omega)]
      refine ⟨i + 1, by omega, by omega, ?_⟩
      exact Le.pick [0] ⟨rfl, rfl, rfl, rfl, rfl, rfl, rfl, trivial⟩ rfl
  · obtain rfl : i = L.length := by omega
    refine C_le _ (Le.freezeL 7 rfl rfl) ?_
    have hWl := hW L.length (Nat.le_refl _)
    obtain ⟨hs1, hs2, hs3⟩ := notes_sim ks s
    have hcW := count_WLf ks s
    rw [hL] at hs1 hs2 hs3 hcW
    have hWe : joinL (WLf ks 0 L) = WD ks L L.length := by unfold WD; rw [List.take_length]
    rw [hWe] at hs1 hs2 hs3 hcW
    have hevl : (readS s).1.evs.length ≤ 151 := by
      have h1 := rdL_len (spl 10 s) 0 Sht.nil false
      rw [hL] at h1
      unfold readS
      rw [hL]
      have h0 : Sht.nil.evs.length = 0 := rfl
      omega
    obtain ⟨W, hWW⟩ : ∃ W, WD ks L L.length = W := ⟨_, rfl⟩
    rw [hWW] at hs1 hs2 hs3 hcW hWl ⊢
    repeat (first|refine sc rfl ?_|refine so rfl ?_|refine sb rfl ?_)
    refine O_call (Read_P s (by omega) (by omega)) (by rfl) (by rfl) (by rfl) (by rfl) (fun r hr => ?_)
    subst hr
    repeat (first|refine sc rfl ?_|refine so rfl ?_|refine sb rfl ?_)
    refine O_call (Read_P W (by omega) (by omega)) (by rfl) (by rfl) (by rfl) (by rfl) (fun r hr => ?_)
    subst hr
    have hlnl : (readS s).1.lns.length ≤ 151 := by
      have h1 := rdL_eq (spl 10 s) 0 Sht.nil false rfl
      unfold readS at hevl ⊢
      rw [← h1]; exact hevl
    generalize readS s = Y at hs1 hs2 hs3 hevl hlnl ⊢
    generalize readS W = Y2 at hs1 hs2 hs3 ⊢
    obtain ⟨x, e, a⟩ := Y
    obtain ⟨y, e2, a2⟩ := Y2
    simp only [] at hs1 hs2 hs3 hevl hlnl
    subst hs1
    obtain ⟨a1, a3, a4, a5⟩ := hs2
    obtain ⟨xk, xe, xl⟩ := x
    obtain ⟨yk, ye, yl⟩ := y
    simp only [] at a1 a3 a4 a5 hs3 hevl hlnl
    subst a1; subst a3; subst a4
    repeat (first|refine sc rfl ?_|refine so rfl ?_|refine sb rfl ?_)
    have hal : (ATL ks L.length).length = L.length := by simp [ATL]
    have hget : ∀ q : Nat, 1 ≤ q → q ≤ L.length → (ATL ks L.length).getD (q - 1) 0 = ((NN ks q : Nat) : Int) := fun q h1 h2 => by
      unfold ATL
      rw [List.getD_eq_getElem?_getD, List.getElem?_map, List.getElem?_range (by omega)]
      show ((NN ks (q - 1 + 1) : Nat) : Int) = _
      rw [show q - 1 + 1 = q by omega]
    obtain ⟨at_, hat⟩ : ∃ at_, ATL ks L.length = at_ := ⟨_, rfl⟩
    rw [hat] at hal hget ⊢
    refine C_join ⟨[(160, B false), (7, SL 1 INTc at_), (12, .bp 12 0), (14, .bp 14 0)], [.box 12 28 [U64 (yk : Nat), SL 4 Evt.c ye, SL 1 INTc xl], .box 14 28 [U64 (yk : Nat), SL 4 Evt.c ye, SL 1 INTc (xl.map fun q => ((NN ks q.toNat : Nat) : Int))]]⟩ ?_ (fun s0 hs0 => C_le _ hs0 ?_)
    · refine C_drawD rfl (by kernel_rfl) ?_
      repeat (first|refine sd rfl ?_|refine sdb rfl ?_|refine sds rfl ?_)
      refine D_case 5 rfl (fun g => by simp at g) (fun _ => ?_)
      repeat (first|refine sd rfl ?_|refine sdb rfl ?_|refine sds rfl ?_)
      refine D_case 12 rfl (fun g => by simp at g) (fun _ => ?_)
      repeat (first|refine sd rfl ?_|refine sdb rfl ?_|refine sds rfl ?_)
      refine D_call (sameEvs_c ye (by omega)) rfl rfl rfl rfl ?_
      repeat (first|refine sd rfl ?_|refine sdb rfl ?_|refine sds rfl ?_)
      refine D_case 20 rfl (fun g => by simp at g) (fun _ => ?_)
      repeat (first|refine sd rfl ?_|refine sdb rfl ?_|refine sds rfl ?_)
      refine D_case 24 rfl (fun g1 => ?_) (fun g1 => ?_) <;> simp only [pL] at g1
      · obtain ⟨b1, b2, b3⟩ := hs3 g1
        repeat (first|refine sd rfl ?_|refine sdb rfl ?_|refine sds rfl ?_)
        refine D_case 28 rfl (fun g => by exfalso; simp only [pL] at g; omega) (fun _ => ?_)
        repeat (first|refine sd rfl ?_|refine sdb rfl ?_|refine sds rfl ?_)
        refine D_case 35 rfl (fun g => by exfalso; simp only [pL] at g; omega) (fun _ => ?_)
        repeat (first|refine sd rfl ?_|refine sdb rfl ?_|refine sds rfl ?_)
        rw [w64 (x := (a : Int) - 1) (by omega) (by omega)]
        refine ⟨⟨by omega, by omega⟩, ?_⟩
        have hga := hget a b1 b2
        rw [show ((a : Int) - 1).toNat = a - 1 by omega]
        have hv : (((a2 : Nat) : Int) != at_.getD (a - 1) default) = false := by
          rw [show at_.getD (a - 1) default = ((NN ks a : Nat) : Int) from hga, b3]; simp
        repeat (first|refine sd rfl ?_|refine sdb rfl ?_|refine sds rfl ?_)
        exact Le.pick [3, 1] ⟨congrArg (fun b => some (AV.v (.bool b))) hv, rfl, rfl, rfl, trivial⟩ rfl
      · repeat (first|refine sd rfl ?_|refine sdb rfl ?_|refine sds rfl ?_)
        exact Le.pick [3, 1] ⟨rfl, rfl, rfl, rfl, trivial⟩ rfl
    repeat (first|refine sc rfl ?_|refine so rfl ?_|refine sb rfl ?_)
    refine C_false rfl rfl ?_
    repeat (first|refine sc rfl ?_|refine so rfl ?_|refine sb rfl ?_)
    refine C_loop (fun i : Nat => ⟨[(7, SL 1 INTc at_), (12, .bp 12 0), (14, .bp 14 0), (16, I64 (i : Nat))], [.box 12 28 [U64 (yk : Nat), SL 4 Evt.c ye, SL 1 INTc xl], .box 14 28 [U64 (yk : Nat), SL 4 Evt.c ye, SL 1 INTc (xl.map fun q => ((NN ks q.toNat : Nat) : Int))]]⟩) (fun i => i ≤ xl.length) (fun i => xl.length - i) 0 (Nat.zero_le _) ?_ ?_
    · exact Le.pick [0, 0] ⟨rfl, rfl, rfl, rfl, trivial⟩ rfl
    have hxl : xl.length ≤ 151 := hlnl
    intro i hi
    repeat (first|refine sc rfl ?_|refine so rfl ?_|refine sb rfl ?_)
    refine C_if rfl (fun k8 => ?_) (fun k8 => ?_) <;> simp only [pL] at k8
    · have hix : i < xl.length := by omega
      obtain ⟨q, hq⟩ : ∃ q, xl.getD i default = q := ⟨_, rfl⟩
      have hqm : q ∈ xl := by rw [← hq, List.getD_eq_getElem?_getD, List.getElem?_eq_getElem hix]; exact List.getElem_mem hix
      obtain ⟨b1, b2⟩ := a5 q hqm
      obtain ⟨m, rfl⟩ : ∃ m : Nat, q = m := ⟨q.toNat, by omega⟩
      have hyq : (xl.map fun q => ((NN ks q.toNat : Nat) : Int)).getD i default = ((NN ks m : Nat) : Int) := by
        rw [List.getD_eq_getElem?_getD, List.getElem?_map, List.getElem?_eq_getElem hix]
        rw [List.getD_eq_getElem?_getD, List.getElem?_eq_getElem hix] at hq
        show ((NN ks (xl[i]).toNat : Nat) : Int) = _
        rw [show xl[i] = (m : Int) from hq]; rfl
      have hga := hget m (by omega) (by omega)
      repeat (first|refine sc rfl ?_|refine so rfl ?_|refine sb rfl ?_)
      refine C_drawD rfl (by kernel_rfl) ?_
      repeat (first|refine sd rfl ?_|refine sdb rfl ?_|refine sds rfl ?_)
      refine D_case 5 rfl (fun g => by exfalso; simp at g; omega) (fun _ => ?_)
      repeat (first|refine sd rfl ?_|refine sdb rfl ?_|refine sds rfl ?_)
      refine ⟨by omega, ?_⟩
      simp only [Int.toNat_natCast, hq]
      repeat (first|refine sd rfl ?_|refine sdb rfl ?_|refine sds rfl ?_)
      refine D_case 13 rfl (fun g => by exfalso; simp at g; omega) (fun _ => ?_)
      repeat (first|refine sd rfl ?_|refine sdb rfl ?_|refine sds rfl ?_)
      refine ⟨by omega, ?_⟩
      simp only [Int.toNat_natCast, hq]
      repeat (first|refine sd rfl ?_|refine sdb rfl ?_|refine sds rfl ?_)
      refine D_case 23 rfl (fun g => by exfalso; simp at g; omega) (fun _ => ?_)
      repeat (first|refine sd rfl ?_|refine sdb rfl ?_|refine sds rfl ?_)
      refine ⟨by simp; omega, ?_⟩
      simp only [Int.toNat_natCast, hyq]
      repeat (first|refine sd rfl ?_|refine sdb rfl ?_|refine sds rfl ?_)
      refine ⟨by omega, ?_⟩
      simp only [Int.toNat_natCast, hq]
      repeat (first|refine sd rfl ?_|refine sdb rfl ?_|refine sds rfl ?_)
      rw [w64 (x := (m : Int) - 1) (by omega) (by omega)]
      refine ⟨⟨by omega, by omega⟩, ?_⟩
      rw [show ((m : Int) - 1).toNat = m - 1 by omega]
      have hv : (((NN ks m : Nat) : Int) != at_.getD (m - 1) default) = false := by
        rw [show at_.getD (m - 1) default = ((NN ks m : Nat) : Int) from hga]; simp
      repeat (first|refine sd rfl ?_|refine sdb rfl ?_|refine sds rfl ?_)
      refine C_false rfl hv ?_
      repeat (first|refine sc rfl ?_|refine so rfl ?_|refine sb rfl ?_)
      rw [w64 (x := (i : Int) + 1) (by omega) (by omega)]
      refine ⟨i + 1, by omega, by omega, ?_⟩
      exact Le.pick [0, 0] ⟨rfl, rfl, rfl, rfl, trivial⟩ rfl
    · repeat (first|refine sc rfl ?_|refine so rfl ?_|refine sb rfl ?_)
      refine O_callW hK [] awake50_W (by rfl) (by rfl) (by rfl) (by rfl) (by rfl) ?_
      rintro r' cs' ⟨rfl, rfl⟩
      repeat (first|refine sc rfl ?_|refine so rfl ?_|refine sb rfl ?_)
      exact ⟨_, [], _, rfl, pickA_perm (is := []) (As := []) rfl, rfl, rfl, rfl⟩
end Go.Proofs
