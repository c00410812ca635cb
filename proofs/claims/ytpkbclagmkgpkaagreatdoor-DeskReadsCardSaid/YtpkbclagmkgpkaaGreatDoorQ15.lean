/- The example of the desk. -/
import Derived.Test.YtpkbclagmkgpkaaGreatDoorQ14
import Derived.Test.YtpkbclagmkgpkaaGreatDoorQ12
import Derived.Test.YtpkbclagmkgpkaaGreatDoorQ13
set_option linter.unusedSimpArgs false
set_option linter.unusedVariables false
set_option maxRecDepth 100000
namespace Go.Proofs
open Go.Sy Go.Lib

def exS : List UInt8 := [111, 112, 101, 110, 10, 112, 105, 110, 103, 32, 48, 10, 100, 101, 108, 105, 118, 101, 114, 32, 48]
theorem readS_ex : readS exS = (⟨0, evs3, [1, 2, 3]⟩, 0, 0) := by rfl
theorem fE4_eq (i : Nat) : fE4 i = if i = 5 ∨ i = 26 then 1 else if i = 42 then 36 else 0 := by
  have h : fE4 = updC (updC (updC (fun _ => 0) 5 1) 26 1) 42 36 := by rfl
  rw [h]
  unfold updC
  by_cases h1 : i = 42
  · subst h1; rfl
  · by_cases h2 : i = 26
    · subst h2; rfl
    · by_cases h3 : i = 5
      · subst h3; rfl
      · simp [h1, h2, h3]
theorem itoa36 : Lib.itoa 36 = [51, 54] := by
  unfold Lib.itoa
  rw [if_neg (by decide), Lib.decDigits, dif_neg (by decide), Lib.decDigits, dif_pos (by decide)]
  rfl
def outB (i : Nat) : List UInt8 := match i with | 0 => [] | 1 => lnE1 | 2 => lnE1 ++ lnE2 | _ => lnE1 ++ lnE2 ++ lnE3
def exT : List UInt8 := [99, 97, 109, 101, 32, 112, 105, 110, 103, 32, 49, 10, 114, 101, 102, 117, 115, 101, 100, 32, 97, 117, 116, 104, 32, 49, 10, 98, 121, 116, 101, 115, 32, 51, 54, 10]
theorem TX_e4 : TX fE4 = exT := by
  have h1 : Lib.itoa 1 = [49] := itoa_d 1 (by decide)
  simp [TX, catL, FC, FR, FS, FT, lineF, fE4_eq, Lib.join, h1, itoa36, exT]
  rfl
theorem hf4 : ∀ i, ok8 (fE4 i) := fun i => by
  rw [fE4_eq]
  split
  · decide
  · split <;> decide
def PEx : Pl := ⟨[[], [], [], [], []], [0], [], []⟩
def CEx (b : Nat) (u : Bool) (h : Value) (b0 : Bool) : List Ch := .box 3 28 [U64 ((0 : Nat) : Int), SL 4 Evt.c evs3, SL 1 INTc [1, 2, 3]] :: (bif b0 then [] else [.abs (bldC b u h), .abs (bufA h 5 (outB 3))])
theorem Run_W : FnK 13 [.s exS] [] (fun r cs' => r = .s (lnE1 ++ lnE2 ++ lnE3 ++ exT) ∧ cs' = []) := by
  refine FnW.intro Tryz.tabOK Tryz.wide_ Tryz.func13 rfl (by decide) rfl (fun X hK => ?_)
  repeat (first | refine sc rfl ?_ | refine so rfl ?_)
  have hR := Read_P exS (by decide) (by decide)
  rw [readS_ex] at hR
  refine O_call hR (by rfl) (by rfl) (by rfl) (by rfl) (fun r hr => ?_)
  subst hr
  repeat (first | refine sc rfl ?_ | refine so rfl ?_)
  refine C_false rfl (by decide) ?_
  repeat (first | refine sc rfl ?_ | refine so rfl ?_)
  first
    | refine C_absb 5 rfl rfl rfl (fun B => ?_)
    | refine O_absb 5 rfl rfl rfl (fun B => ?_)
  first
    | refine C_le _ (Le.addAbs (bufA (.slice none 0 0) 5 []) rfl (fun _ _ => ⟨rfl, .inl ⟨rfl, rfl⟩⟩)) ?_
    | refine O_le _ (Le.addAbs (bufA (.slice none 0 0) 5 []) rfl (fun _ _ => ⟨rfl, .inl ⟨rfl, rfl⟩⟩)) ?_
  refine O_callA [] (srvNew_A 0) (by rfl) (by rfl) (by rfl) (by rfl) (by rfl) ?_
  rintro r' cs' ⟨s, mg, tm, h2, g0, c0, d0, rfl, rfl⟩
  repeat (first | refine sc rfl ?_ | refine so rfl ?_)
  refine C_loop (fun p : Par × Bool × Value => ⟨[(3, .bp 3 0), (5, PT B 0), (6, PT s 0), (29, SL 4 Evt.c evs3), (30, I64 ((3 : Nat) : Int)), (31, I64 (p.1.i : Nat))], .box 3 28 [U64 ((0 : Nat) : Int), SL 4 Evt.c evs3, SL 1 INTc [1, 2, 3]] :: .abs (bldC B p.2.1 p.2.2) :: .abs (bufA p.2.2 5 (outB p.1.i)) :: (stg s mg tm h2 p.1).map Ch.abs⟩) (fun p => p.1.i ≤ 3 ∧ 1 ≤ p.1.d ∧ HdB p.2.2 (outB p.1.i)) (fun p => 3 - p.1.i) (⟨0, 0, 0, 0, 0, 1⟩, false, .slice none 0 0) ⟨Nat.zero_le _, Nat.le_refl _, .inl ⟨rfl, rfl⟩⟩ ?_ ?_
  · exact Le.pick [9, 7, 6, 0, 0] ⟨rfl, rfl, rfl, rfl, rfl, rfl, trivial⟩ rfl
  rintro ⟨⟨i, g, cc, b, h, d⟩, u, hv⟩ ⟨hi, hd, hH⟩
  simp only [] at hi hd hH ⊢
  repeat (first | refine sc rfl ?_ | refine so rfl ?_)
  refine C_if rfl (fun k1 => ?_) (fun k1 => ?_) <;> simp only [pL] at k1
  · have hil : i = 0 ∨ i = 1 ∨ i = 2 := by omega
    rcases hil with rfl | rfl | rfl
    · repeat (first | refine sc rfl ?_ | refine so rfl ?_)
      refine ⟨by decide, ?_⟩
      repeat refine so rfl ?_
      refine C_drawU 20 8 rfl (by kernel_rfl) (by kernel_rfl) (by kernel_rfl) ?_
      repeat refine sd rfl ?_
      refine ⟨by decide, ?_⟩
      repeat refine sd rfl ?_
      refine D_callW hK (itoaE 1 [49] (itoa_d 1 (by decide)) (by decide) (by decide)) rfl rfl rfl rfl ?_
      repeat refine sd rfl ?_
      repeat refine sc rfl ?_
      refine O_callW hK [4] (evOpen_W s mg tm 0) (by rfl) (by rfl) (by rfl) (by rfl) (by rfl) ?_
      rintro r' cs' ⟨g, cc, b, rfl, rfl⟩
      repeat refine sc rfl ?_
      refine O_callA [5, 5] (WriteString_A B u hv (outB 0) lnE1 hH (by decide)) (by rfl) (by rfl) (by rfl) (by rfl) (by rfl) ?_
      rintro r' cs' ⟨rfl, h', hH', rfl⟩
      repeat (first | refine sc rfl ?_ | refine so rfl ?_)
      refine ⟨(⟨1, g, cc, b, 0, 1⟩, true, h'), ⟨by show 1 ≤ 3; decide, Nat.le_refl _, hH'⟩, by show 3 - 1 < 3 - 0; decide, ?_⟩
      exact Le.pick [6, 0, 0, 0, 0, 0, 1] ⟨rfl, rfl, rfl, rfl, rfl, rfl, trivial⟩ rfl
    · repeat (first | refine sc rfl ?_ | refine so rfl ?_)
      refine ⟨by decide, ?_⟩
      repeat refine so rfl ?_
      refine C_drawU 20 8 rfl (by kernel_rfl) (by kernel_rfl) (by kernel_rfl) ?_
      repeat refine sd rfl ?_
      refine ⟨by decide, ?_⟩
      repeat refine sd rfl ?_
      refine D_callW hK (itoaE 2 [50] (itoa_d 2 (by decide)) (by decide) (by decide)) rfl rfl rfl rfl ?_
      repeat refine sd rfl ?_
      repeat refine sc rfl ?_
      refine O_callW hK [4, 4, 4] (evRecv_W s mg tm 0 g cc b) (by rfl) (by rfl) (by rfl) (by rfl) (by rfl) ?_
      rintro r' cs' ⟨h, d, hd, rfl, rfl⟩
      repeat refine sc rfl ?_
      refine O_callA [6, 6] (WriteString_A B u hv (outB 1) lnE2 hH (by decide)) (by rfl) (by rfl) (by rfl) (by rfl) (by rfl) ?_
      rintro r' cs' ⟨rfl, h', hH', rfl⟩
      repeat (first | refine sc rfl ?_ | refine so rfl ?_)
      rw [rb_eq]
      refine ⟨(⟨2, g, cc, b, h, d⟩, true, h'), ⟨by show 2 ≤ 3; decide, hd, hH'⟩, by show 3 - 2 < 3 - 1; decide, ?_⟩
      exact Le.pick [7, 0, 0, 0, 0, 0, 0, 1] ⟨rfl, rfl, rfl, rfl, rfl, rfl, trivial⟩ rfl
    · repeat (first | refine sc rfl ?_ | refine so rfl ?_)
      refine ⟨by decide, ?_⟩
      repeat refine so rfl ?_
      refine C_drawU 20 8 rfl (by kernel_rfl) (by kernel_rfl) (by kernel_rfl) ?_
      repeat refine sd rfl ?_
      refine ⟨by decide, ?_⟩
      repeat refine sd rfl ?_
      refine D_callW hK (itoaE 3 [51] (itoa_d 3 (by decide)) (by decide) (by decide)) rfl rfl rfl rfl ?_
      repeat refine sd rfl ?_
      repeat refine sc rfl ?_
      refine O_callW hK [4, 4, 4, 4, 4] (evDeliv_W s mg tm 0 g cc b h2 h d hd) (by rfl) (by rfl) (by rfl) (by rfl) (by rfl) ?_
      rintro r' cs' ⟨rfl, rfl⟩
      repeat refine sc rfl ?_
      refine O_callA [2, 2] (WriteString_A B u hv (outB 2) lnE3 hH (by decide)) (by rfl) (by rfl) (by rfl) (by rfl) (by rfl) ?_
      rintro r' cs' ⟨rfl, h', hH', rfl⟩
      repeat (first | refine sc rfl ?_ | refine so rfl ?_)
      refine ⟨(⟨3, 0, 0, 0, 0, 1⟩, true, h'), ⟨by show 3 ≤ 3; decide, Nat.le_refl _, hH'⟩, by show 3 - 3 < 3 - 2; decide, ?_⟩
      exact Le.pick [3, 0, 0] ⟨rfl, rfl, rfl, rfl, rfl, rfl, trivial⟩ rfl
  · obtain rfl : i = 3 := by omega
    repeat refine sc rfl ?_
    refine C_drawMT PEx 20 5 (fun L => CEx B u hv (L 0)) rfl (by kernel_rfl) (by kernel_rfl) (by kernel_rfl) (by kernel_rfl) (fun L L' h => by show CEx B u hv (L 0) = CEx B u hv (L' 0); rw [h 0 (by decide)]) rfl ?_
    refine SM (.s (outB 3)) rfl (fun L h1 h2 h3 => ?_) ?_
    · show StepX _ _ _ _ _ (CEx B u hv (L 0)) (CEx B u hv true) _ _ _
      rw [show L 0 = false from h3]
      exact X_callA [1, 1] (String_A B u hv _ hH) rfl rfl rfl rfl rfl
    refine sm rfl ⟨trivial, ?_⟩
    refine SM (U64 ((0 : Nat) : Int)) rfl (fun L h1 h2 h3 => ?_) ?_
    · show StepX _ _ _ _ _ (CEx B u hv (L 0)) (CEx B u hv (L 0)) _ _ _
      exact X_stillX rfl rfl rfl trivial
    refine sm rfl ⟨trivial, ?_⟩
    refine SM (SL 4 Evt.c evs3) rfl (fun L h1 h2 h3 => ?_) ?_
    · show StepX _ _ _ _ _ (CEx B u hv (L 0)) (CEx B u hv (L 0)) _ _ _
      exact X_stillX rfl rfl rfl trivial
    refine sm rfl ?_
    refine O_callA [] tallyOf3_A (by rfl) (by rfl) (by rfl) (by rfl) (by rfl) ?_
    rintro r' cs' ⟨t, rfl, rfl⟩
    repeat refine sc rfl ?_
    refine O_callW hK [0] (text_W t fE4 hf4) (by rfl) (by rfl) (by rfl) (by rfl) (by rfl) ?_
    rintro r' cs' ⟨rfl, rfl⟩
    rw [TX_e4]
    repeat refine so rfl ?_
    refine ⟨by decide, ?_⟩
    repeat (first | refine sc rfl ?_ | refine so rfl ?_)
    exact ⟨_, [], _, rfl, pickA_perm (is := []) (As := []) rfl, rfl, rfl, rfl⟩
theorem awake50_W : FnK 7 [] [] (fun r cs' => r = B true ∧ cs' = []) := by
  refine FnW.intro Tryz.tabOK Tryz.wide_ Tryz.func7 rfl (by decide) rfl (fun X hK => ?_)
  repeat (first | refine sc rfl ?_ | refine so rfl ?_)
  refine O_callW hK [] Run_W (by rfl) (by rfl) (by rfl) (by rfl) (by rfl) ?_
  rintro r' cs' ⟨rfl, rfl⟩
  repeat (first | refine sc rfl ?_ | refine so rfl ?_)
  exact ⟨_, [], _, rfl, pickA_perm (is := []) (As := []) rfl, rfl, by rfl, rfl⟩
end Go.Proofs

namespace Go.Proofs
open Go.Sy Go.Lib

def stL (i : Nat) (x : Sht) (k : Bool) (l : List UInt8) : Sht × Bool × Int := match wordsF l with
  | [] => (x, k, 0)
  | w :: ws => if w.head? = some 35 then (x, k, 0)
    else ((addF x ((i + 1 : Nat) : Int) k (w :: ws, false)).1, k || (w == [107, 101, 121]), (addF x ((i + 1 : Nat) : Int) k (w :: ws, false)).2)
theorem rdL_cons (i : Nat) (x : Sht) (k : Bool) (l : List UInt8) (r : List (List UInt8)) :
    rdL i x k (l :: r) = if (stL i x k l).2.2 ≠ 0 then (Sht.nil, (stL i x k l).2.2, i + 1) else rdL (i + 1) (stL i x k l).1 (stL i x k l).2.1 r := by
  unfold stL
  rw [rdL]
  cases wordsF l with
  | nil => simp
  | cons w ws =>
    simp only []
    split
    · simp
    · rfl
theorem addF_eq (x : Sht) (n : Int) (k : Bool) (q : Cu) (h : x.evs.length = x.lns.length) : (addF x n k q).1.evs.length = (addF x n k q).1.lns.length := by
  unfold addF
  split
  · split <;> exact h
  · split
    · exact h
    · split
      · exact h
      · simp [h]
theorem stL_eq (i : Nat) (x : Sht) (k : Bool) (l : List UInt8) (h : x.evs.length = x.lns.length) : (stL i x k l).1.evs.length = (stL i x k l).1.lns.length := by
  unfold stL
  split
  · exact h
  · split
    · exact h
    · exact addF_eq _ _ _ _ h
theorem rdL_eq : ∀ (L : List (List UInt8)) (i : Nat) (x : Sht) (k : Bool), x.evs.length = x.lns.length → (rdL i x k L).1.evs.length = (rdL i x k L).1.lns.length
  | [], _, _, _, h => h
  | l :: r, i, x, k, h => by
    rw [rdL_cons]
    split
    · rfl
    · exact rdL_eq r _ _ _ (stL_eq _ _ _ _ h)
end Go.Proofs

namespace Go.Proofs
open Go.Sy Go.Lib

theorem much_le {s : List UInt8} (h : muchF s = false) : s.length ≤ 9000 ∧ s.count 10 ≤ 150 := by
  unfold muchF at h
  simp only [decide_eq_false_iff_not, not_or, Nat.not_lt] at h
  exact h
theorem sum_take : ∀ (l : List Nat) (i : Nat), (l.take i).sum ≤ l.sum
  | [], i => by simp
  | a :: l, 0 => by simp
  | a :: l, i + 1 => by
    have := sum_take l i
    simp only [List.take_succ_cons, List.sum_cons]; omega
def fltV (e a : Int) : Array Value := #[.int .i64 e, .int .i64 a]
theorem rep_flt (e1 a : Int) (e : Env) (ys : List Value) (h : RepL e [I64 e1, I64 a] ys) : ys = (fltV e1 a).toList := by
  simp only [RepL, Rep] at h
  obtain ⟨z1, t1, rfl, rfl, _, z2, t2, rfl, rfl, _, rfl⟩ := h
  rfl
theorem eq_flt (e a : Int) (w : World) : (Op.equalIn 10000 31 (.agg (fltV e a)) (.agg (fltV e a))).run Tryz.prog w = .ok true w := by
  rw [run_equalIn_struct w 9999 31 _ _ Tryz.underlying31 Tryz.stoodInHeld31]
  unfold Program.fieldsOf
  rw [Tryz.underlying31]
  have p0 : (part 29 (fltV e a) 0).run Tryz.prog w = .ok (.int .i64 e) w := by simp [part, isAgg, run_underlying Tryz.underlying29, fltV]
  have p1 : (part 3 (fltV e a) 1).run Tryz.prog w = .ok (.int .i64 a) w := by simp [part, isAgg, run_underlying Tryz.underlying3, fltV]
  have e0 : ∀ k, (Op.equalIn 9999 29 (.int .i64 k) (.int .i64 k)).run Tryz.prog w = .ok true w := fun k => by rw [run_equalIn_int w 9998 29 .i64 .i64 _ _ Tryz.underlying29]; simp
  have e1 : ∀ k, (Op.equalIn 9999 3 (.int .i64 k) (.int .i64 k)).run Tryz.prog w = .ok true w := fun k => by rw [run_equalIn_int w 9998 3 .i64 .i64 _ _ Tryz.underlying3]; simp
  simp only [Op.eqFields]
  rw [if_pos (by decide), if_pos (by decide)]
  simp [Sem.run_bind, p0, p1, e0, e1]
end Go.Proofs

namespace Go.Proofs
open Go.Sy Go.Lib

section
variable {P : Program} {T : Tab} {X : Ctx P T} {n : Nat} {ops : Array Oper} {K : St → Prop}
theorem O_pushV {α : Type} [Inhabited α] (cells : α → List AV) (l : List α) (x : α) (q : Nat) {dst : Nat} {so_ xo : Operand} {t ty : TypeId} {pos : String} {aft : Array Edge} {rest : List Oper} {s : List (Nat × AV)} {c cr : List Ch} {h : Value} {el esz m : Nat} {row row2 : Nat → List AV} {by_ : Nat} {sz0 b0 : Nat} {ag0 ag1 : Bool} {z0 z1 : List Value} {d1 : TD}
    (hTs : T t = some ⟨sz0, b0, ag0, z0, .slice el⟩) (hTe : T el = some ⟨esz, by_, ag1, z1, d1⟩) (hpos : Nat.blt 0 esz = true)
    (hso : opd s so_ = some (.v h)) (hp : nthA q c = some (vecA h el esz m row, cr)) (hm : m = l.length) (hrow : row = fun i => cells (l.getD i default)) (hxo : opd s xo = some (.sl 1 esz row2)) (hx : row2 0 = cells x) (hxl : (cells x).length = esz)
    (hd : Nat.blt dst n = true) (hlen : (l.length + 1) * by_ ≤ 140737488355328) (hlen2 : l.length + 1 ≤ maxLen)
    (k : ∀ v', HV v' (l.length + 1) → SymO X n ops rest ⟨(dst, .v v') :: s, .abs (vecA v' el esz (l.length + 1) (fun i => cells ((l ++ [x]).getD i default))) :: cr⟩ K) :
    SymO X n ops (⟨some dst, .call ⟨.builtin .append, #[so_, xo], #[t, t]⟩, ty, pos, aft, none⟩ :: rest) ⟨s, c⟩ K := by
  subst hm; subst hrow
  refine O_appendV q (m := l.length) (m2 := 1) (m3 := l.length + 1) (row3 := fun i => cells ((l ++ [x]).getD i default)) hTs hTe hpos hso hp hxo (fun i hi => ?_) hd hlen hlen2 rfl (fun i hi => ?_) k
  · obtain rfl : i = 0 := by omega
    rw [hx]; exact hxl
  · unfold appRow
    by_cases h : i < l.length
    · rw [if_pos h]
      simp only [getD_snoc_lt h]
    · rw [if_neg h]
      obtain rfl : i = l.length := by omega
      rw [Nat.sub_self, hx]
      simp only [getD_snoc_eq]
end
abbrev u64c (m : Nat) : List AV := [U64 (m : Nat)]
abbrev vN (h : Value) (A : List Nat) (m : Nat) : Abs := vecA h 24 1 m (fun i => u64c (A.getD i default))
abbrev vS (h : Value) (A : List (List UInt8)) (m : Nat) : Abs := vecA h 9 1 m (fun i => wc1 (A.getD i default))
def rawT (c : UInt8) (w : List UInt8) : Nat × List UInt8 × Bool :=
  if c = 70 then (0, (rBytF w).1, (rBytF w).2) else if c = 83 then (0, w, true) else ((rNumF w).1, w, (rNumF w).2 && decide ((rNumF w).1 ≤ mostF c))
def take1 (c : UInt8) (w : List UInt8) : Option (Nat × List UInt8) := if (rawT c w).2.2 = true then some ((rawT c w).1, (rawT c w).2.1) else none
def takeL : List UInt8 → List (List UInt8) → List Nat × List (List UInt8) × Bool
  | [], l => ([], [], l.isEmpty)
  | c :: r, l => if c = 84 then ([0], [Lib.join l [32]], true) else match l with
    | [] => ([], [], false)
    | w :: ws => match take1 c w with
      | none => ([], [], false)
      | some (n, s) => (n :: (takeL r ws).1, s :: (takeL r ws).2.1, (takeL r ws).2.2)
theorem rawT_len (c : UInt8) (w : List UInt8) (h : w.length ≤ 1000000) : (rawT c w).2.1.length ≤ 1000000 := by
  unfold rawT
  split
  · show (rBytF w).1.length ≤ 1000000
    unfold rBytF
    split
    · exact Nat.zero_le _
    · split
      · exact Nat.zero_le _
      · cases e : hexL w with
        | none => exact Nat.zero_le _
        | some a => exact Nat.le_trans (hexL_len w.length w a (Nat.le_refl _) e) h
  · split
    · exact h
    · exact h
theorem join_snoc (w : List UInt8) : ∀ A : List (List UInt8), A ≠ [] → Lib.join (A ++ [w]) [32] = Lib.join A [32] ++ [32] ++ w
  | [], h => absurd rfl h
  | [x], _ => by simp [Lib.join]
  | x :: y :: r, _ => by
    have ih := join_snoc w (y :: r) (by simp)
    simp [Lib.join] at ih ⊢
    rw [ih]
theorem sum_dt (l : List Nat) (i n : Nat) : ((l.drop i).take n).sum ≤ l.sum := by
  have h1 := sum_take (l.drop i) n
  have h2 : (l.drop i).sum ≤ l.sum := by
    have := List.take_append_drop i l
    conv => rhs; rw [← this]
    rw [List.sum_append]; omega
  omega
def TkP (R : List Nat × List (List UInt8) × Bool) (r : AV) (cs' : List Abs) : Prop := ∃ h1 h2, HV h1 R.1.length ∧ HV h2 R.2.1.length ∧ r = .tup [.agg [.v h1, .v h2], B R.2.2] ∧ cs' = [vN h1 R.1 R.1.length, vS h2 R.2.1 R.2.1.length]
theorem rTake_A (sh : List UInt8) (l : List (List UInt8)) (hsh : sh.length ≤ 1000) (hl : l.length ≤ 1000000) (hw : ∀ w ∈ l, w.length ≤ 1000000) (hj : (l.map fun w => w.length + 1).sum ≤ 1000000) : FnA Tryz.prog 35 [.s sh, SL 1 wc1 l] [] (TkP (takeL sh l)) := by
  refine FnA.intro Tryz.tabOK Tryz.wide_ Tryz.func35 rfl (by decide) rfl (fun X => ?_)
  obtain ⟨R0, hR0⟩ : ∃ R0, takeL sh l = R0 := ⟨_, rfl⟩
  rw [hR0]
  repeat (first | refine sc rfl ?_ | refine so rfl ?_)
  refine C_le _ (Le.addAbs (vN (.slice none 0 0) [] 0) rfl (fun _ _ => ⟨[], ⟨rfl, .inl ⟨rfl, rfl⟩⟩, fun i hi => absurd hi (Nat.not_lt_zero _)⟩)) ?_
  refine C_le _ (Le.addAbs (vS (.slice none 0 0) [] 0) rfl (fun _ _ => ⟨[], ⟨rfl, .inl ⟨rfl, rfl⟩⟩, fun i hi => absurd hi (Nat.not_lt_zero _)⟩)) ?_
  refine C_loop (fun q : Nat × List Nat × List (List UInt8) × Value × Value => ⟨[(0, .s sh), (1, SL 1 wc1 l), (4, .bp 4 0), (6, .bp 6 0), (7, I64 (q.1 : Nat))], [.box 4 79 [.v (.slice none 0 0), .v (.slice none 0 0)], .box 6 79 [.v q.2.2.2.1, .v q.2.2.2.2], .abs (vN q.2.2.2.1 q.2.1 q.1), .abs (vS q.2.2.2.2 q.2.2.1 q.1)]⟩)
    (fun q => q.1 ≤ sh.length ∧ q.1 ≤ l.length ∧ q.2.1.length = q.1 ∧ q.2.2.1.length = q.1 ∧ HV q.2.2.2.1 q.1 ∧ HV q.2.2.2.2 q.1 ∧ R0 = (q.2.1 ++ (takeL (sh.drop q.1) (l.drop q.1)).1, q.2.2.1 ++ (takeL (sh.drop q.1) (l.drop q.1)).2.1, (takeL (sh.drop q.1) (l.drop q.1)).2.2)) (fun q => sh.length - q.1) (0, [], [], .slice none 0 0, .slice none 0 0)
    ⟨Nat.zero_le _, Nat.zero_le _, rfl, rfl, .inl ⟨rfl, rfl⟩, .inl ⟨rfl, rfl⟩, by simp [← hR0]⟩ ?_ ?_
  · exact Le.pick [3, 2, 1, 0] ⟨rfl, rfl, rfl, rfl, rfl, trivial⟩ rfl
  rintro ⟨i, aN, aS, h1, h2⟩ ⟨g1, g2, g3, g4, g5, g6, g7⟩
  simp only [] at g1 g2 g3 g4 g5 g6 g7
  repeat (first | refine sc rfl ?_ | refine so rfl ?_)
  refine C_if rfl (fun m1 => ?_) (fun m1 => ?_) <;> simp only [pL] at m1
  · have hi : i < sh.length := by omega
    obtain ⟨x, hxe⟩ : ∃ x, sh.getD i 0 = x := ⟨_, rfl⟩
    have hxg : sh[i] = x := by rw [← hxe, List.getD_eq_getElem?_getD, List.getElem?_eq_getElem hi]; rfl
    have hdr : sh.drop i = x :: sh.drop (i + 1) := by rw [List.drop_eq_getElem_cons hi, hxg]
    rw [hdr] at g7
    have hxc : ∀ c : UInt8, ((x.toNat : Nat) : Int) = ((c.toNat : Nat) : Int) → x = c := fun c h => UInt8.toNat_inj.1 (by omega)
    repeat (first | refine sc rfl ?_ | refine so rfl ?_)
    refine ⟨⟨by show (0 : Int) ≤ ((i : Nat) : Int); omega, by show ((i : Nat) : Int) < ((sh.length : Nat) : Int); omega⟩, ?_⟩
    simp only [Int.toNat_natCast, hxe]
    repeat refine so rfl ?_
    refine C_if rfl (fun m2 => ?_) (fun m2 => ?_) <;> simp only [pL] at m2
    · obtain rfl := hxc 84 m2
      unfold takeL at g7
      rw [if_pos rfl] at g7
      simp only [] at g7
      repeat (first | refine sc rfl ?_ | refine so rfl ?_)
      refine C_loop (fun k : Nat => ⟨[(0, .s sh), (1, SL 1 wc1 l), (4, .bp 4 0), (6, .bp 6 0), (7, I64 (i : Nat)), (8, .s (Lib.join ((l.drop i).take k) [32])), (9, I64 ((i + k : Nat) : Int))], [.box 4 79 [.v (.slice none 0 0), .v (.slice none 0 0)], .box 6 79 [.v h1, .v h2], .abs (vN h1 aN i), .abs (vS h2 aS i)]⟩) (fun k => i + k ≤ l.length) (fun k => l.length - (i + k)) 0 g2 ?_ ?_
      · exact Le.pick [0, 0, 0, 0] ⟨rfl, rfl, rfl, rfl, rfl, rfl, rfl, trivial⟩ rfl
      intro k hk
      have hjl : ∀ k, (Lib.join ((l.drop i).take k) [32]).length ≤ 1000000 := fun k => by
        have a1 := join_len ((l.drop i).take k)
        have a2 := sum_dt (l.map fun w => w.length + 1) i k
        rw [← List.map_drop, ← List.map_take] at a2
        omega
      repeat (first | refine sc rfl ?_ | refine so rfl ?_)
      refine C_if rfl (fun m3 => ?_) (fun m3 => ?_) <;> simp only [pL] at m3
      · have hkl : i + k < l.length := by omega
        obtain ⟨w, hwe⟩ : ∃ w, l.getD (i + k) default = w := ⟨_, rfl⟩
        have hwg : l[i + k] = w := by rw [← hwe, List.getD_eq_getElem?_getD, List.getElem?_eq_getElem hkl]; rfl
        have htk : (l.drop i).take (k + 1) = (l.drop i).take k ++ [w] := by
          rw [List.take_succ_eq_append_getElem (by rw [List.length_drop]; omega), List.getElem_drop, hwg]
        have hj1 := hjl (k + 1)
        repeat (first | refine sc rfl ?_ | refine so rfl ?_)
        refine C_ifJ ⟨[(0, .s sh), (1, SL 1 wc1 l), (4, .bp 4 0), (6, .bp 6 0), (7, I64 (i : Nat)), (8, .s (if k = 0 then [] else Lib.join ((l.drop i).take k) [32] ++ [32])), (9, I64 ((i + k : Nat) : Int))], [.box 4 79 [.v (.slice none 0 0), .v (.slice none 0 0)], .box 6 79 [.v h1, .v h2], .abs (vN h1 aN i), .abs (vS h2 aS i)]⟩ rfl (fun k4 => ?_) (fun k4 => ?_) (fun s0 hs0 => C_le _ hs0 ?_) <;> try simp only [pL] at k4
        · have hk0 : ¬ k = 0 := by
            have : ((i : Nat) : Int) < ((i + k : Nat) : Int) := k4
            omega
          have hjk := hjl k
          rw [if_neg hk0]
          repeat (first | refine sc rfl ?_ | refine so rfl ?_)
          refine ⟨by simp only [List.length_cons, List.length_nil]; omega, ?_⟩
          repeat refine so rfl ?_
          exact Le.pick [0, 0, 0, 0] ⟨rfl, rfl, rfl, rfl, rfl, rfl, rfl, trivial⟩ rfl
        · have hk0 : k = 0 := by
            have : ¬ ((i : Nat) : Int) < ((i + k : Nat) : Int) := k4
            omega
          rw [if_pos hk0]
          subst hk0
          repeat refine sc rfl ?_
          exact Le.pick [0, 0, 0, 0] ⟨rfl, rfl, rfl, rfl, rfl, rfl, rfl, trivial⟩ rfl
        have hjs : Lib.join ((l.drop i).take (k + 1)) [32] = (if k = 0 then [] else Lib.join ((l.drop i).take k) [32] ++ [32]) ++ w := by
          rw [htk]
          by_cases hk0 : k = 0
          · subst hk0
            simp [Lib.join]
          · rw [if_neg hk0, join_snoc w _ (by intro e; have := congrArg List.length e; rw [List.length_take, List.length_drop, List.length_nil] at this; omega)]
        rw [hjs, List.length_append] at hj1
        repeat (first | refine sc rfl ?_ | refine so rfl ?_)
        refine ⟨by omega, ?_⟩
        simp only [Int.toNat_natCast, hwe]
        repeat refine so rfl ?_
        refine ⟨by omega, ?_⟩
        repeat (first | refine sc rfl ?_ | refine so rfl ?_)
        rw [w64 (x := ((i + k : Nat) : Int) + 1) (by omega) (by omega), ← hjs]
        exact ⟨k + 1, by omega, by omega, Le.pick [0, 0, 0, 0] ⟨rfl, rfl, rfl, rfl, rfl, rfl, rfl, trivial⟩ rfl⟩
      · obtain rfl : k = l.length - i := by omega
        rw [List.take_of_length_le (by rw [List.length_drop]; exact Nat.le_refl _)]
        repeat (first|refine sc rfl ?_|refine so rfl ?_|refine sb rfl ?_)
        refine O_le _ (Le.freeze 43 rfl rfl) ?_
        refine O_pushV u64c aN 0 2 rfl rfl rfl rfl rfl g3.symm rfl rfl rfl rfl rfl (by omega) (by simp only [maxLen]; omega) (fun v1 hv1 => ?_)
        rcases hv1 with ⟨hv0, _⟩ | ⟨gg1, cc1, rfl⟩
        · omega
        repeat (first|refine sc rfl ?_|refine so rfl ?_|refine sb rfl ?_)
        refine O_le _ (Le.freeze 49 rfl rfl) ?_
        refine O_pushV wc1 aS (Lib.join (l.drop i) [32]) 3 rfl rfl rfl rfl rfl g4.symm rfl rfl rfl rfl rfl (by omega) (by simp only [maxLen]; omega) (fun v2 hv2 => ?_)
        rcases hv2 with ⟨hv0, _⟩ | ⟨gg2, cc2, rfl⟩
        · omega
        subst g7
        repeat (first | refine sc rfl ?_ | refine so rfl ?_)
        have hfin : TkP (aN ++ [0], aS ++ [Lib.join (l.drop i) [32]], true) (.tup [.agg [.v (HD gg1 (aN.length + 1) cc1), .v (HD gg2 (aS.length + 1) cc2)], B true]) [vN (HD gg1 (aN.length + 1) cc1) (aN ++ [0]) (aN.length + 1), vS (HD gg2 (aS.length + 1) cc2) (aS ++ [Lib.join (l.drop i) [32]]) (aS.length + 1)] :=
          ⟨_, _, .inr ⟨gg1, cc1, by simp⟩, .inr ⟨gg2, cc2, by simp⟩, rfl, by simp⟩
        exact ⟨_, [_, _], _, rfl, pickA_perm (is := [3, 2]) (As := [_, _]) rfl, rfl, hfin⟩
    · have hx84 : x ≠ 84 := fun e => m2 (by rw [e]; rfl)
      unfold takeL at g7
      rw [if_neg hx84] at g7
      repeat (first | refine sc rfl ?_ | refine so rfl ?_)
      refine C_if rfl (fun m3 => ?_) (fun m3 => ?_) <;> simp only [pL] at m3
      · have hil : l.length ≤ i := by
          have : ((l.length : Nat) : Int) ≤ ((i : Nat) : Int) := m3
          omega
        rw [List.drop_eq_nil_of_le hil] at g7
        simp only [List.append_nil] at g7
        subst g7
        repeat (first | refine sc rfl ?_ | refine so rfl ?_)
        refine ⟨_, [vN h1 aN i, vS h2 aS i], _, rfl, pickA_perm (is := [2, 2]) (As := [_, _]) rfl, rfl, h1, h2, by rw [g3]; exact g5, by rw [g4]; exact g6, rfl, by simp only [g3, g4]⟩
      have hil : i < l.length := by
        have : ¬ ((l.length : Nat) : Int) ≤ ((i : Nat) : Int) := m3
        omega
      obtain ⟨w, hwe⟩ : ∃ w, l.getD i default = w := ⟨_, rfl⟩
      have hwg : l[i] = w := by rw [← hwe, List.getD_eq_getElem?_getD, List.getElem?_eq_getElem hil]; rfl
      have hwm : w ∈ l := by rw [← hwg]; exact List.getElem_mem hil
      have hwl := hw w hwm
      rw [List.drop_eq_getElem_cons hil, hwg] at g7
      simp only [] at g7
      repeat (first | refine sc rfl ?_ | refine so rfl ?_)
      refine ⟨⟨by show (0 : Int) ≤ ((i : Nat) : Int); omega, by show ((i : Nat) : Int) < ((l.length : Nat) : Int); omega⟩, ?_⟩
      simp only [Int.toNat_natCast, hwe]
      repeat (first | refine sc rfl ?_ | refine so rfl ?_)
      have hix : (0 : Int) ≤ ((i : Nat) : Int) ∧ ((i : Nat) : Int) < ((sh.length : Nat) : Int) := by omega
      refine ⟨hix, ?_⟩
      simp only [Int.toNat_natCast, hxe]
      repeat refine so rfl ?_
      have hil2 : (0 : Int) ≤ ((i : Nat) : Int) ∧ ((i : Nat) : Int) < ((l.length : Nat) : Int) := by omega
      refine C_ifJ ⟨[(0, .s sh), (1, SL 1 wc1 l), (4, .bp 4 0), (6, .bp 6 0), (7, I64 (i : Nat)), (10, U64 ((rawT x w).1 : Nat)), (11, .s (rawT x w).2.1), (12, B (rawT x w).2.2)], [.box 4 79 [.v (.slice none 0 0), .v (.slice none 0 0)], .box 6 79 [.v h1, .v h2], .abs (vN h1 aN i), .abs (vS h2 aS i)]⟩ rfl (fun m4 => ?_) (fun m4 => ?_) (fun s0 hs0 => C_le _ hs0 ?_) <;> try simp only [pL] at m4
      · have hx70 := hxc 70 m4
        unfold rawT
        rw [if_pos hx70]
        repeat (first | refine sc rfl ?_ | refine so rfl ?_)
        refine ⟨hil2, ?_⟩
        simp only [Int.toNat_natCast, hwe]
        repeat refine so rfl ?_
        refine O_call (rByt_c w hwl) (by rfl) (by rfl) (by rfl) (by rfl) (fun r hr => ?_)
        subst hr
        repeat refine so rfl ?_
        exact Le.pick [0, 0, 0, 0] ⟨rfl, rfl, rfl, rfl, rfl, rfl, rfl, rfl, trivial⟩ rfl
      · have hx70 : x ≠ 70 := fun e => m4 (by rw [e]; rfl)
        unfold rawT
        rw [if_neg hx70]
        repeat (first | refine sc rfl ?_ | refine so rfl ?_)
        refine ⟨hix, ?_⟩
        simp only [Int.toNat_natCast, hxe]
        repeat refine so rfl ?_
        refine C_if rfl (fun m5 => ?_) (fun m5 => ?_) <;> simp only [pL] at m5
        · have hx83 : x ≠ 83 := fun e => m5 (by rw [e]; rfl)
          rw [if_neg hx83]
          repeat (first | refine sc rfl ?_ | refine so rfl ?_)
          refine ⟨hil2, ?_⟩
          simp only [Int.toNat_natCast, hwe]
          repeat refine so rfl ?_
          refine O_call (rNumber_c w hwl) (by rfl) (by rfl) (by rfl) (by rfl) (fun r hr => ?_)
          subst hr
          repeat (first | refine sc rfl ?_ | refine so rfl ?_)
          generalize rNumF w = Nw
          obtain ⟨nn, okn⟩ := Nw
          cases okn with
          | false =>
            repeat refine so rfl ?_
            exact Le.pick [0, 0, 0, 0] ⟨rfl, rfl, rfl, rfl, rfl, rfl, rfl, rfl, trivial⟩ rfl
          | true =>
            repeat refine so rfl ?_
            refine ⟨hix, ?_⟩
            simp only [Int.toNat_natCast, hxe]
            repeat refine sc rfl ?_
            refine O_call (rMost_c x) (by rfl) (by rfl) (by rfl) (by rfl) (fun r hr => ?_)
            subst hr
            repeat refine so rfl ?_
            have hle : (true && decide (nn ≤ mostF x)) = decide (((nn : Nat) : Int) ≤ ((mostF x : Nat) : Int)) := by
              simp only [Bool.true_and, Int.ofNat_le]
            rw [hle]
            exact Le.pick [0, 0, 0, 0] ⟨rfl, rfl, rfl, rfl, rfl, rfl, rfl, rfl, trivial⟩ rfl
        · have hx83 := hxc 83 m5
          rw [if_pos hx83]
          repeat refine sc rfl ?_
          exact Le.pick [0, 0, 0, 0] ⟨rfl, rfl, rfl, rfl, rfl, rfl, rfl, rfl, trivial⟩ rfl
      have hrl : (rawT x w).2.1.length ≤ 1000000 := rawT_len x w hwl
      unfold take1 at g7
      generalize rawT x w = Rw at g7 hrl ⊢
      obtain ⟨n, z, ok⟩ := Rw
      simp only [] at g7 hrl
      cases ok with
      | false =>
        simp only [Bool.false_eq_true, if_false, List.append_nil] at g7
        subst g7
        repeat (first | refine sc rfl ?_ | refine so rfl ?_)
        refine C_true rfl rfl ?_
        repeat (first | refine sc rfl ?_ | refine so rfl ?_)
        refine ⟨_, [vN h1 aN i, vS h2 aS i], _, rfl, pickA_perm (is := [2, 2]) (As := [_, _]) rfl, rfl, h1, h2, by rw [g3]; exact g5, by rw [g4]; exact g6, rfl, by simp only [g3, g4]⟩
      | true =>
        simp only [if_true] at g7
        repeat (first | refine sc rfl ?_ | refine so rfl ?_)
        refine C_false rfl rfl ?_
        repeat (first|refine sc rfl ?_|refine so rfl ?_|refine sb rfl ?_)
        refine O_le _ (Le.freeze 101 rfl rfl) ?_
        refine O_pushV u64c aN n 2 rfl rfl rfl rfl rfl g3.symm rfl rfl rfl rfl rfl (by omega) (by simp only [maxLen]; omega) (fun v1 hv1 => ?_)
        rcases hv1 with ⟨hv0, _⟩ | ⟨gg1, cc1, rfl⟩
        · omega
        repeat (first|refine sc rfl ?_|refine so rfl ?_|refine sb rfl ?_)
        refine O_le _ (Le.freeze 107 rfl rfl) ?_
        refine O_pushV wc1 aS z 3 rfl rfl rfl rfl rfl g4.symm rfl rfl rfl rfl rfl (by omega) (by simp only [maxLen]; omega) (fun v2 hv2 => ?_)
        rcases hv2 with ⟨hv0, _⟩ | ⟨gg2, cc2, rfl⟩
        · omega
        repeat (first | refine sc rfl ?_ | refine so rfl ?_)
        rw [w64 (x := (i : Int) + 1) (by omega) (by omega)]
        refine ⟨(i + 1, aN ++ [n], aS ++ [z], HD gg1 (aN.length + 1) cc1, HD gg2 (aS.length + 1) cc2), ⟨hi, hil, by simp [g3], by simp [g4], .inr ⟨gg1, cc1, by rw [g3]⟩, .inr ⟨gg2, cc2, by rw [g4]⟩, ?_⟩, by simp only []; omega, ?_⟩
        · simp only [g7, List.append_assoc, List.cons_append, List.nil_append]
        · rw [show vN (HD gg1 (aN.length + 1) cc1) (aN ++ [n]) (i + 1) = vN (HD gg1 (aN.length + 1) cc1) (aN ++ [n]) (aN.length + 1) from by rw [g3], show vS (HD gg2 (aS.length + 1) cc2) (aS ++ [z]) (i + 1) = vS (HD gg2 (aS.length + 1) cc2) (aS ++ [z]) (aS.length + 1) from by rw [g4]]
          exact Le.pick [3, 0, 1, 0] ⟨rfl, rfl, rfl, rfl, rfl, trivial⟩ rfl
  · obtain rfl : i = sh.length := by
      have : ¬ ((i : Nat) : Int) < ((sh.length : Nat) : Int) := m1
      omega
    rw [List.drop_length] at g7
    unfold takeL at g7
    simp only [List.append_nil] at g7
    have hb : (l.drop sh.length).isEmpty = (((l.length : Nat) : Int) == ((sh.length : Nat) : Int)) := by
      rw [Bool.eq_iff_iff, List.isEmpty_iff, List.drop_eq_nil_iff, beq_iff_eq]; omega
    rw [hb] at g7
    subst g7
    repeat (first | refine sc rfl ?_ | refine so rfl ?_)
    refine ⟨_, [vN h1 aN sh.length, vS h2 aS sh.length], _, rfl, pickA_perm (is := [2, 2]) (As := [_, _]) rfl, rfl, h1, h2, by rw [g3]; exact g5, by rw [g4]; exact g6, rfl, by simp only [g3, g4]⟩
end Go.Proofs

namespace Go.Proofs
open Go.Sy Go.Lib

abbrev gotA (N : List Nat) (S : List (List UInt8)) : AV := .agg [SL 1 u64c N, SL 1 wc1 S]
abbrev tkT (R : List Nat × List (List UInt8) × Bool) : AV := .tup [gotA R.1 R.2.1, B R.2.2]
theorem rTake_P (sh : List UInt8) (l : List (List UInt8)) (hsh : sh.length ≤ 1000) (hl : l.length ≤ 1000000) (hw : ∀ w ∈ l, w.length ≤ 1000000) (hj : (l.map fun w => w.length + 1).sum ≤ 1000000) : FnP Tryz.prog 35 [.s sh, SL 1 wc1 l] (· = tkT (takeL sh l)) := by
  refine FnA.frz2 (rTake_A sh l hsh hl hw hj) (fun r cs' ⟨h1, h2, _, _, hr, hc⟩ => ⟨h1, h2, hc, fun G v hv k1 k2 => ?_⟩)
  subst hr
  simp only [RepI, RepIT] at hv
  obtain ⟨ys, rfl, z1, t1, e1, ⟨y1, rfl, q1⟩, z2, t2, rfl, q2, rfl⟩ := hv
  simp only [RepIL] at q1
  obtain ⟨a1, b1, e2, r1, o1, a2, b2, rfl, r2, o2, rfl⟩ := q1
  simp only [RepI] at r1 r2
  subst r1; subst r2
  show RepI G (.tup [.agg [SL 1 u64c (takeL sh l).1, SL 1 wc1 (takeL sh l).2.1], B (takeL sh l).2.2]) (.tuple ys)
  rw [RepI]
  refine ⟨ys, rfl, ?_⟩
  rw [RepIT]
  refine ⟨_, _, e1, ?_, ?_⟩
  · rw [RepI]
    refine ⟨y1, rfl, ?_⟩
    simp only [RepIL]
    exact ⟨_, _, e2, k1, o1, _, _, rfl, k2, o2, rfl⟩
  · rw [RepIT]
    refine ⟨_, _, rfl, ?_, ?_⟩
    · rw [RepI]; exact q2
    · rw [RepIT]
def intsF (l : List Nat) (m : Nat) : List Int := (l.drop m).map fun n : Nat => IntKind.i64.wrap (n : Int)
theorem rInts_c (l : List Nat) (m : Nat) (hl : l.length ≤ 1000) (hm : m ≤ l.length) : FnP Tryz.prog 178 [SL 1 u64c l, I64 (m : Nat)] (· = SL 1 INTc (intsF l m)) := by
  refine FnP.intro Tryz.tabOK Tryz.wide_ Tryz.func178 rfl (by decide) rfl (fun X => ?_)
  repeat (first | refine sc rfl ?_ | refine so rfl ?_)
  refine C_le _ (Le.nilvec INTc 5 21 3 1 rfl rfl rfl) ?_
  refine C_loop (fun k : Nat => ⟨[(0, SL 1 u64c l), (5, .own 21), (6, I64 ((m + k : Nat) : Int))], [VEC 21 3 1 INTc (((l.drop m).take k).map fun n : Nat => IntKind.i64.wrap (n : Int))]⟩) (fun k => m + k ≤ l.length) (fun k => l.length - (m + k)) 0 hm ?_ ?_
  · exact Le.pick [0] ⟨rfl, rfl, rfl, trivial⟩ rfl
  intro k hk
  repeat (first | refine sc rfl ?_ | refine so rfl ?_)
  refine C_if rfl (fun m3 => ?_) (fun m3 => ?_) <;> simp only [pL] at m3
  · have hkl : m + k < l.length := by omega
    obtain ⟨w, hwe⟩ : ∃ w, l.getD (m + k) default = w := ⟨_, rfl⟩
    have hwg : l[m + k] = w := by rw [← hwe, List.getD_eq_getElem?_getD, List.getElem?_eq_getElem hkl]; rfl
    have htk : ((l.drop m).take (k + 1)).map (fun n : Nat => IntKind.i64.wrap (n : Int)) = ((l.drop m).take k).map (fun n : Nat => IntKind.i64.wrap (n : Int)) ++ [IntKind.i64.wrap (w : Int)] := by
      rw [List.take_succ_eq_append_getElem (by rw [List.length_drop]; omega), List.map_append, List.getElem_drop, hwg]; rfl
    repeat (first | refine sc rfl ?_ | refine so rfl ?_)
    refine ⟨by omega, ?_⟩
    simp only [Int.toNat_natCast, hwe]
    repeat (first|refine so rfl ?_|refine sb rfl ?_)
    refine O_push INTc (((l.drop m).take k).map fun n : Nat => IntKind.i64.wrap (n : Int)) (IntKind.i64.wrap (w : Int)) [(0, SL 1 u64c l), (6, I64 ((m + k : Nat) : Int))] rfl rfl rfl rfl rfl rfl rfl rfl rfl rfl ⟨rfl, rfl, trivial⟩ rfl rfl (by rw [List.length_map, List.length_take]; omega) (by rw [List.length_map, List.length_take]; simp only [maxLen]; omega) ?_
    rw [← htk]
    repeat (first | refine sc rfl ?_ | refine so rfl ?_)
    rw [w64 (x := ((m + k : Nat) : Int) + 1) (by omega) (by omega)]
    exact ⟨k + 1, by omega, by omega, Le.pick [0] ⟨rfl, rfl, rfl, trivial⟩ rfl⟩
  · obtain rfl : k = l.length - m := by omega
    rw [List.take_of_length_le (by rw [List.length_drop]; exact Nat.le_refl _)]
    refine C_le _ (Le.freezeL 5 rfl rfl) ?_
    repeat (first | refine sc rfl ?_ | refine so rfl ?_)
    exact ⟨_, rfl, rfl, rfl⟩
def rOrdF (op : Int) (N : List Nat) : List UInt8 × Bool :=
  if configF op = true then (if (confOfF (intsF N 3)).2 ≠ 0 then ([], false) else ((ordP (N.getD 1 0) op (IntKind.i64.wrap ((N.getD 2 0 : Nat) : Int)) (confOfF (intsF N 3)).1).1, (ordP (N.getD 1 0) op (IntKind.i64.wrap ((N.getD 2 0 : Nat) : Int)) (confOfF (intsF N 3)).1).2 == 0))
  else ((ordP (N.getD 1 0) op (IntKind.i64.wrap ((N.getD 2 0 : Nat) : Int)) default).1, (ordP (N.getD 1 0) op (IntKind.i64.wrap ((N.getD 2 0 : Nat) : Int)) default).2 == 0)
def CO (z : List AV) (b11 b12 : Bool) : List Ch := bif b11 then [.box 6 278 (bif b12 then z else ordC 0 0 0 default)] else []
def PO : Pl := ⟨[[], [], [], [], [], [], [], [], [], [], [], [], [11]], [11, 12], [(11, 6)], []⟩
theorem rOrder_c (op : Int) (N : List Nat) (S : List (List UInt8)) (hN : 3 ≤ N.length) (hl : N.length ≤ 1000) (hid : N.getD 1 0 < 18446744073709551616) : FnP Tryz.prog 120 [I64 op, gotA N S] (· = .tup [.s (rOrdF op N).1, B (rOrdF op N).2]) := by
  refine FnP.intro Tryz.tabOK Tryz.wide_ Tryz.func120 rfl (by decide) rfl (fun X => ?_)
  unfold rOrdF configF
  repeat (first | refine sc rfl ?_ | refine so rfl ?_)
  refine C_le _ (Le.freezebox 3 rfl rfl rfl) ?_
  obtain ⟨Z, hZ⟩ : ∃ Z, ordC (N.getD 1 0) op (IntKind.i64.wrap ((N.getD 2 0 : Nat) : Int)) default = Z := ⟨_, rfl⟩
  refine C_drawM PO (fun L => CO Z (L 11) (L 12)) rfl (by kernel_rfl) (fun L L' h => by show CO Z (L 11) (L 12) = CO Z (L' 11) (L' 12); rw [h 11 (by decide), h 12 (by decide)]) rfl ?_
  refine sm rfl ⟨trivial, ?_⟩
  refine sm rfl ⟨trivial, ?_⟩
  refine sm rfl ⟨by omega, ?_⟩
  refine sm rfl ⟨trivial, ?_⟩
  refine sm rfl ⟨trivial, ?_⟩
  refine sm rfl ⟨trivial, ?_⟩
  refine sm rfl ⟨trivial, ?_⟩
  refine sm rfl ⟨by omega, ?_⟩
  refine sm rfl ⟨trivial, ?_⟩
  refine sm rfl ⟨trivial, ?_⟩
  refine sm rfl ⟨trivial, ?_⟩
  refine SM (.bp 6 0) rfl (fun L h1 h2 h3 => ?_) ?_
  · show StepX _ _ _ _ _ (CO Z (L 11) (L 12)) (CO Z true (L 12)) _ _ _
    rw [show L 11 = false from h3, h2 12 (show (11 : Nat) ∈ PO.anc 12 by decide)]
    exact X_alloc rfl rfl rfl rfl (show ((11, 6) : Nat × Nat) ∈ PO.cre by decide) rfl rfl rfl
  refine SM .bad rfl (fun L h1 h2 h3 => ?_) ?_
  · show StepX _ _ _ _ _ (CO Z (L 11) (L 12)) (CO Z (L 11) true) _ _ _
    rw [show L 12 = false from h3, h1 11 (show (11 : Nat) ∈ PO.anc 12 by decide), ← hZ]
    exact X_storeK rfl rfl rfl rfl rfl rfl rfl rfl rfl
  refine sm rfl ?_
  show SymC _ _ _ ⟨_, [.box 6 278 Z]⟩ _
  subst hZ
  repeat (first | refine sc rfl ?_ | refine so rfl ?_)
  refine O_case 24 rfl (fun k1 => ?_) (fun k1 => ?_) <;> simp only [pL] at k1
  · rw [if_pos (by simp; exact .inl k1)]
    repeat refine so rfl ?_
    refine C_true rfl rfl ?_
    repeat (first | refine sc rfl ?_ | refine so rfl ?_)
    refine O_call (rInts_c N 3 hl hN) (by rfl) (by rfl) (by rfl) (by rfl) (fun r hr => ?_)
    subst hr
    repeat refine sc rfl ?_
    refine O_call (rOf_c (intsF N 3) (by unfold intsF; rw [List.length_map, List.length_drop]; omega)) (by rfl) (by rfl) (by rfl) (by rfl) (fun r hr => ?_)
    subst hr
    generalize confOfF (intsF N 3) = CC
    obtain ⟨cc, e⟩ := CC
    simp only []
    repeat (first | refine sc rfl ?_ | refine so rfl ?_)
    refine C_if rfl (fun k3 => ?_) (fun k3 => ?_) <;> simp only [pL] at k3
    · rw [if_pos k3]
      repeat (first | refine sc rfl ?_ | refine so rfl ?_)
      exact ⟨_, rfl, rfl, rfl⟩
    rw [if_neg (fun h => h k3)]
    repeat (first | refine sc rfl ?_ | refine so rfl ?_)
    refine O_call (rOrdPut_c (N.getD 1 0) op (IntKind.i64.wrap ((N.getD 2 0 : Nat) : Int)) cc hid) (by rfl) (by rfl) (by rfl) (by rfl) (fun r hr => ?_)
    subst hr
    repeat (first | refine sc rfl ?_ | refine so rfl ?_)
    exact ⟨_, rfl, rfl, rfl⟩
  repeat refine so rfl ?_
  refine C_if rfl (fun k2 => ?_) (fun k2 => ?_) <;> simp only [pL] at k2
  · rw [if_pos (by simp; exact .inr k2)]
    repeat (first | refine sc rfl ?_ | refine so rfl ?_)
    refine O_call (rInts_c N 3 hl hN) (by rfl) (by rfl) (by rfl) (by rfl) (fun r hr => ?_)
    subst hr
    repeat refine sc rfl ?_
    refine O_call (rOf_c (intsF N 3) (by unfold intsF; rw [List.length_map, List.length_drop]; omega)) (by rfl) (by rfl) (by rfl) (by rfl) (fun r hr => ?_)
    subst hr
    generalize confOfF (intsF N 3) = CC
    obtain ⟨cc, e⟩ := CC
    simp only []
    repeat (first | refine sc rfl ?_ | refine so rfl ?_)
    refine C_if rfl (fun k3 => ?_) (fun k3 => ?_) <;> simp only [pL] at k3
    · rw [if_pos k3]
      repeat (first | refine sc rfl ?_ | refine so rfl ?_)
      exact ⟨_, rfl, rfl, rfl⟩
    rw [if_neg (fun h => h k3)]
    repeat (first | refine sc rfl ?_ | refine so rfl ?_)
    refine O_call (rOrdPut_c (N.getD 1 0) op (IntKind.i64.wrap ((N.getD 2 0 : Nat) : Int)) cc hid) (by rfl) (by rfl) (by rfl) (by rfl) (fun r hr => ?_)
    subst hr
    repeat (first | refine sc rfl ?_ | refine so rfl ?_)
    exact ⟨_, rfl, rfl, rfl⟩
  · rw [if_neg (by simp; exact ⟨k1, k2⟩)]
    repeat (first | refine sc rfl ?_ | refine so rfl ?_)
    refine O_call (rOrdPut_c (N.getD 1 0) op (IntKind.i64.wrap ((N.getD 2 0 : Nat) : Int)) default hid) (by rfl) (by rfl) (by rfl) (by rfl) (fun r hr => ?_)
    subst hr
    repeat (first | refine sc rfl ?_ | refine so rfl ?_)
    exact ⟨_, rfl, rfl, rfl⟩
end Go.Proofs

namespace Go.Proofs
open Go.Sy Go.Lib

def opsL : List (List UInt8) := [[], [99, 114, 101, 97, 116, 101], [115, 117, 115, 112, 101, 110, 100], [114, 101, 115, 117, 109, 101], [100, 101, 108, 101, 116, 101], [114, 101, 107, 101, 121], [113, 117, 111, 116, 97]]
structure GOK (sh : List UInt8) (N : List Nat) (S : List (List UInt8)) : Prop where
  n : N.length = sh.length
  s : S.length = sh.length
  most : ∀ i, i < sh.length → N.getD i 0 ≤ mostF (sh.getD i 0)
  txt : ∀ i, i < sh.length → (S.getD i []).length ≤ 1000000
def rBodyF (key : Nat) (verb : List UInt8) (N : List Nat) (S : List (List UInt8)) : Int × List UInt8 × Bool :=
  if 0 < opF verb then (8, (rOrdF (opF verb) N).1, (rOrdF (opF verb) N).2)
  else if verb = [104, 101, 108, 108, 111] then (1, vput (N.getD 1 0) ++ vput (N.getD 2 0) ++ vput (N.getD 3 0), true)
  else if verb = [98, 111, 115, 115] then (1, vput 0 ++ vput 1 ++ vput (tagF key).toNat, true)
  else if verb = [112, 105, 110, 103] then (5, [], true)
  else if verb = [99, 97, 108, 108] then (2, vput (N.getD 1 0) ++ vput (N.getD 2 0) ++ vput (N.getD 3 0) ++ S.getD 4 [], true)
  else if verb = [111, 110, 101, 119, 97, 121] then (3, vput (N.getD 1 0) ++ vput (N.getD 2 0) ++ vput (N.getD 3 0) ++ S.getD 4 [], true)
  else if verb = [99, 97, 110, 99, 101, 108] then (4, vput (N.getD 1 0), true)
  else if verb = [115, 99, 104, 101, 109, 97] then (6, vput (N.getD 1 0) ++ S.getD 2 [], true)
  else if verb = [98, 105, 110, 100] then (7, vput (N.getD 1 0) ++ vput (N.getD 2 0) ++ spanF (S.getD 3 []) ++ spanF (S.getD 4 []) ++ vput (N.getD 5 0), true)
  else (0, [], true)
theorem opF_at : ∀ i, 1 ≤ i → i < 7 → opF (opsL.getD i default) = (i : Int)
  | 1, _, _ => rfl
  | 2, _, _ => rfl
  | 3, _, _ => rfl
  | 4, _, _ => rfl
  | 5, _, _ => rfl
  | 6, _, _ => rfl
theorem opF_none {w : List UInt8} (h : ∀ j, 1 ≤ j → j < 7 → opsL.getD j default ≠ w) : opF w = 0 := by
  unfold opF
  rw [if_neg (fun e => h 1 (by decide) (by decide) e.symm), if_neg (fun e => h 2 (by decide) (by decide) e.symm), if_neg (fun e => h 3 (by decide) (by decide) e.symm), if_neg (fun e => h 4 (by decide) (by decide) e.symm), if_neg (fun e => h 5 (by decide) (by decide) e.symm), if_neg (fun e => h 6 (by decide) (by decide) e.symm)]
theorem mostF_le (c : UInt8) : mostF c ≤ 18446744073709551615 := by unfold mostF; split; decide; split; decide; split <;> decide
theorem ite_some {α : Type} {c : Prop} [Decidable c] {a x : α} {b : Option α} (p : α → Prop) (h : (if c then some a else b) = some x) (ha : p a) (hb : b = some x → p x) : p x := by
  by_cases hc : c
  · rw [if_pos hc] at h; cases h; exact ha
  · rw [if_neg hc] at h; exact hb h
theorem shapeF_len {w sh : List UInt8} (h : shapeF w = some sh) : sh.length ≤ 12 := by
  have p : ∀ {c : Prop} [Decidable c] {a : List UInt8} {b : Option (List UInt8)}, (if c then some a else b) = some sh → a.length ≤ 12 → (b = some sh → sh.length ≤ 12) → sh.length ≤ 12 := fun h1 h2 h3 => ite_some (fun z => z.length ≤ 12) h1 h2 h3
  unfold shapeF at h
  exact p h (by decide) (fun h => p h (by decide) (fun h => p h (by decide) (fun h => p h (by decide) (fun h => p h (by decide) (fun h => p h (by decide) (fun h => p h (by decide) (fun h => p h (by decide) (fun h => p h (by decide) (fun h => p h (by decide) (fun h => p h (by decide) (fun h => by cases h)))))))))))
theorem shapeF_op {w sh : List UInt8} (h : shapeF w = some sh) (ho : 0 < opF w) : 3 ≤ sh.length := by
  unfold opF at ho
  split at ho
  · rename_i e; subst e; cases h; decide
  split at ho
  · rename_i e; subst e; cases h; decide
  split at ho
  · rename_i e; subst e; cases h; decide
  split at ho
  · rename_i e; subst e; cases h; decide
  split at ho
  · rename_i e; subst e; cases h; decide
  split at ho
  · rename_i e; subst e; cases h; decide
  exact absurd ho (by decide)
theorem rBody_c (key : Nat) (verb : List UInt8) (N : List Nat) (S : List (List UInt8)) (sh : List UInt8) (hk : key < 18446744073709551616) (hsh : shapeF verb = some sh) (hg : GOK sh N S) : FnP Tryz.prog 75 [U64 (key : Nat), .s verb, gotA N S] (· = .tup [I64 (rBodyF key verb N S).1, .s (rBodyF key verb N S).2.1, B (rBodyF key verb N S).2.2]) := by
  refine FnP.intro Tryz.tabOK Tryz.wide_ Tryz.func75 rfl (by decide) rfl (fun X => ?_)
  have hlen := shapeF_len hsh
  have hn := hg.n
  repeat (first|refine sc rfl ?_|refine so rfl ?_|refine sb rfl ?_)
  refine C_le _ (Le.freezebox 5 rfl rfl rfl) ?_
  refine C_le _ (Le.pick [0] (s2 := [(0, U64 (key : Nat)), (1, .s verb), (5, .cp [SL 1 u64c N, SL 1 wc1 S]), (9, .own 17), (10, I64 1)]) ⟨rfl, rfl, rfl, rfl, rfl, trivial⟩ rfl) ?_
  refine C_le _ (Le.vecrow (k := 17) 7 (fun j => wc1 (opsL.getD j default)) rfl rfl (fun j hj => ?_)) ?_
  · match j, hj with
    | 0, _ => rfl
    | 1, _ => rfl
    | 2, _ => rfl
    | 3, _ => rfl
    | 4, _ => rfl
    | 5, _ => rfl
    | 6, _ => rfl
    | n + 7, h => exact absurd h (Nat.not_lt.2 (Nat.le_add_left _ _))
  refine C_le _ (Le.freezeL (l := opsL) (cells := wc1) 9 rfl rfl) ?_
  refine C_loop (fun i : Nat => ⟨[(0, U64 (key : Nat)), (1, .s verb), (5, .cp [SL 1 u64c N, SL 1 wc1 S]), (9, SL 1 wc1 opsL), (10, I64 (i : Nat))], []⟩) (fun i => 1 ≤ i ∧ i ≤ 7 ∧ ∀ j, 1 ≤ j → j < i → opsL.getD j default ≠ verb) (fun i => 7 - i) 1 ⟨Nat.le_refl _, by decide, fun j a b => by omega⟩ ?_ ?_
  · exact Le.pick [] ⟨rfl, rfl, rfl, rfl, rfl, trivial⟩ rfl
  rintro i ⟨hi1, hi7, hall⟩
  repeat (first | refine sc rfl ?_ | refine so rfl ?_)
  refine C_if rfl (fun m1 => ?_) (fun m1 => ?_) <;> simp only [pL] at m1
  · have hi : i < 7 := by
      have : ((i : Nat) : Int) < 7 := m1
      omega
    obtain ⟨o, ho⟩ : ∃ o, opsL.getD i default = o := ⟨_, rfl⟩
    repeat (first | refine sc rfl ?_ | refine so rfl ?_)
    refine ⟨⟨by omega, m1⟩, ?_⟩
    simp only [Int.toNat_natCast, ho]
    repeat refine so rfl ?_
    refine C_if rfl (fun m2 => ?_) (fun m2 => ?_) <;> simp only [pL] at m2
    · subst m2
      have hop := opF_at i hi1 hi
      rw [ho] at hop
      have h3 := shapeF_op hsh (by rw [hop]; omega)
      have hm1 := hg.most 1 (by omega)
      have hm2 := mostF_le (sh.getD 1 0)
      unfold rBodyF
      rw [hop, if_pos (by omega)]
      repeat (first | refine sc rfl ?_ | refine so rfl ?_)
      refine O_call (rOrder_c (i : Int) N S (by omega) (by omega) (by omega)) (by rfl) (by rfl) (by rfl) (by rfl) (fun r hr => ?_)
      subst hr
      repeat (first | refine sc rfl ?_ | refine so rfl ?_)
      exact ⟨_, rfl, rfl, rfl⟩
    · repeat (first | refine sc rfl ?_ | refine so rfl ?_)
      rw [w64 (x := (i : Int) + 1) (by omega) (by omega)]
      refine ⟨i + 1, ⟨by omega, by omega, fun j a b => ?_⟩, by omega, Le.pick [] ⟨rfl, rfl, rfl, rfl, rfl, trivial⟩ rfl⟩
      rcases Nat.lt_or_ge j i with h | h
      · exact hall j a h
      · obtain rfl : j = i := by omega
        rw [ho]; exact m2
  · obtain rfl : i = 7 := by
      have : ¬ ((i : Nat) : Int) < 7 := m1
      omega
    have hop := opF_none hall
    unfold rBodyF
    rw [hop, if_neg (by decide)]
    repeat (first | refine sc rfl ?_ | refine so rfl ?_)
    refine C_if rfl (fun k1 => ?_) (fun k1 => ?_) <;> simp only [pL] at k1
    · subst k1
      obtain rfl : sh = [67, 79, 87, 78] := Option.some.inj (hsh.symm.trans (show shapeF _ = _ from rfl))
      obtain ⟨a, b, c, d, rfl⟩ : ∃ a b c d, N = [a, b, c, d] := by
        match N, hg.n with
        | [a, b, c, d], _ => exact ⟨a, b, c, d, rfl⟩
      obtain ⟨s0, s1, s2, s3, rfl⟩ : ∃ s0 s1 s2 s3, S = [s0, s1, s2, s3] := by
        match S, hg.s with
        | [s0, s1, s2, s3], _ => exact ⟨s0, s1, s2, s3, rfl⟩
      have hm1 : b ≤ 8 := hg.most 1 (by decide)
      have hm2 : c ≤ 1048576 := hg.most 2 (by decide)
      have hm3 : d ≤ 18446744073709551615 := hg.most 3 (by decide)
      rw [if_pos rfl]
      repeat refine sc rfl ?_
      refine C_drawD rfl (by kernel_rfl) ?_
      repeat refine sd rfl ?_
      refine ⟨by simp, ?_⟩
      simp only [show ([a, b, c, d] : List Nat).getD (Int.toNat 1) default = b from rfl]
      repeat refine sd rfl ?_
      rw [w64 (x := (b : Int)) (by omega) (by omega)]
      repeat refine sd rfl ?_
      refine ⟨by simp, ?_⟩
      simp only [show ([a, b, c, d] : List Nat).getD (Int.toNat 2) default = c from rfl]
      repeat refine sd rfl ?_
      rw [w64 (x := (c : Int)) (by omega) (by omega)]
      repeat refine sd rfl ?_
      refine ⟨by simp, ?_⟩
      simp only [show ([a, b, c, d] : List Nat).getD (Int.toNat 3) default = d from rfl]
      repeat (first | refine sd rfl ?_ | refine sdb rfl ?_)
      refine D_call (rHello_c b c d (by omega) (by omega) (by omega)) rfl rfl rfl rfl ?_
      repeat refine sd rfl ?_
      repeat (first | refine sc rfl ?_ | refine so rfl ?_)
      exact ⟨_, rfl, rfl, rfl⟩
    rw [if_neg k1]
    repeat (first | refine sc rfl ?_ | refine so rfl ?_)
    refine C_if rfl (fun k2 => ?_) (fun k2 => ?_) <;> simp only [pL] at k2
    · subst k2
      obtain rfl : sh = [67] := Option.some.inj (hsh.symm.trans (show shapeF _ = _ from rfl))
      obtain ⟨a, rfl⟩ : ∃ a, N = [a] := by
        match N, hg.n with
        | [a], _ => exact ⟨a, rfl⟩
      obtain ⟨s0, rfl⟩ : ∃ s0, S = [s0] := by
        match S, hg.s with
        | [s0], _ => exact ⟨s0, rfl⟩
      rw [if_pos rfl]
      obtain ⟨t, ht⟩ : ∃ t : Nat, tagF key = t := ⟨(tagF key).toNat, by have := tagF_r key; omega⟩
      have htr := tagF_r key
      rw [ht] at htr
      repeat (first | refine sc rfl ?_ | refine so rfl ?_)
      refine O_call (rTag_c key hk) (by rfl) (by rfl) (by rfl) (by rfl) (fun r hr => ?_)
      subst hr
      rw [ht]
      repeat refine so rfl ?_
      refine O_call (rHello_c 0 1 t (by omega) (by omega) (by omega)) (by rfl) (by rfl) (by rfl) (by rfl) (fun r hr => ?_)
      subst hr
      repeat (first | refine sc rfl ?_ | refine so rfl ?_)
      exact ⟨_, rfl, rfl, rfl⟩
    rw [if_neg k2]
    repeat (first | refine sc rfl ?_ | refine so rfl ?_)
    refine C_if rfl (fun k3 => ?_) (fun k3 => ?_) <;> simp only [pL] at k3
    · subst k3
      obtain rfl : sh = [67] := Option.some.inj (hsh.symm.trans (show shapeF _ = _ from rfl))
      obtain ⟨a, rfl⟩ : ∃ a, N = [a] := by
        match N, hg.n with
        | [a], _ => exact ⟨a, rfl⟩
      obtain ⟨s0, rfl⟩ : ∃ s0, S = [s0] := by
        match S, hg.s with
        | [s0], _ => exact ⟨s0, rfl⟩
      rw [if_pos rfl]
      repeat (first | refine sc rfl ?_ | refine so rfl ?_)
      exact ⟨_, rfl, rfl, rfl⟩
    rw [if_neg k3]
    repeat (first | refine sc rfl ?_ | refine so rfl ?_)
    refine C_if rfl (fun k4 => ?_) (fun k4 => ?_) <;> simp only [pL] at k4
    · subst k4
      obtain rfl : sh = [67, 78, 87, 87, 70] := Option.some.inj (hsh.symm.trans (show shapeF _ = _ from rfl))
      obtain ⟨a, b, c, d, e, rfl⟩ : ∃ a b c d e, N = [a, b, c, d, e] := by
        match N, hg.n with
        | [a, b, c, d, e], _ => exact ⟨a, b, c, d, e, rfl⟩
      obtain ⟨s0, s1, s2, s3, s4, rfl⟩ : ∃ s0 s1 s2 s3 s4, S = [s0, s1, s2, s3, s4] := by
        match S, hg.s with
        | [s0, s1, s2, s3, s4], _ => exact ⟨s0, s1, s2, s3, s4, rfl⟩
      have hm1 : b ≤ 18446744073709551615 := hg.most 1 (by decide)
      have hm2 : c ≤ 1048576 := hg.most 2 (by decide)
      have hm3 : d ≤ 1048576 := hg.most 3 (by decide)
      have ht4 : s4.length ≤ 1000000 := hg.txt 4 (by decide)
      have hl1 := vput_len10 (n := b) (by omega)
      have hl2 := vput_len10 (n := c) (by omega)
      have hl3 := vput_len10 (n := d) (by omega)
      rw [if_pos rfl]
      repeat refine sc rfl ?_
      refine C_drawD rfl (by kernel_rfl) ?_
      repeat refine sd rfl ?_
      refine ⟨by simp, ?_⟩
      simp only [show ([a, b, c, d, e] : List Nat).getD (Int.toNat 1) default = b from rfl]
      repeat refine sd rfl ?_
      refine D_call (rNum_c b (by omega)) rfl rfl rfl rfl ?_
      repeat refine sd rfl ?_
      refine ⟨by simp, ?_⟩
      simp only [show ([a, b, c, d, e] : List Nat).getD (Int.toNat 2) default = c from rfl]
      repeat refine sd rfl ?_
      refine D_call (rNum_c c (by omega)) rfl rfl rfl rfl ?_
      repeat refine sd rfl ?_
      refine ⟨by first | omega | (simp only [List.length_append]; omega), ?_⟩
      repeat refine sd rfl ?_
      refine ⟨by simp, ?_⟩
      simp only [show ([a, b, c, d, e] : List Nat).getD (Int.toNat 3) default = d from rfl]
      repeat refine sd rfl ?_
      refine D_call (rNum_c d (by omega)) rfl rfl rfl rfl ?_
      repeat refine sd rfl ?_
      refine ⟨by first | omega | (simp only [List.length_append]; omega), ?_⟩
      repeat refine sd rfl ?_
      refine ⟨by simp, ?_⟩
      simp only [show ([s0, s1, s2, s3, s4] : List (List UInt8)).getD (Int.toNat 4) default = s4 from rfl]
      repeat refine sd rfl ?_
      refine ⟨by first | omega | (simp only [List.length_append]; omega), ?_⟩
      repeat refine sd rfl ?_
      repeat refine sc rfl ?_
      exact ⟨_, rfl, rfl, rfl⟩
    rw [if_neg k4]
    repeat (first | refine sc rfl ?_ | refine so rfl ?_)
    refine C_if rfl (fun k5 => ?_) (fun k5 => ?_) <;> simp only [pL] at k5
    · subst k5
      obtain rfl : sh = [67, 78, 87, 87, 70] := Option.some.inj (hsh.symm.trans (show shapeF _ = _ from rfl))
      obtain ⟨a, b, c, d, e, rfl⟩ : ∃ a b c d e, N = [a, b, c, d, e] := by
        match N, hg.n with
        | [a, b, c, d, e], _ => exact ⟨a, b, c, d, e, rfl⟩
      obtain ⟨s0, s1, s2, s3, s4, rfl⟩ : ∃ s0 s1 s2 s3 s4, S = [s0, s1, s2, s3, s4] := by
        match S, hg.s with
        | [s0, s1, s2, s3, s4], _ => exact ⟨s0, s1, s2, s3, s4, rfl⟩
      have hm1 : b ≤ 18446744073709551615 := hg.most 1 (by decide)
      have hm2 : c ≤ 1048576 := hg.most 2 (by decide)
      have hm3 : d ≤ 1048576 := hg.most 3 (by decide)
      have ht4 : s4.length ≤ 1000000 := hg.txt 4 (by decide)
      have hl1 := vput_len10 (n := b) (by omega)
      have hl2 := vput_len10 (n := c) (by omega)
      have hl3 := vput_len10 (n := d) (by omega)
      rw [if_pos rfl]
      repeat refine sc rfl ?_
      refine C_drawD rfl (by kernel_rfl) ?_
      repeat refine sd rfl ?_
      refine ⟨by simp, ?_⟩
      simp only [show ([a, b, c, d, e] : List Nat).getD (Int.toNat 1) default = b from rfl]
      repeat refine sd rfl ?_
      refine D_call (rNum_c b (by omega)) rfl rfl rfl rfl ?_
      repeat refine sd rfl ?_
      refine ⟨by simp, ?_⟩
      simp only [show ([a, b, c, d, e] : List Nat).getD (Int.toNat 2) default = c from rfl]
      repeat refine sd rfl ?_
      refine D_call (rNum_c c (by omega)) rfl rfl rfl rfl ?_
      repeat refine sd rfl ?_
      refine ⟨by first | omega | (simp only [List.length_append]; omega), ?_⟩
      repeat refine sd rfl ?_
      refine ⟨by simp, ?_⟩
      simp only [show ([a, b, c, d, e] : List Nat).getD (Int.toNat 3) default = d from rfl]
      repeat refine sd rfl ?_
      refine D_call (rNum_c d (by omega)) rfl rfl rfl rfl ?_
      repeat refine sd rfl ?_
      refine ⟨by first | omega | (simp only [List.length_append]; omega), ?_⟩
      repeat refine sd rfl ?_
      refine ⟨by simp, ?_⟩
      simp only [show ([s0, s1, s2, s3, s4] : List (List UInt8)).getD (Int.toNat 4) default = s4 from rfl]
      repeat refine sd rfl ?_
      refine ⟨by first | omega | (simp only [List.length_append]; omega), ?_⟩
      repeat refine sd rfl ?_
      repeat refine sc rfl ?_
      exact ⟨_, rfl, rfl, rfl⟩
    rw [if_neg k5]
    repeat (first | refine sc rfl ?_ | refine so rfl ?_)
    refine C_if rfl (fun k6 => ?_) (fun k6 => ?_) <;> simp only [pL] at k6
    · subst k6
      obtain rfl : sh = [67, 78] := Option.some.inj (hsh.symm.trans (show shapeF _ = _ from rfl))
      obtain ⟨a, b, rfl⟩ : ∃ a b, N = [a, b] := by
        match N, hg.n with
        | [a, b], _ => exact ⟨a, b, rfl⟩
      obtain ⟨s0, s1, rfl⟩ : ∃ s0 s1, S = [s0, s1] := by
        match S, hg.s with
        | [s0, s1], _ => exact ⟨s0, s1, rfl⟩
      have hm1 : b ≤ 18446744073709551615 := hg.most 1 (by decide)
      rw [if_pos rfl]
      repeat (first | refine sc rfl ?_ | refine so rfl ?_)
      refine ⟨by simp, ?_⟩
      simp only [show ([a, b] : List Nat).getD (Int.toNat 1) default = b from rfl]
      repeat refine so rfl ?_
      refine O_call (rNum_c b (by omega)) (by rfl) (by rfl) (by rfl) (by rfl) (fun r hr => ?_)
      subst hr
      repeat (first | refine sc rfl ?_ | refine so rfl ?_)
      exact ⟨_, rfl, rfl, rfl⟩
    rw [if_neg k6]
    repeat (first | refine sc rfl ?_ | refine so rfl ?_)
    refine C_if rfl (fun k7 => ?_) (fun k7 => ?_) <;> simp only [pL] at k7
    · subst k7
      obtain rfl : sh = [67, 78, 84] := Option.some.inj (hsh.symm.trans (show shapeF _ = _ from rfl))
      obtain ⟨a, b, c, rfl⟩ : ∃ a b c, N = [a, b, c] := by
        match N, hg.n with
        | [a, b, c], _ => exact ⟨a, b, c, rfl⟩
      obtain ⟨s0, s1, s2, rfl⟩ : ∃ s0 s1 s2, S = [s0, s1, s2] := by
        match S, hg.s with
        | [s0, s1, s2], _ => exact ⟨s0, s1, s2, rfl⟩
      have hm1 : b ≤ 18446744073709551615 := hg.most 1 (by decide)
      have ht2 : s2.length ≤ 1000000 := hg.txt 2 (by decide)
      have hl1 := vput_len10 (n := b) (by omega)
      rw [if_pos rfl]
      repeat refine sc rfl ?_
      refine C_drawD rfl (by kernel_rfl) ?_
      repeat refine sd rfl ?_
      refine ⟨by simp, ?_⟩
      simp only [show ([a, b, c] : List Nat).getD (Int.toNat 1) default = b from rfl]
      repeat refine sd rfl ?_
      refine D_call (rNum_c b (by omega)) rfl rfl rfl rfl ?_
      repeat refine sd rfl ?_
      refine ⟨by simp, ?_⟩
      simp only [show ([s0, s1, s2] : List (List UInt8)).getD (Int.toNat 2) default = s2 from rfl]
      repeat refine sd rfl ?_
      refine ⟨by first | omega | (simp only [List.length_append]; omega), ?_⟩
      repeat refine sd rfl ?_
      repeat refine sc rfl ?_
      exact ⟨_, rfl, rfl, rfl⟩
    rw [if_neg k7]
    repeat (first | refine sc rfl ?_ | refine so rfl ?_)
    refine C_if rfl (fun k8 => ?_) (fun k8 => ?_) <;> simp only [pL] at k8
    · subst k8
      obtain rfl : sh = [67, 78, 87, 83, 83, 87] := Option.some.inj (hsh.symm.trans (show shapeF _ = _ from rfl))
      obtain ⟨a, b, c, d, e, f, rfl⟩ : ∃ a b c d e f, N = [a, b, c, d, e, f] := by
        match N, hg.n with
        | [a, b, c, d, e, f], _ => exact ⟨a, b, c, d, e, f, rfl⟩
      obtain ⟨s0, s1, s2, s3, s4, s5, rfl⟩ : ∃ s0 s1 s2 s3 s4 s5, S = [s0, s1, s2, s3, s4, s5] := by
        match S, hg.s with
        | [s0, s1, s2, s3, s4, s5], _ => exact ⟨s0, s1, s2, s3, s4, s5, rfl⟩
      have hm1 : b ≤ 18446744073709551615 := hg.most 1 (by decide)
      have hm2 : c ≤ 1048576 := hg.most 2 (by decide)
      have hm5 : f ≤ 1048576 := hg.most 5 (by decide)
      have ht3 : s3.length ≤ 1000000 := hg.txt 3 (by decide)
      have ht4 : s4.length ≤ 1000000 := hg.txt 4 (by decide)
      rw [if_pos rfl]
      repeat refine sc rfl ?_
      refine C_drawD rfl (by kernel_rfl) ?_
      repeat refine sd rfl ?_
      refine ⟨by simp, ?_⟩
      simp only [show ([a, b, c, d, e, f] : List Nat).getD (Int.toNat 1) default = b from rfl]
      repeat refine sd rfl ?_
      refine ⟨by simp, ?_⟩
      simp only [show ([a, b, c, d, e, f] : List Nat).getD (Int.toNat 2) default = c from rfl]
      repeat refine sd rfl ?_
      rw [w64 (x := (c : Int)) (by omega) (by omega)]
      repeat refine sd rfl ?_
      refine ⟨by simp, ?_⟩
      simp only [show ([s0, s1, s2, s3, s4, s5] : List (List UInt8)).getD (Int.toNat 3) default = s3 from rfl]
      repeat refine sd rfl ?_
      refine ⟨by simp, ?_⟩
      simp only [show ([s0, s1, s2, s3, s4, s5] : List (List UInt8)).getD (Int.toNat 4) default = s4 from rfl]
      repeat refine sd rfl ?_
      refine ⟨by simp, ?_⟩
      simp only [show ([a, b, c, d, e, f] : List Nat).getD (Int.toNat 5) default = f from rfl]
      repeat (first | refine sd rfl ?_ | refine sdb rfl ?_)
      rw [w64 (x := (f : Int)) (by omega) (by omega)]
      repeat refine sd rfl ?_
      refine D_call (rBind_c b c s3 s4 f (by omega) (by omega) (by omega) (by omega) (by omega)) rfl rfl rfl rfl ?_
      repeat refine sd rfl ?_
      repeat refine sc rfl ?_
      exact ⟨_, rfl, rfl, rfl⟩
    rw [if_neg k8]
    repeat (first | refine sc rfl ?_ | refine so rfl ?_)
    exact ⟨_, rfl, rfl, rfl⟩
end Go.Proofs

namespace Go.Proofs
open Go.Sy Go.Lib

def evV (x : Evt) : Array Value := #[.int .i64 x.kind, .int .i64 x.conn, .int .u64 x.num, S x.bytes]
theorem rep_ev (m : Evt) (e : Env) (ys : List Value) (h : RepL e (Evt.c m) ys) : ys = (evV m).toList := by
  simp only [Evt.c, RepL, Rep] at h
  obtain ⟨z1, t1, rfl, rfl, _, z2, t2, rfl, rfl, _, z3, t3, rfl, rfl, _, z4, t4, rfl, rfl, _, rfl⟩ := h
  rfl
theorem eq_ev (m : Evt) (w : World) : (Op.equalIn 10000 54 (.agg (evV m)) (.agg (evV m))).run Tryz.prog w = .ok true w := by
  rw [run_equalIn_struct w 9999 54 _ _ Tryz.underlying54 Tryz.stoodInHeld54]
  unfold Program.fieldsOf
  rw [Tryz.underlying54]
  have p0 : (part 3 (evV m) 0).run Tryz.prog w = .ok (.int .i64 m.kind) w := by simp [part, isAgg, run_underlying Tryz.underlying3, evV]
  have p1 : (part 3 (evV m) 1).run Tryz.prog w = .ok (.int .i64 m.conn) w := by simp [part, isAgg, run_underlying Tryz.underlying3, evV]
  have p2 : (part 24 (evV m) 2).run Tryz.prog w = .ok (.int .u64 m.num) w := by simp [part, isAgg, run_underlying Tryz.underlying24, evV]
  have p3 : (part 9 (evV m) 3).run Tryz.prog w = .ok (S m.bytes) w := by simp [part, isAgg, run_underlying Tryz.underlying9, evV]
  have e0 : ∀ k, (Op.equalIn 9999 3 (.int .i64 k) (.int .i64 k)).run Tryz.prog w = .ok true w := fun k => by rw [run_equalIn_int w 9998 3 .i64 .i64 _ _ Tryz.underlying3]; simp
  have e1 : ∀ k, (Op.equalIn 9999 24 (.int .u64 k) (.int .u64 k)).run Tryz.prog w = .ok true w := fun k => by rw [run_equalIn_int w 9998 24 .u64 .u64 _ _ Tryz.underlying24]; simp
  have e2 : ∀ l, (Op.equalIn 9999 9 (S l) (S l)).run Tryz.prog w = .ok true w := fun l => by unfold S; rw [run_equalIn_string w 9998 9 _ _ Tryz.underlying9]; simp
  simp only [Op.eqFields]
  rw [if_pos (by decide), if_pos (by decide), if_pos (by decide), if_pos (by decide)]
  simp [Sem.run_bind, p0, p1, p2, p3, e0, e1, e2]
theorem sameEvs_c (E : List Evt) (hE : E.length ≤ 1000000) : FnP Tryz.prog 10 [SL 4 Evt.c E, SL 4 Evt.c E] (· = B true) := by
  refine FnP.intro Tryz.tabOK Tryz.wide_ Tryz.func10 rfl (by decide) rfl (fun X => ?_)
  repeat (first | refine sc rfl ?_ | refine so rfl ?_)
  refine C_false rfl (by simp) ?_
  repeat (first | refine sc rfl ?_ | refine so rfl ?_)
  refine C_loop (fun i : Nat => ⟨[(0, SL 4 Evt.c E), (1, SL 4 Evt.c E), (5, I64 (i : Nat))], []⟩) (fun i => i ≤ E.length) (fun i => E.length - i) 0 (Nat.zero_le _) (Le.sub [] ⟨rfl, rfl, rfl, trivial⟩ rfl) ?_
  intro i hi
  repeat (first | refine sc rfl ?_ | refine so rfl ?_)
  refine C_if rfl (fun k1 => ?_) (fun k1 => ?_) <;> simp only [pL] at k1
  · repeat refine sc rfl ?_
    refine C_drawD rfl (by kernel_rfl) ?_
    repeat refine sd rfl ?_
    refine ⟨by omega, ?_⟩
    simp only [Int.toNat_natCast]
    repeat refine sd rfl ?_
    refine ⟨by omega, ?_⟩
    simp only [Int.toNat_natCast]
    repeat refine sd rfl ?_
    refine D_X (B false) (X_aggC (us := evV (E.getD i default)) (vs := evV (E.getD i default)) (b := true) (op := .neq) (fun e2 ys h => rep_ev _ e2 ys h) (fun e2 ys h => rep_ev _ e2 ys h) (fun w => eq_ev _ w) Tryz.eqGuardType54 (.inr rfl) rfl rfl rfl rfl) ?_
    repeat refine sd rfl ?_
    refine C_false rfl (by decide) ?_
    repeat (first | refine sc rfl ?_ | refine so rfl ?_)
    rw [w64 (x := (i : Int) + 1) (by omega) (by omega)]
    exact ⟨i + 1, by omega, by omega, Le.sub [] ⟨rfl, rfl, rfl, trivial⟩ rfl⟩
  · repeat (first | refine sc rfl ?_ | refine so rfl ?_)
    exact ⟨_, rfl, rfl, rfl⟩
end Go.Proofs

namespace Go.Proofs
open Go.Sy Go.Lib

def rEventF (key : Nat) (verb : List UInt8) (N : List Nat) (S : List (List UInt8)) : Evt × Int :=
  if verb = [111, 112, 101, 110] then (⟨1, 0, 0, []⟩, 0)
  else if verb = [116, 105, 99, 107] then (⟨3, 0, 0, []⟩, 0)
  else if verb = [115, 101, 114, 118, 101] then (⟨5, 0, 0, []⟩, 0)
  else if verb = [100, 114, 97, 119] then (⟨4, 0, ((N.getD 0 0 : Nat) : Int), []⟩, 0)
  else if verb = [100, 101, 108, 105, 118, 101, 114] then (⟨6, ((N.getD 0 0 : Nat) : Int), 0, []⟩, 0)
  else if verb = [114, 101, 115, 101, 116] then (⟨7, ((N.getD 0 0 : Nat) : Int), 0, []⟩, 0)
  else if verb = [114, 97, 119] then (⟨2, ((N.getD 0 0 : Nat) : Int), 0, S.getD 1 []⟩, 0)
  else if (rBodyF key verb N S).2.2 = false then (⟨0, 0, 0, []⟩, 1)
  else (⟨2, ((N.getD 0 0 : Nat) : Int), 0, fputL (rBodyF key verb N S).1 0 (rBodyF key verb N S).2.1⟩, fputE (rBodyF key verb N S).1 0 (rBodyF key verb N S).2.1)
theorem shapeF_C {w sh : List UInt8} (h : shapeF w = some sh) (h1 : w ≠ [111, 112, 101, 110]) (h2 : w ≠ [116, 105, 99, 107]) (h3 : w ≠ [115, 101, 114, 118, 101]) (h4 : w ≠ [107, 101, 121]) (h5 : w ≠ [100, 114, 97, 119]) : 0 < sh.length ∧ sh.getD 0 0 = 67 := by
  have p : ∀ {c : Prop} [Decidable c] {a : List UInt8} {b : Option (List UInt8)}, (if c then some a else b) = some sh → (0 < a.length ∧ a.getD 0 0 = 67) → (b = some sh → 0 < sh.length ∧ sh.getD 0 0 = 67) → 0 < sh.length ∧ sh.getD 0 0 = 67 := fun g1 g2 g3 => ite_some (fun z => 0 < z.length ∧ z.getD 0 0 = 67) g1 g2 g3
  unfold shapeF at h
  rw [if_neg (by rintro (e | e | e); exact h1 e; exact h2 e; exact h3 e), if_neg (by rintro (e | e); exact h4 e; exact h5 e)] at h
  exact p h (by decide) (fun h => p h (by decide) (fun h => p h (by decide) (fun h => p h (by decide) (fun h => p h (by decide) (fun h => p h (by decide) (fun h => p h (by decide) (fun h => p h (by decide) (fun h => p h (by decide) (fun h => by cases h)))))))))
theorem rBodyF_kind (key : Nat) (verb : List UInt8) (N : List Nat) (S : List (List UInt8)) : ∃ k : Nat, k ≤ 9 ∧ (rBodyF key verb N S).1 = k := by
  unfold rBodyF
  split
  · exact ⟨8, by decide, rfl⟩
  split
  · exact ⟨1, by decide, rfl⟩
  split
  · exact ⟨1, by decide, rfl⟩
  split
  · exact ⟨5, by decide, rfl⟩
  split
  · exact ⟨2, by decide, rfl⟩
  split
  · exact ⟨3, by decide, rfl⟩
  split
  · exact ⟨4, by decide, rfl⟩
  split
  · exact ⟨6, by decide, rfl⟩
  split
  · exact ⟨7, by decide, rfl⟩
  exact ⟨0, by decide, rfl⟩
theorem rOrdF_len (op : Int) (N : List Nat) (hid : N.getD 1 0 < 18446744073709551616) : (rOrdF op N).1.length ≤ 2000 := by
  unfold rOrdF
  split
  · split
    · exact Nat.zero_le _
    · exact ordP_len _ _ _ _ hid (cfP_len _)
  · exact ordP_len _ _ _ _ hid (cfP_len _)
theorem rBodyF_len (key : Nat) (verb : List UInt8) (N : List Nat) (S : List (List UInt8)) (hN : ∀ i, N.getD i 0 < 18446744073709551616) (hS : ∀ i, (S.getD i []).length ≤ 1000000) : (rBodyF key verb N S).2.1.length ≤ 9000000 := by
  have v : ∀ i, (vput (N.getD i 0)).length ≤ 10 := fun i => vput_len10 (hN i)
  have z : ∀ i, (spanF (S.getD i [])).length ≤ 1000010 := fun i => by
    have := vput_len10 (n := (S.getD i []).length) (by have := hS i; omega)
    have := hS i
    simp only [spanF, List.length_append]; omega
  have v1 := v 1
  have v2 := v 2
  have v3 := v 3
  have v5 := v 5
  have z3 := z 3
  have z4 := z 4
  have s2 := hS 2
  have s4 := hS 4
  unfold rBodyF
  split
  · exact Nat.le_trans (rOrdF_len _ N (hN 1)) (by omega)
  split
  · simp only [List.length_append]; omega
  split
  · have ht := tagF_r key
    generalize tagF (key : Int) = T at ht ⊢
    have := vput_len10 (n := T.toNat) (by omega)
    have a0 : (vput 0).length ≤ 10 := vput_len10 (by omega)
    have a1 : (vput 1).length ≤ 10 := vput_len10 (by omega)
    simp only [List.length_append]; omega
  split
  · exact Nat.zero_le _
  split
  · simp only [List.length_append]; omega
  split
  · simp only [List.length_append]; omega
  split
  · simp only []; omega
  split
  · simp only [List.length_append]; omega
  split
  · generalize spanF (S.getD 3 []) = Z3 at z3 ⊢
    generalize spanF (S.getD 4 []) = Z4 at z4 ⊢
    simp only [List.length_append]; omega
  exact Nat.zero_le _
theorem GOK.lt {sh : List UInt8} {N : List Nat} {S : List (List UInt8)} (h : GOK sh N S) (i : Nat) : N.getD i 0 < 18446744073709551616 := by
  rcases Nat.lt_or_ge i sh.length with hi | hi
  · have h1 := h.most i hi
    have h2 := mostF_le (sh.getD i 0)
    omega
  · rw [List.getD_eq_getElem?_getD, List.getElem?_eq_none (by rw [h.n]; exact hi)]
    decide
theorem GOK.le {sh : List UInt8} {N : List Nat} {S : List (List UInt8)} (h : GOK sh N S) (i : Nat) : (S.getD i []).length ≤ 1000000 := by
  rcases Nat.lt_or_ge i sh.length with hi | hi
  · exact h.txt i hi
  · rw [List.getD_eq_getElem?_getD, List.getElem?_eq_none (by rw [h.s]; exact hi)]
    decide
theorem rEvent_c (key : Nat) (verb : List UInt8) (N : List Nat) (S : List (List UInt8)) (sh : List UInt8) (hk : key < 18446744073709551616) (hsh : shapeF verb = some sh) (hg : GOK sh N S) (hkey : verb ≠ [107, 101, 121]) : FnP Tryz.prog 36 [U64 (key : Nat), .s verb, gotA N S] (· = .tup [.agg (Evt.c (rEventF key verb N S).1), I64 (rEventF key verb N S).2]) := by
  refine FnP.intro Tryz.tabOK Tryz.wide_ Tryz.func36 rfl (by decide) rfl (fun X => ?_)
  unfold rEventF
  repeat (first | refine sc rfl ?_ | refine so rfl ?_)
  refine C_if rfl (fun k1 => ?_) (fun k1 => ?_) <;> simp only [pL] at k1
  · subst k1
    rw [if_pos rfl]
    repeat (first | refine sc rfl ?_ | refine so rfl ?_)
    exact ⟨_, rfl, rfl, rfl⟩
  rw [if_neg k1]
  repeat (first | refine sc rfl ?_ | refine so rfl ?_)
  refine C_if rfl (fun k2 => ?_) (fun k2 => ?_) <;> simp only [pL] at k2
  · subst k2
    rw [if_pos rfl]
    repeat (first | refine sc rfl ?_ | refine so rfl ?_)
    exact ⟨_, rfl, rfl, rfl⟩
  rw [if_neg k2]
  repeat (first | refine sc rfl ?_ | refine so rfl ?_)
  refine C_if rfl (fun k3 => ?_) (fun k3 => ?_) <;> simp only [pL] at k3
  · subst k3
    rw [if_pos rfl]
    repeat (first | refine sc rfl ?_ | refine so rfl ?_)
    exact ⟨_, rfl, rfl, rfl⟩
  rw [if_neg k3]
  repeat (first | refine sc rfl ?_ | refine so rfl ?_)
  refine C_if rfl (fun k4 => ?_) (fun k4 => ?_) <;> simp only [pL] at k4
  · subst k4
    obtain rfl : sh = [78] := Option.some.inj (hsh.symm.trans (show shapeF _ = _ from rfl))
    obtain ⟨a, rfl⟩ : ∃ a, N = [a] := by
      match N, hg.n with
      | [a], _ => exact ⟨a, rfl⟩
    obtain ⟨s0, rfl⟩ : ∃ s0, S = [s0] := by
      match S, hg.s with
      | [s0], _ => exact ⟨s0, rfl⟩
    rw [if_pos rfl]
    repeat (first | refine sc rfl ?_ | refine so rfl ?_)
    refine ⟨by simp, ?_⟩
    simp only [show ([a] : List Nat).getD (Int.toNat 0) default = a from rfl]
    repeat (first | refine sc rfl ?_ | refine so rfl ?_)
    exact ⟨_, rfl, rfl, rfl⟩
  rw [if_neg k4]
  repeat (first | refine sc rfl ?_ | refine so rfl ?_)
  refine C_if rfl (fun k5 => ?_) (fun k5 => ?_) <;> simp only [pL] at k5
  · subst k5
    obtain rfl : sh = [67] := Option.some.inj (hsh.symm.trans (show shapeF _ = _ from rfl))
    obtain ⟨a, rfl⟩ : ∃ a, N = [a] := by
      match N, hg.n with
      | [a], _ => exact ⟨a, rfl⟩
    obtain ⟨s0, rfl⟩ : ∃ s0, S = [s0] := by
      match S, hg.s with
      | [s0], _ => exact ⟨s0, rfl⟩
    have hm0 : a ≤ 15 := hg.most 0 (by decide)
    rw [if_pos rfl]
    repeat (first | refine sc rfl ?_ | refine so rfl ?_)
    refine ⟨by simp, ?_⟩
    simp only [show ([a] : List Nat).getD (Int.toNat 0) default = a from rfl]
    repeat (first | refine sc rfl ?_ | refine so rfl ?_)
    rw [w64 (x := (a : Int)) (by omega) (by omega)]
    exact ⟨_, rfl, rfl, rfl⟩
  rw [if_neg k5]
  repeat (first | refine sc rfl ?_ | refine so rfl ?_)
  refine C_if rfl (fun k6 => ?_) (fun k6 => ?_) <;> simp only [pL] at k6
  · subst k6
    obtain rfl : sh = [67] := Option.some.inj (hsh.symm.trans (show shapeF _ = _ from rfl))
    obtain ⟨a, rfl⟩ : ∃ a, N = [a] := by
      match N, hg.n with
      | [a], _ => exact ⟨a, rfl⟩
    obtain ⟨s0, rfl⟩ : ∃ s0, S = [s0] := by
      match S, hg.s with
      | [s0], _ => exact ⟨s0, rfl⟩
    have hm0 : a ≤ 15 := hg.most 0 (by decide)
    rw [if_pos rfl]
    repeat (first | refine sc rfl ?_ | refine so rfl ?_)
    refine ⟨by simp, ?_⟩
    simp only [show ([a] : List Nat).getD (Int.toNat 0) default = a from rfl]
    repeat (first | refine sc rfl ?_ | refine so rfl ?_)
    rw [w64 (x := (a : Int)) (by omega) (by omega)]
    exact ⟨_, rfl, rfl, rfl⟩
  rw [if_neg k6]
  repeat (first | refine sc rfl ?_ | refine so rfl ?_)
  refine C_if rfl (fun k7 => ?_) (fun k7 => ?_) <;> simp only [pL] at k7
  · subst k7
    obtain rfl : sh = [67, 70] := Option.some.inj (hsh.symm.trans (show shapeF _ = _ from rfl))
    obtain ⟨a, b, rfl⟩ : ∃ a b, N = [a, b] := by
      match N, hg.n with
      | [a, b], _ => exact ⟨a, b, rfl⟩
    obtain ⟨s0, s1, rfl⟩ : ∃ s0 s1, S = [s0, s1] := by
      match S, hg.s with
      | [s0, s1], _ => exact ⟨s0, s1, rfl⟩
    have hm0 : a ≤ 15 := hg.most 0 (by decide)
    rw [if_pos rfl]
    repeat refine sc rfl ?_
    refine C_drawU 60 10 rfl (by kernel_rfl) (by kernel_rfl) (by kernel_rfl) ?_
    repeat refine sd rfl ?_
    refine ⟨by simp, ?_⟩
    simp only [show ([a, b] : List Nat).getD (Int.toNat 0) default = a from rfl]
    repeat refine sd rfl ?_
    rw [w64 (x := (a : Int)) (by omega) (by omega)]
    repeat refine sd rfl ?_
    refine ⟨by simp, ?_⟩
    simp only [show ([s0, s1] : List (List UInt8)).getD (Int.toNat 1) default = s1 from rfl]
    repeat (first | refine sd rfl ?_ | refine sdb rfl ?_)
    repeat (first | refine sc rfl ?_ | refine so rfl ?_)
    exact ⟨_, rfl, rfl, rfl⟩
  rw [if_neg k7]
  repeat (first | refine sc rfl ?_ | refine so rfl ?_)
  obtain ⟨hc0, hc1⟩ := shapeF_C hsh k1 k2 k3 hkey k4
  have hm := hg.most 0 hc0
  rw [hc1] at hm
  have hm0 : N.getD 0 0 ≤ 15 := hm
  have hnl := hg.n
  refine O_call (rBody_c key verb N S sh hk hsh hg) (by rfl) (by rfl) (by rfl) (by rfl) (fun r hr => ?_)
  subst hr
  obtain ⟨bk, hb1, hb2⟩ := rBodyF_kind key verb N S
  have hbl := rBodyF_len key verb N S hg.lt hg.le
  generalize rBodyF key verb N S = Bd at hb2 hbl ⊢
  obtain ⟨kd, bd, ok⟩ := Bd
  simp only [] at hb2 hbl
  subst hb2
  cases ok with
  | false =>
    repeat (first | refine sc rfl ?_ | refine so rfl ?_)
    refine C_true rfl rfl ?_
    repeat (first | refine sc rfl ?_ | refine so rfl ?_)
    exact ⟨_, rfl, rfl, rfl⟩
  | true =>
    simp only [Bool.true_eq_false, if_false]
    repeat (first | refine sc rfl ?_ | refine so rfl ?_)
    refine C_false rfl rfl ?_
    repeat (first | refine sc rfl ?_ | refine so rfl ?_)
    refine O_call (rFrame_c bk bd hb1 (by omega)) (by rfl) (by rfl) (by rfl) (by rfl) (fun r hr => ?_)
    subst hr
    repeat (first | refine sc rfl ?_ | refine so rfl ?_)
    refine ⟨by omega, ?_⟩
    repeat (first | refine sc rfl ?_ | refine so rfl ?_)
    simp only [show N.getD (Int.toNat 0) default = N.getD 0 0 from rfl]
    rw [w64 (x := ((N.getD 0 0 : Nat) : Int)) (by omega) (by omega)]
    exact ⟨_, rfl, rfl, rfl⟩
end Go.Proofs

namespace Go.Proofs
open Go.Sy Go.Lib

def tLast : List UInt8 → Bool
  | [] => true
  | c :: r => (!(c == 84) || r.isEmpty) && tLast r
theorem shapeF_last {w sh : List UInt8} (h : shapeF w = some sh) : tLast sh = true := by
  have p : ∀ {c : Prop} [Decidable c] {a : List UInt8} {b : Option (List UInt8)}, (if c then some a else b) = some sh → tLast a = true → (b = some sh → tLast sh = true) → tLast sh = true := fun h1 h2 h3 => ite_some (fun z => tLast z = true) h1 h2 h3
  unfold shapeF at h
  exact p h (by decide) (fun h => p h (by decide) (fun h => p h (by decide) (fun h => p h (by decide) (fun h => p h (by decide) (fun h => p h (by decide) (fun h => p h (by decide) (fun h => p h (by decide) (fun h => p h (by decide) (fun h => p h (by decide) (fun h => p h (by decide) (fun h => by cases h)))))))))))
theorem GOK.cons {c : UInt8} {sh : List UInt8} {n : Nat} {N : List Nat} {z : List UInt8} {S : List (List UInt8)} (h : GOK sh N S) (hn : n ≤ mostF c) (hz : z.length ≤ 1000000) : GOK (c :: sh) (n :: N) (z :: S) where
  n := by simp [h.n]
  s := by simp [h.s]
  most := fun i hi => by
    cases i with
    | zero => exact hn
    | succ i => exact h.most i (by simpa using hi)
  txt := fun i hi => by
    cases i with
    | zero => exact hz
    | succ i => exact h.txt i (by simpa using hi)
theorem GOK.nil : GOK [] [] [] := ⟨rfl, rfl, fun i hi => absurd hi (Nat.not_lt_zero _), fun i hi => absurd hi (Nat.not_lt_zero _)⟩
theorem take1_ok {c : UInt8} {w z : List UInt8} {n : Nat} (hw : w.length ≤ 1000000) (h : take1 c w = some (n, z)) : n ≤ mostF c ∧ z.length ≤ 1000000 := by
  unfold take1 at h
  split at h
  · rename_i hok
    simp only [Option.some.injEq, Prod.mk.injEq] at h
    obtain ⟨rfl, rfl⟩ := h
    refine ⟨?_, rawT_len c w hw⟩
    unfold rawT at hok ⊢
    by_cases h70 : c = 70
    · rw [if_pos h70]; exact Nat.zero_le _
    · by_cases h83 : c = 83
      · rw [if_neg h70, if_pos h83]; exact Nat.zero_le _
      · rw [if_neg h70, if_neg h83] at hok ⊢
        simp only [Bool.and_eq_true, decide_eq_true_eq] at hok
        exact hok.2
  · cases h
theorem takeL_ok : ∀ (sh : List UInt8) (l : List (List UInt8)), tLast sh = true → (∀ w ∈ l, w.length ≤ 1000000) → (l.map fun w => w.length + 1).sum ≤ 1000000 → (takeL sh l).2.2 = true → GOK sh (takeL sh l).1 (takeL sh l).2.1
  | [], l, _, _, _, _ => GOK.nil
  | c :: r, l, ht, hw, hj, hok => by
    simp only [tLast, Bool.and_eq_true, Bool.or_eq_true, Bool.not_eq_true', beq_eq_false_iff_ne, List.isEmpty_iff] at ht
    unfold takeL at hok ⊢
    by_cases h84 : c = 84
    · rw [if_pos h84]
      rcases ht.1 with h | h
      · exact absurd h84 h
      · subst h
        exact GOK.nil.cons (Nat.zero_le _) (Nat.le_trans (join_len l) hj)
    · rw [if_neg h84] at hok ⊢
      cases l with
      | nil => cases hok
      | cons w ws =>
        simp only [] at hok ⊢
        cases e : take1 c w with
        | none => rw [e] at hok; cases hok
        | some q =>
          obtain ⟨n, z⟩ := q
          rw [e] at hok
          simp only [] at hok ⊢
          obtain ⟨h1, h2⟩ := take1_ok (hw w (by simp)) e
          rw [List.map_cons, List.sum_cons] at hj
          exact (takeL_ok r ws ht.2 (fun v hv => hw v (by simp [hv])) (by omega) hok).cons h1 h2
def rLineF (x : Sht) (keyed : Bool) (n : Int) (w : List UInt8) (ws : List (List UInt8)) : (Sht × Bool) × Int := match shapeF w with
  | none => ((x, keyed), 6)
  | some sh => if w = [107, 101, 121] ∧ (keyed = true ∨ 0 < x.evs.length) then ((x, keyed), 17)
    else if (takeL sh ws).2.2 = false then ((x, keyed), 1)
    else if w = [107, 101, 121] then ((⟨(takeL sh ws).1.getD 0 0, x.evs, x.lns⟩, true), 0)
    else if (rEventF x.key w (takeL sh ws).1 (takeL sh ws).2.1).2 ≠ 0 then ((x, keyed), (rEventF x.key w (takeL sh ws).1 (takeL sh ws).2.1).2)
    else if 1024 ≤ x.evs.length then ((x, keyed), 3)
    else ((⟨x.key, x.evs ++ [(rEventF x.key w (takeL sh ws).1 (takeL sh ws).2.1).1], x.lns ++ [n]⟩, keyed), 0)
abbrev vE (h : Value) (A : List Evt) (m : Nat) : Abs := vecA h 54 4 m (fun i => Evt.c (A.getD i default))
abbrev vL (h : Value) (A : List Int) (m : Nat) : Abs := vecA h 3 1 m (fun i => INTc (A.getD i default))
abbrev shG (x : Sht) (k : Bool) (h1 h2 : Value) : List AV := [U64 (x.key : Nat), B k, .v h1, .v h2]
def LnP (Y : (Sht × Bool) × Int) (r : AV) (cs' : List Abs) : Prop := ∃ h1 h2, HV h1 Y.1.1.evs.length ∧ HV h2 Y.1.1.lns.length ∧ r = .tup [.agg (shG Y.1.1 Y.1.2 h1 h2), I64 Y.2] ∧ cs' = [vE h1 Y.1.1.evs Y.1.1.evs.length, vL h2 Y.1.1.lns Y.1.1.lns.length]
def CEv (base : List Ch) (v : Evt) (b10 b11 : Bool) : List Ch := bif b10 then .box 12 54 (bif b11 then Evt.c v else Evt.c default) :: base else base
def PEv : Pl := ⟨[[], [], [], [], [], [], [], [], [], [], [], [10]], [10, 11], [(10, 12)], []⟩
theorem rLine_A (x : Sht) (keyed : Bool) (h1 h2 : Value) (n : Int) (w : List UInt8) (ws : List (List UInt8)) (hk : x.key < 18446744073709551616) (k1 : HV h1 x.evs.length) (k2 : HV h2 x.lns.length) (he : x.evs.length ≤ 1024) (hl : x.lns.length ≤ 1024) (hT : ((w :: ws).map fun w => w.length + 1).sum ≤ 1000000) :
    FnA Tryz.prog 19 [.agg (shG x keyed h1 h2), I64 n, SL 1 wc1 (w :: ws)] [vE h1 x.evs x.evs.length, vL h2 x.lns x.lns.length] (LnP (rLineF x keyed n w ws)) := by
  refine FnA.intro Tryz.tabOK Tryz.wide_ Tryz.func19 rfl (by decide) rfl (fun X => ?_)
  obtain ⟨R0, hR0⟩ : ∃ R0, rLineF x keyed n w ws = R0 := ⟨_, rfl⟩
  rw [hR0]
  unfold rLineF at hR0
  repeat (first | refine sc rfl ?_ | refine so rfl ?_)
  refine ⟨by simp, ?_⟩
  simp only [show (w :: ws).getD (Int.toNat 0) default = w from rfl]
  repeat refine so rfl ?_
  refine O_call (rShape_c w) (by rfl) (by rfl) (by rfl) (by rfl) (fun r hr => ?_)
  subst hr
  cases hs : shapeF w with
  | none =>
    rw [hs] at hR0
    simp only [] at hR0
    subst hR0
    repeat (first | refine sc rfl ?_ | refine so rfl ?_)
    refine C_true rfl rfl ?_
    repeat (first | refine sc rfl ?_ | refine so rfl ?_)
    exact ⟨_, [_, _], _, rfl, pickA_perm (is := [2, 2]) (As := [_, _]) rfl, rfl, ⟨h1, h2, k1, k2, rfl, rfl⟩⟩
  | some sh =>
    rw [hs] at hR0
    simp only [] at hR0
    have hslen := shapeF_len hs
    repeat (first | refine sc rfl ?_ | refine so rfl ?_)
    refine C_false rfl rfl ?_
    refine sc rfl ?_
    refine C_seq (C_joinP (¬ (w = [107, 101, 121] ∧ (keyed = true ∨ 0 < x.evs.length))) ⟨[(0, .agg (shG x keyed h1 h2)), (1, I64 n), (2, SL 1 wc1 (w :: ws)), (3, .bp 3 0), (6, .bp 6 0), (8, .s sh)], [.box 3 35 (shG x keyed h1 h2), .box 6 35 (shG Sht.nil false (.slice none 0 0) (.slice none 0 0)), .abs (vE h1 x.evs x.evs.length), .abs (vL h2 x.lns x.lns.length)]⟩ ?_ (fun hb s0 hs0 => C_le _ hs0 ?_))
    · repeat (first | refine sc rfl ?_ | refine so rfl ?_)
      refine ⟨by simp, ?_⟩
      simp only [show (w :: ws).getD (Int.toNat 0) default = w from rfl]
      repeat refine so rfl ?_
      refine O_case 28 rfl (fun m1 => ?_) (fun m1 => ?_) <;> simp only [pL] at m1
      · cases keyed with
        | true =>
          rw [if_pos ⟨m1, .inl rfl⟩] at hR0
          subst hR0
          repeat refine so rfl ?_
          refine C_true rfl rfl ?_
          repeat (first | refine sc rfl ?_ | refine so rfl ?_)
          exact ⟨_, [_, _], _, rfl, pickA_perm (is := [2, 2]) (As := [_, _]) rfl, rfl, ⟨h1, h2, k1, k2, rfl, rfl⟩⟩
        | false =>
          repeat refine so rfl ?_
          refine O_Xd (X_lenV 2 rfl rfl rfl rfl rfl) ?_
          repeat refine so rfl ?_
          refine C_if rfl (fun m3 => ?_) (fun m3 => ?_) <;> simp only [pL] at m3
          · rw [if_pos ⟨m1, .inr (by omega)⟩] at hR0
            subst hR0
            repeat (first | refine sc rfl ?_ | refine so rfl ?_)
            exact ⟨_, [_, _], _, rfl, pickA_perm (is := [2, 2]) (As := [_, _]) rfl, rfl, ⟨h1, h2, k1, k2, rfl, rfl⟩⟩
          · repeat refine sc rfl ?_
            exact ⟨fun h => by rcases h.2 with h | h; cases h; omega, Le.pick [1, 0, 0, 0] ⟨rfl, rfl, rfl, rfl, rfl, rfl, trivial⟩ rfl⟩
      · repeat refine so rfl ?_
        refine C_false rfl rfl ?_
        repeat refine sc rfl ?_
        exact ⟨fun h => m1 h.1, Le.pick [1, 0, 0, 0] ⟨rfl, rfl, rfl, rfl, rfl, rfl, trivial⟩ rfl⟩
    rw [if_neg hb] at hR0
    have hT2 : (ws.map fun w => w.length + 1).sum ≤ 1000000 := by rw [List.map_cons, List.sum_cons] at hT; omega
    repeat (first | refine sc rfl ?_ | refine so rfl ?_)
    refine ⟨by simp; omega, ?_⟩
    rw [sl_tail]
    repeat refine sc rfl ?_
    refine O_call (rTake_P sh ws (by omega) (by have := sum_len ws; omega) (fun v hv => by have := sum_mem hv; omega) hT2) (by rfl) (by rfl) (by rfl) (by rfl) (fun r hr => ?_)
    subst hr
    have hok := takeL_ok sh ws (shapeF_last hs) (fun v hv => by have := sum_mem hv; omega) hT2
    generalize takeL sh ws = TK at hR0 hok ⊢
    obtain ⟨N, S, ok⟩ := TK
    simp only [] at hR0 hok
    cases ok with
    | false =>
      rw [if_pos rfl] at hR0
      subst hR0
      repeat (first | refine sc rfl ?_ | refine so rfl ?_)
      refine C_true rfl rfl ?_
      repeat (first | refine sc rfl ?_ | refine so rfl ?_)
      exact ⟨_, [_, _], _, rfl, pickA_perm (is := [3, 3]) (As := [_, _]) rfl, rfl, ⟨h1, h2, k1, k2, rfl, rfl⟩⟩
    | true =>
      rw [if_neg (by decide)] at hR0
      have hg := hok rfl
      repeat (first | refine sc rfl ?_ | refine so rfl ?_)
      refine C_false rfl rfl ?_
      repeat (first | refine sc rfl ?_ | refine so rfl ?_)
      refine ⟨by simp, ?_⟩
      simp only [show (w :: ws).getD (Int.toNat 0) default = w from rfl]
      repeat refine so rfl ?_
      refine C_if rfl (fun m5 => ?_) (fun m5 => ?_) <;> simp only [pL] at m5
      · rw [if_pos m5] at hR0
        subst hR0
        have hsh1 : sh = [78] := by rw [m5] at hs; exact Option.some.inj (hs.symm.trans (show shapeF _ = _ from rfl))
        have hn1 : N.length = 1 := by rw [hg.n, hsh1]; rfl
        repeat (first | refine sc rfl ?_ | refine so rfl ?_)
        refine ⟨by omega, ?_⟩
        simp only [show N.getD (Int.toNat 0) default = N.getD 0 0 from rfl]
        repeat (first | refine sc rfl ?_ | refine so rfl ?_)
        exact ⟨_, [_, _], _, rfl, pickA_perm (is := [3, 3]) (As := [_, _]) rfl, rfl, ⟨h1, h2, k1, k2, rfl, rfl⟩⟩
      · rw [if_neg m5] at hR0
        repeat refine sc rfl ?_
        refine C_le _ (Le.freezebox 10 rfl rfl rfl) ?_
        refine C_le ⟨[(1, I64 n), (2, SL 1 wc1 (w :: ws)), (3, .bp 3 0), (6, .bp 6 0), (10, .cp [SL 1 u64c N, SL 1 wc1 S])], [Ch.box 3 35 (shG x keyed h1 h2), Ch.box 6 35 (shG Sht.nil false (.slice none 0 0) (.slice none 0 0)), Ch.abs (vE h1 x.evs x.evs.length), Ch.abs (vL h2 x.lns x.lns.length)]⟩ (Le.pick [0, 0, 0, 0] ⟨rfl, rfl, rfl, rfl, rfl, trivial⟩ rfl) ?_
        have hR := rEvent_c x.key w N S sh hk hs hg m5
        generalize rEventF x.key w N S = EV at hR0 hR
        obtain ⟨v, e⟩ := EV
        simp only [] at hR0
        refine C_drawM PEv (fun L => CEv [Ch.box 3 35 (shG x keyed h1 h2), Ch.box 6 35 (shG Sht.nil false (.slice none 0 0) (.slice none 0 0)), Ch.abs (vE h1 x.evs x.evs.length), Ch.abs (vL h2 x.lns x.lns.length)] v (L 10) (L 11)) rfl (by kernel_rfl) (fun L L' h => by show CEv _ v (L 10) (L 11) = CEv _ v (L' 10) (L' 11); rw [h 10 (by decide), h 11 (by decide)]) rfl ?_
        refine sm rfl ⟨trivial, ?_⟩
        refine SM (U64 (x.key : Nat)) rfl (fun L h1 h2 h3 => ?_) ?_
        · show StepX _ _ _ _ _ (CEv _ v (L 10) (L 11)) (CEv _ v (L 10) (L 11)) _ _ _
          cases L 10 <;> cases L 11 <;> exact X_stillX rfl rfl rfl trivial
        refine sm rfl ⟨trivial, ?_⟩
        refine sm rfl ⟨by simp, ?_⟩
        simp only [show (w :: ws).getD (Int.toNat 0) default = w from rfl]
        refine sm rfl ⟨trivial, ?_⟩
        refine sm rfl ⟨trivial, ?_⟩
        refine SM (.tup [.agg (Evt.c v), I64 e]) rfl (fun L h1 h2 h3 => X_callA [] (FnP.toA hR []) rfl rfl rfl rfl rfl) ?_
        refine sm rfl ⟨trivial, ?_⟩
        refine sm rfl ⟨trivial, ?_⟩
        refine sm rfl ⟨trivial, ?_⟩
        refine SM (.bp 12 0) rfl (fun L h1 h2 h3 => ?_) ?_
        · show StepX _ _ _ _ _ (CEv _ v (L 10) (L 11)) (CEv _ v true (L 11)) _ _ _
          rw [show L 10 = false from h3, h2 11 (show (10 : Nat) ∈ PEv.anc 11 by decide)]
          exact X_alloc rfl rfl rfl rfl (show ((10, 12) : Nat × Nat) ∈ PEv.cre by decide) rfl rfl rfl
        refine SM .bad rfl (fun L h1 h2 h3 => ?_) ?_
        · show StepX _ _ _ _ _ (CEv _ v (L 10) (L 11)) (CEv _ v (L 10) true) _ _ _
          rw [show L 11 = false from h3, h1 10 (show (10 : Nat) ∈ PEv.anc 11 by decide)]
          exact X_storeK rfl rfl rfl rfl rfl rfl rfl rfl rfl
        refine sm rfl ⟨trivial, ?_⟩
        refine sm rfl ?_
        show SymC _ _ _ ⟨_, [.box 12 54 (Evt.c v), .box 3 35 (shG x keyed h1 h2), .box 6 35 (shG Sht.nil false (.slice none 0 0) (.slice none 0 0)), .abs (vE h1 x.evs x.evs.length), .abs (vL h2 x.lns x.lns.length)]⟩ _
        repeat (first | refine sc rfl ?_ | refine so rfl ?_)
        refine C_if rfl (fun m6 => ?_) (fun m6 => ?_) <;> simp only [pL] at m6
        · rw [if_pos m6] at hR0
          subst hR0
          repeat (first | refine sc rfl ?_ | refine so rfl ?_)
          exact ⟨_, [_, _], _, rfl, pickA_perm (is := [3, 3]) (As := [_, _]) rfl, rfl, ⟨h1, h2, k1, k2, rfl, rfl⟩⟩
        rw [if_neg (fun h => h m6)] at hR0
        repeat (first | refine sc rfl ?_ | refine so rfl ?_)
        refine O_Xd (X_lenV 3 rfl rfl rfl rfl rfl) ?_
        repeat refine so rfl ?_
        refine C_if rfl (fun m7 => ?_) (fun m7 => ?_) <;> simp only [pL] at m7
        · rw [if_pos (by omega)] at hR0
          subst hR0
          repeat (first | refine sc rfl ?_ | refine so rfl ?_)
          exact ⟨_, [_, _], _, rfl, pickA_perm (is := [3, 3]) (As := [_, _]) rfl, rfl, ⟨h1, h2, k1, k2, rfl, rfl⟩⟩
        rw [if_neg (by omega)] at hR0
        subst hR0
        repeat (first|refine sc rfl ?_|refine so rfl ?_|refine sb rfl ?_)
        refine O_le _ (Le.freeze 82 rfl rfl) ?_
        refine O_pushV Evt.c x.evs v 3 rfl rfl rfl rfl rfl rfl rfl rfl rfl rfl rfl (by omega) (by simp only [maxLen]; omega) (fun v1 hv1 => ?_)
        rcases hv1 with ⟨hv0, _⟩ | ⟨gg1, cc1, rfl⟩
        · omega
        repeat (first|refine sc rfl ?_|refine so rfl ?_|refine sb rfl ?_)
        refine O_le _ (Le.freeze 88 rfl rfl) ?_
        refine O_pushV INTc x.lns n 4 rfl rfl rfl rfl rfl rfl rfl rfl rfl rfl rfl (by omega) (by simp only [maxLen]; omega) (fun v1 hv1 => ?_)
        rcases hv1 with ⟨hv0, _⟩ | ⟨gg2, cc2, rfl⟩
        · omega
        repeat (first | refine sc rfl ?_ | refine so rfl ?_)
        have hfin : LnP ((⟨x.key, x.evs ++ [v], x.lns ++ [n]⟩, keyed), 0) (.tup [.agg (shG ⟨x.key, x.evs ++ [v], x.lns ++ [n]⟩ keyed (HD gg1 (x.evs.length + 1) cc1) (HD gg2 (x.lns.length + 1) cc2)), I64 0]) [vE (HD gg1 (x.evs.length + 1) cc1) (x.evs ++ [v]) (x.evs.length + 1), vL (HD gg2 (x.lns.length + 1) cc2) (x.lns ++ [n]) (x.lns.length + 1)] :=
          ⟨_, _, .inr ⟨gg1, cc1, by simp⟩, .inr ⟨gg2, cc2, by simp⟩, rfl, by simp⟩
        exact ⟨_, [_, _], _, rfl, pickA_perm (is := [3, 2]) (As := [_, _]) rfl, rfl, hfin⟩
end Go.Proofs
