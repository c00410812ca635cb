/- Whence a row has its table's block. -/
import Derived.Test.YtpkbclagmkgpkaaGreatDoorQ9
import Derived.Lib.LaidTab
import Derived.HandedShaped
import Derived.Test.YtpkbclagmkgpkaaGreatDoorQ3
import Derived.Test.YtpkbclagmkgpkaaGreatDoorQ8
import Derived.Test.YtpkbclagmkgpkaaGreatDoorQ5
import Derived.Laws.World
set_option linter.unusedSimpArgs false
set_option linter.unusedVariables false
set_option maxRecDepth 100000
namespace Go.Proofs
open Go.Sy Go.Lib

theorem laid_mem {P : Program} {W : World} {name : String} {d : DataW Unit} : ∀ {laid : List (String × DataW Unit)} {ps : List MemPlace}, DataW.LaidVars P W laid ps → (name, d) ∈ laid →
    ∃ g t cs fuel p, P.globalNamed name = some g ∧ (P.globals[g]?).map (·.type) = some t ∧ W.var? P name = some cs ∧ DataW.trod (fun _ => ()) P W 0 (fun _ => true) false fuel t cs.toList = some (d, p)
  | [], _, _, h => by cases h
  | (n, e) :: r, ps, ⟨g, t, cs, fuel, p, q, a1, a2, a3, a4, a5, _⟩, h => by
    rcases List.mem_cons.1 h with h | h
    · cases h
      exact ⟨g, t, cs, fuel, p, a1, a2, a3, a4⟩
    · exact laid_mem a5 h
theorem tabIs_mem {P : Program} {W : World} {name : String} {k : IntKind} {zs : List Int} {laid : List (String × DataW Unit)} {g : Nat} {t e : TypeId} {n : Nat}
    (hg : P.globalNamed name = some g) (hty : (P.globals[g]?).map (·.type) = some t) (ht : P.underlying t = some (.array n e)) (he : P.underlying e = some (.int k)) (hce : P.cellsOf e = 1) (hct : P.cellsOf t = n)
    (h : laidMet P laid W) (hm : (name, tabData k zs) ∈ laid) : TabIs P W name k zs := by
  obtain ⟨ps, hl, _⟩ := h
  obtain ⟨g', t', cs, fuel, p, hg', ht', hvar, hd⟩ := laid_mem hl hm
  obtain rfl := Option.some.inj (hg.symm.trans hg')
  obtain rfl := Option.some.inj (hty.symm.trans ht')
  unfold TabIs
  rw [hvar, ← cells_of_tab ht he hce hct hd]
theorem pow_blk {W : World} {laid : List (String × DataW Unit)} (hsh : W.ShapedOpen Tryz.prog) (h : laidMet Tryz.prog laid W) (hm : ("internal/strconv.uint64pow10", tabData .u64 Lib.pow10Tab) ∈ laid) : W.heap[1]? = some (.cells powV 285 (0, 0)) := by
  have hg : Tryz.prog.globalNamed "internal/strconv.uint64pow10" = some 1 := by kernel_rfl
  have ht := tabIs_mem (P := Tryz.prog) (g := 1) (t := 285) (e := 24) (n := 20) hg (by kernel_rfl) Tryz.underlying285 Tryz.underlying24 (by kernel_rfl) (by kernel_rfl) h hm
  obtain ⟨cs, hh, _, _⟩ := hsh.1 1 (Array.replicate 20 (.int .u64 0)) 285 (of_decide_eq_true (by kernel_rfl)) (by kernel_rfl)
  unfold TabIs World.var? at ht
  rw [hg] at ht
  simp only [Option.bind_some, hh] at ht
  rw [hh, Option.some.inj ht]
  rfl
end Go.Proofs

namespace Go.Proofs
open Go.Sy Go.Lib Go.RowKit Go.ChangeShapes Go.WideShapes Go.ChangeAt

theorem opensS : OpensA Tryz.prog [9] (fun p : List UInt8 × Unit => [.s p.1]) (fun p => p.1.length ≤ maxLen ∧ True) := opensA_cons (opensV_string Tryz.underlying9) opensA_nil
end Go.Proofs

namespace Go.Proofs
open Go.Sy Go.Lib

abbrev wc1 (w : List UInt8) : List AV := [.s w]
abbrev curA (c : Nat) (l : List (List UInt8)) (bad : Bool) : Abs := boxA c 49 [SL 1 wc1 l, B bad]
theorem sl_tail (w : List UInt8) (r : List (List UInt8)) : AV.sl ((w :: r).length - Int.toNat 1) 1 (fun j => (fun i => wc1 ((w :: r).getD i default)) (Int.toNat 1 + j)) = SL 1 wc1 r := by
  have : (fun j => (fun i => wc1 ((w :: r).getD i default)) (Int.toNat 1 + j)) = fun j => wc1 (r.getD j default) := by
    funext j
    show wc1 ((w :: r).getD (1 + j) default) = _
    rw [Nat.add_comm]
    rfl
  rw [this]
  rfl
theorem word_A (c : Nat) (l : List (List UInt8)) (bad : Bool) : FnA Tryz.prog 30 [PT c 0] [curA c l bad] (fun r cs' => r = .s (l.headD []) ∧ cs' = [curA c l.tail (bad || l.isEmpty)]) := by
  refine FnA.intro Tryz.tabOK Tryz.wide_ Tryz.func30 rfl (by decide) rfl (fun X => ?_)
  cases l with
  | nil =>
    repeat (first | refine sc rfl ?_ | refine so rfl ?_)
    refine O_loadP 0 (reads_box 0) rfl rfl rfl rfl rfl rfl ?_
    repeat refine so rfl ?_
    refine C_true rfl rfl ?_
    repeat (first | refine sc rfl ?_ | refine so rfl ?_)
    refine O_Xn (X_storeP 0 (writes_box (by show 1 < 2; decide)) rfl rfl rfl rfl rfl rfl rfl) ?_
    repeat (first | refine sc rfl ?_ | refine so rfl ?_)
    exact ⟨_, [_], _, rfl, pickA_perm (is := [0]) (As := [_]) rfl, rfl, rfl, by cases bad <;> rfl⟩
  | cons w r =>
    repeat (first | refine sc rfl ?_ | refine so rfl ?_)
    refine O_loadP 0 (reads_box 0) rfl rfl rfl rfl rfl rfl ?_
    repeat refine so rfl ?_
    refine C_false rfl (by simp; omega) ?_
    repeat (first | refine sc rfl ?_ | refine so rfl ?_)
    refine O_loadP 0 (reads_box 0) rfl rfl rfl rfl rfl rfl ?_
    repeat refine so rfl ?_
    refine ⟨by simp, ?_⟩
    repeat (first | refine sc rfl ?_ | refine so rfl ?_)
    refine O_loadP 0 (reads_box 0) rfl rfl rfl rfl rfl rfl ?_
    repeat refine so rfl ?_
    refine ⟨by simp; omega, ?_⟩
    rw [sl_tail]
    repeat refine so rfl ?_
    refine O_Xn (X_storeP 0 (writes_box (by show 0 < 2; decide)) rfl rfl rfl rfl rfl rfl rfl) ?_
    repeat (first | refine sc rfl ?_ | refine so rfl ?_)
    exact ⟨_, [_], _, rfl, pickA_perm (is := [0]) (As := [_]) rfl, rfl, rfl, by cases bad <;> rfl⟩
def numL (w0 : UInt8) : Nat → Nat → List UInt8 → Option Nat
  | _, n, [] => some n
  | i, n, x :: r => if (x - 48).toNat > 9 ∨ n > (18446744073709551615 - (x - 48).toNat) / 10 ∨ (0 < i ∧ w0 = 48) then none else numL w0 (i + 1) (n * 10 + (x - 48).toNat) r
def numF (w : List UInt8) : Option Nat := numL (w.headD 0) 0 0 w
def smallF (most : Nat) (w : List UInt8) : Option Nat := match numF w with
  | some n => if n > most then none else some n
  | none => none
theorem numL_lt (w0 : UInt8) : ∀ (l : List UInt8) (i n m : Nat), n < 18446744073709551616 → numL w0 i n l = some m → m < 18446744073709551616
  | [], i, n, m, h, e => by simp only [numL, Option.some.injEq] at e; omega
  | x :: r, i, n, m, h, e => by
    simp only [numL] at e
    split at e
    · cases e
    · refine numL_lt w0 r (i + 1) _ m ?_ e
      omega
theorem numF_lt {w : List UInt8} {m : Nat} (e : numF w = some m) : m < 18446744073709551616 := numL_lt _ w 0 0 m (by decide) e
theorem u8sub (x : UInt8) : IntKind.u8.wrap ((x.toNat : Int) - 48) = (((x - 48).toNat : Nat) : Int) := by
  have h := UInt8.toNat_sub x 48
  have h2 := UInt8.toNat_lt x
  have h3 : (48 : UInt8).toNat = 48 := rfl
  rw [h3] at h
  simp only [IntKind.wrap, show IntKind.u8.signed = false from rfl, show IntKind.u8.bits = 8 from rfl, Bool.false_and, Bool.false_eq_true, if_false]
  omega
theorem num_A (c : Nat) (l : List (List UInt8)) (bad : Bool) (hw : (l.headD []).length ≤ 1000000) : FnA Tryz.prog 31 [PT c 0] [curA c l bad] (fun r cs' => r = U64 (((numF (l.headD [])).getD 0 : Nat) : Int) ∧ cs' = [curA c l.tail (bad || l.isEmpty || (numF (l.headD [])).isNone)]) := by
  refine FnA.intro Tryz.tabOK Tryz.wide_ Tryz.func31 rfl (by decide) rfl (fun X => ?_)
  repeat (first | refine sc rfl ?_ | refine so rfl ?_)
  refine O_callA [0] (word_A c l bad) (by rfl) (by rfl) (by rfl) (by rfl) (by rfl) ?_
  rintro r' cs' ⟨rfl, rfl⟩
  generalize hwe : l.headD [] = w at hw ⊢
  generalize hbe : (bad || l.isEmpty) = b1
  generalize hte : l.tail = l1
  repeat (first | refine sc rfl ?_ | refine so rfl ?_)
  refine C_loop (fun (q : Nat × Nat) => ⟨[(0, PT c 0), (3, .s w), (4, U64 (q.2 : Nat)), (10, I64 (w.length : Nat)), (11, I64 (q.1 : Nat))], [.abs (curA c l1 b1)]⟩) (fun q => q.1 ≤ w.length ∧ q.2 < 18446744073709551616 ∧ numL (w.headD 0) q.1 q.2 (w.drop q.1) = numF w) (fun q => w.length - q.1) (0, 0) ⟨Nat.zero_le _, by decide, rfl⟩ (Le.pick [0] ⟨rfl, rfl, rfl, rfl, rfl, trivial⟩ rfl) ?_
  rintro ⟨i, n⟩ ⟨hi, hn, hq⟩
  simp only [] at hi hn hq
  repeat (first | refine sc rfl ?_ | refine so rfl ?_)
  refine C_if rfl (fun m1 => ?_) (fun m1 => ?_) <;> simp only [pL] at m1
  · have hil : i < w.length := by omega
    obtain ⟨x, hxe⟩ : ∃ x, w.getD i 0 = x := ⟨_, rfl⟩
    have hd : w.drop i = x :: w.drop (i + 1) := by
      rw [List.drop_eq_getElem_cons hil, ← hxe, List.getD_eq_getElem?_getD, List.getElem?_eq_getElem hil]; rfl
    rw [hd] at hq
    simp only [numL] at hq
    repeat (first | refine sc rfl ?_ | refine so rfl ?_)
    refine ⟨by omega, ?_⟩
    simp only [Int.toNat_natCast, hxe]
    have hsub := u8sub x
    obtain ⟨d, hde⟩ : ∃ d, (x - 48).toNat = d := ⟨_, rfl⟩
    have hd256 : d < 256 := by rw [← hde]; exact UInt8.toNat_lt _
    rw [hde] at hq hsub
    repeat (first | refine sc rfl ?_ | refine so rfl ?_)
    rw [hsub]
    repeat refine sc rfl ?_
    refine O_case 20 rfl (fun h1 => ?_) (fun h1 => ?_) <;> simp only [pL] at h1
    · repeat refine so rfl ?_
      rw [if_pos (.inl (by omega))] at hq
      refine C_true rfl rfl ?_
      repeat (first | refine sc rfl ?_ | refine so rfl ?_)
      refine O_Xn (X_storeP 0 (writes_box (by show 1 < 2; decide)) rfl rfl rfl rfl rfl rfl rfl) ?_
      repeat (first | refine sc rfl ?_ | refine so rfl ?_)
      rw [← hq]
      exact ⟨_, [_], _, rfl, pickA_perm (is := [0]) (As := [_]) rfl, rfl, rfl, by cases b1 <;> rfl⟩
    repeat refine so rfl ?_
    refine ⟨by decide, ?_⟩
    rw [u64wrap (x := (d : Int)) (by omega) (by omega), u64wrap (x := 18446744073709551615 - (d : Int)) (by omega) (by omega), show IntKind.u64.wrap ((18446744073709551615 - (d : Int)).tdiv 10) = (((18446744073709551615 - d) / 10 : Nat) : Int) by rw [Int.tdiv_eq_ediv_of_nonneg (by omega), u64wrap (by omega) (by omega)]; omega]
    repeat refine so rfl ?_
    refine O_case 28 rfl (fun h2 => ?_) (fun h2 => ?_) <;> simp only [pL] at h2
    · repeat refine so rfl ?_
      rw [if_pos (.inr (.inl (by omega)))] at hq
      refine C_true rfl rfl ?_
      repeat (first | refine sc rfl ?_ | refine so rfl ?_)
      refine O_Xn (X_storeP 0 (writes_box (by show 1 < 2; decide)) rfl rfl rfl rfl rfl rfl rfl) ?_
      repeat (first | refine sc rfl ?_ | refine so rfl ?_)
      rw [← hq]
      exact ⟨_, [_], _, rfl, pickA_perm (is := [0]) (As := [_]) rfl, rfl, rfl, by cases b1 <;> rfl⟩
    repeat refine so rfl ?_
    refine O_case 31 rfl (fun h3 => ?_) (fun h3 => ?_) <;> simp only [pL] at h3
    · have h0 : w.getD 0 0 = w.headD 0 := by cases w <;> rfl
      repeat refine so rfl ?_
      refine ⟨by omega, ?_⟩
      rw [show Int.toNat 0 = 0 from rfl, h0]
      repeat refine so rfl ?_
      refine C_if rfl (fun h4 => ?_) (fun h4 => ?_) <;> simp only [pL] at h4
      · have h5 : w.headD 0 = 48 := UInt8.toNat_inj.1 (by show (w.headD 0).toNat = 48; omega)
        rw [if_pos (.inr (.inr ⟨by omega, h5⟩))] at hq
        repeat (first | refine sc rfl ?_ | refine so rfl ?_)
        refine O_Xn (X_storeP 0 (writes_box (by show 1 < 2; decide)) rfl rfl rfl rfl rfl rfl rfl) ?_
        repeat (first | refine sc rfl ?_ | refine so rfl ?_)
        rw [← hq]
        exact ⟨_, [_], _, rfl, pickA_perm (is := [0]) (As := [_]) rfl, rfl, rfl, by cases b1 <;> rfl⟩
      · have h5 : ¬ w.headD 0 = 48 := fun e => by rw [e] at h4; exact h4 rfl
        rw [if_neg (by rintro (h | h | h); omega; omega; exact h5 h.2)] at hq
        repeat (first | refine sc rfl ?_ | refine so rfl ?_)
        rw [u64wrap (x := (n : Int) * 10) (by omega) (by omega)]
        repeat refine sc rfl ?_
        rw [u64wrap (x := (d : Int)) (by omega) (by omega), u64wrap (x := (n : Int) * 10 + (d : Int)) (by omega) (by omega), w64 (x := (i : Int) + 1) (by omega) (by omega), show (n : Int) * 10 + (d : Int) = ((n * 10 + d : Nat) : Int) by omega]
        exact ⟨(i + 1, n * 10 + d), ⟨hil, by simp only []; omega, hq⟩, by simp only []; omega, Le.pick [0] ⟨rfl, rfl, rfl, rfl, rfl, trivial⟩ rfl⟩
    · repeat refine so rfl ?_
      refine C_false rfl rfl ?_
      rw [if_neg (by rintro (h | h | h) <;> omega)] at hq
      repeat (first | refine sc rfl ?_ | refine so rfl ?_)
      rw [u64wrap (x := (n : Int) * 10) (by omega) (by omega)]
      repeat refine sc rfl ?_
      rw [u64wrap (x := (d : Int)) (by omega) (by omega), u64wrap (x := (n : Int) * 10 + (d : Int)) (by omega) (by omega), w64 (x := (i : Int) + 1) (by omega) (by omega), show (n : Int) * 10 + (d : Int) = ((n * 10 + d : Nat) : Int) by omega]
      exact ⟨(i + 1, n * 10 + d), ⟨hil, by simp only []; omega, hq⟩, by simp only []; omega, Le.pick [0] ⟨rfl, rfl, rfl, rfl, rfl, trivial⟩ rfl⟩
  · obtain rfl : i = w.length := by omega
    rw [List.drop_length] at hq
    simp only [numL] at hq
    rw [← hq]
    repeat (first | refine sc rfl ?_ | refine so rfl ?_)
    exact ⟨_, [_], _, rfl, pickA_perm (is := [0]) (As := [_]) rfl, rfl, rfl, by cases b1 <;> rfl⟩
theorem small_A (c : Nat) (l : List (List UInt8)) (bad : Bool) (most : Nat) (hm : most ≤ 9223372036854775807) (hw : (l.headD []).length ≤ 1000000) : FnA Tryz.prog 69 [PT c 0, I64 (most : Nat)] [curA c l bad] (fun r cs' => r = I64 (((smallF most (l.headD [])).getD 0 : Nat) : Int) ∧ cs' = [curA c l.tail (bad || l.isEmpty || (smallF most (l.headD [])).isNone)]) := by
  refine FnA.intro Tryz.tabOK Tryz.wide_ Tryz.func69 rfl (by decide) rfl (fun X => ?_)
  repeat (first | refine sc rfl ?_ | refine so rfl ?_)
  refine O_callA [0] (num_A c l bad hw) (by rfl) (by rfl) (by rfl) (by rfl) (by rfl) ?_
  rintro r' cs' ⟨rfl, rfl⟩
  generalize (bad || l.isEmpty) = b1
  generalize l.tail = l1
  unfold smallF
  cases hn : numF (l.headD []) with
  | none =>
    simp only [Option.getD_none, Option.isNone_none]
    repeat (first | refine sc rfl ?_ | refine so rfl ?_)
    rw [u64wrap (x := (most : Int)) (by omega) (by omega)]
    repeat refine sc rfl ?_
    refine C_false rfl (by simp) ?_
    repeat (first | refine sc rfl ?_ | refine so rfl ?_)
    exact ⟨_, [_], _, rfl, pickA_perm (is := [0]) (As := [_]) rfl, rfl, rfl, rfl⟩
  | some n =>
    have hlt := numF_lt hn
    simp only [Option.getD_some, Option.isNone_some]
    repeat (first | refine sc rfl ?_ | refine so rfl ?_)
    rw [u64wrap (x := (most : Int)) (by omega) (by omega)]
    repeat refine sc rfl ?_
    refine C_if rfl (fun h1 => ?_) (fun h1 => ?_) <;> simp only [pL] at h1
    · rw [if_pos (by omega)]
      repeat (first | refine sc rfl ?_ | refine so rfl ?_)
      refine O_Xn (X_storeP 0 (writes_box (by show 1 < 2; decide)) rfl rfl rfl rfl rfl rfl rfl) ?_
      repeat (first | refine sc rfl ?_ | refine so rfl ?_)
      exact ⟨_, [_], _, rfl, pickA_perm (is := [0]) (As := [_]) rfl, rfl, rfl, by cases b1 <;> rfl⟩
    · rw [if_neg (by omega)]
      repeat (first | refine sc rfl ?_ | refine so rfl ?_)
      rw [w64 (x := (n : Int)) (by omega) (by omega)]
      exact ⟨_, [_], _, rfl, pickA_perm (is := [0]) (As := [_]) rfl, rfl, rfl, rfl⟩
theorem done_A (c : Nat) (l : List (List UInt8)) (bad : Bool) : FnA Tryz.prog 32 [PT c 0] [curA c l bad] (fun r cs' => r = B (!bad && l.isEmpty) ∧ cs' = [curA c l bad]) := by
  refine FnA.intro Tryz.tabOK Tryz.wide_ Tryz.func32 rfl (by decide) rfl (fun X => ?_)
  repeat (first | refine sc rfl ?_ | refine so rfl ?_)
  refine O_loadP 0 (reads_box 1) rfl rfl rfl rfl rfl rfl ?_
  repeat refine so rfl ?_
  cases bad with
  | true =>
    refine O_false 8 rfl rfl ?_
    repeat (first | refine sc rfl ?_ | refine so rfl ?_)
    exact ⟨_, [_], _, rfl, pickA_perm (is := [0]) (As := [_]) rfl, rfl, rfl, rfl⟩
  | false =>
    refine O_true 8 rfl rfl ?_
    repeat refine so rfl ?_
    refine O_loadP 0 (reads_box 0) rfl rfl rfl rfl rfl rfl ?_
    repeat (first | refine sc rfl ?_ | refine so rfl ?_)
    exact ⟨_, [_], _, rfl, pickA_perm (is := [0]) (As := [_]) rfl, rfl, congrArg B (by cases l <;> simp; omega), rfl⟩
end Go.Proofs

namespace Go.Sy
open Go.RowKit

section
variable {P : Program} {T : Tab} {X : Ctx P T} {n : Nat} {e : Env} {st : St} {a : Act} {w : World} {ops : Array Oper} {K : St → Prop}

theorem O_appendB (q : Nat) {dst : Nat} {so_ xo : Operand} {t ty : TypeId} {pos : String} {aft : Array Edge} {rest : List Oper} {s : List (Nat × AV)} {c cr : List Ch} {h : Value} {el : Nat} {l : List UInt8} {x : UInt8} {i : TypeInfo}
    (ht : P.underlying t = some (.slice el)) (hi : P.info? el = some i) (hz : i.zero = some (.int .u8 0)) (hs1 : i.size = 1) (hby : i.bytes = 1)
    (hso : opd s so_ = some (.v h)) (hp : nthA q c = some (bufA h el l, cr)) (hxo : opd s xo = some (SL 1 U8c [x])) (hd : Nat.blt dst n = true) (hlen : l.length + 1 ≤ 140737488355328)
    (k : ∀ v', HdB v' (l ++ [x]) → SymO X n ops rest ⟨(dst, .v v') :: s, .abs (bufA v' el (l ++ [x])) :: cr⟩ K) :
    SymO X n ops (⟨some dst, .call ⟨.builtin .append, #[so_, xo], #[t, t]⟩, ty, pos, aft, none⟩ :: rest) ⟨s, c⟩ K := by
  intro e a w Q r hq
  have hso' := opd_sound r hso
  simp only [Rep] at hso'
  obtain ⟨g1, hgood, hnd⟩ := r.heap.nth hp
  have g1' : w.ownsRow 0 el 1 h l.length (Lib.byteCells l) := g1
  have hperm : c.Perm ([bufA h el l].map Ch.abs ++ cr) := by simpa using nthA_perm hp
  have hbl : ∀ B : Abs, blocks [B] = B.bs := fun B => by simp [blocks]
  obtain ⟨ad, cc, news, hx, hl, hnews, h1, hrn⟩ : ∃ ad cc news, a.eval xo = .slice (some ad) 1 cc ∧ news.length = 1 * 1 ∧ (∀ (j : Nat) (u : Value), news[j]? = some u → w.cell? (ad.add j) = some u) ∧ (∀ u ∈ news, u.oneCell' = true) ∧ RowsL e.G 1 1 (fun i => U8c ([x].getD i default)) news := by
    rcases src_sl hxo (fun i _ => rfl) e a w r with h | ⟨h0, _⟩
    · exact h
    · cases h0
  have hne : news = [.int .u8 (x.toNat : Int)] := by
    match news, hl, hrn with
    | [u], _, hrn =>
      have h2 := hrn 0 (by decide)
      simp [RepIL, RepI, U8c] at h2
      obtain ⟨z, zs, ⟨rfl, _⟩, rfl, _⟩ := h2
      rfl
  subst hne
  have hzs : (Value.cells (.int .u8 0)).size = 1 := rfl
  obtain ⟨v', w', hr, q2, q3, q4⟩ := run_append_own (P := P) w 0 t ty el i (.int .u8 0) 1 1 ht hi hz hs1 hby hzs (by decide) h l.length (Lib.byteCells l) g1' ad 1 cc _ hl hnews h1 (by simp only [maxLen]; omega) (by omega) (Nat.zero_le _)
  have hblk : ∀ b, v'.ownBlock = some b → some b = h.ownBlock ∨ w.heap.size ≤ b := append_block t ty el i (.int .u8 0) ht hi hz h l.length (Lib.byteCells l) (by rw [hs1]; exact g1') ad 1 cc _ (by rw [hs1]; exact hl) hnews h1 (by simp only [maxLen]; omega) (by rw [hby]; omega) hr
  have hcells : Lib.byteCells l ++ [Value.int .u8 (x.toNat : Int)] = Lib.byteCells (l ++ [x]) := by simp [Lib.byteCells]
  have hown : w'.ownsRow 0 el 1 v' (l ++ [x]).length (Lib.byteCells (l ++ [x])) := by
    rw [hcells] at q2
    rw [List.length_append]; exact q2
  have hrun : (execOp a.eval ⟨some dst, .call ⟨.builtin .append, #[so_, xo], #[t, t]⟩, ty, pos, aft, none⟩).run P w = .ok (.value v') w' := by
    simp only [execOp, resolve, invoke, builtin, Sem.run_bind, Sem.run_pure, Result.andThen_ok, List.map_toArray, List.map_cons, List.map_nil, hso', hx, hr]
  have hH' : HdB v' (l ++ [x]) := by
    rcases hown.2 with ⟨h1, h2⟩ | ⟨g, cap, cur, h1, _⟩
    · simp at h2
    · exact .inr ⟨by simp, g, cap, h1⟩
  unfold wpList
  rw [if_pos (by simp [Region.wanted])]
  refine .inl ?_
  unfold Oper.wp
  rw [hrun]
  have hno : ∀ b, b ∉ (bufA h el l).bs → some b ≠ h.ownBlock := fun b hb he => hb (by simp [bufA, ← he])
  have hin : ∀ b, some b = h.ownBlock → b ∈ (bufA h el l).bs := fun b hb => by simp [bufA, ← hb]
  have hmem : ∀ b ∈ (bufA v' el (l ++ [x])).bs, v'.ownBlock = some b := fun b hb => by simpa [bufA] using hb
  have r2 := r.swapAbs (st := ⟨s, c⟩) (As := [bufA h el l]) (As' := [bufA v' el (l ++ [x])]) (G' := e.G) (w' := w') hperm (IM.le_refl _) ⟨?_, ?_⟩ ⟨fun b o v h => .inl h, fun b x h => .inl h⟩ ⟨?_, ?_, ?_⟩ ?_ ⟨q3.os, q3.tape, q3.output⟩ q3.size ?_
  · exact k v' hH' _ _ _ Q (r2.put (x := .v v') (v := v') hd (by simp only [Rep])) hq
  · intro b o v hv
    have h1 := r.im b o v hv
    simp only [World.cell?] at h1 ⊢
    rw [q3.block b (r.glt0 _ _ _ hv) (fun he => by rw [(hgood b (hin b he)).2.2.1 o] at hv; cases hv)]
    exact h1
  · exact r.mzKeep (fun b hb hf => q3.block b hb (fun he => hf (hgood b (hin b he)).2.2))
  · intro B hB
    simp only [List.mem_singleton] at hB
    subst hB; exact hown
  · rw [hbl]
    show (v'.ownBlock.toList).Nodup
    cases v'.ownBlock <;> simp
  · intro b hb
    rw [hbl] at hb
    have hb1 := hmem b hb
    refine ⟨(hown.lt b hb1).2, ?_⟩
    rcases hblk b hb1 with h2 | h2
    · exact (hgood b (hin b h2)).2.2
    · exact r.free h2
  · intro b hb
    rw [hbl] at hb ⊢
    rcases hblk b (hmem b hb) with h2 | h2
    · exact .inr (hin b h2)
    · exact .inl h2
  · intro b hb hnin _
    rw [hbl] at hnin
    exact q3.block b hb (fun he => hno b hnin he)
end
end Go.Sy

namespace Go.Proofs
open Go.Sy Go.Lib

theorem WriteByte_A (b : Nat) (u : Bool) (h : Value) (l : List UInt8) (x : UInt8) (hH : HdB h l) (hlen : l.length + 1 ≤ 140737488355328) :
    FnA Tryz.prog 115 [PT b 0, .v (.int .u8 (x.toNat : Int))] [bldC b u h, bufA h 5 l] (fun r cs' => r = .v .nilIface ∧ BldP b (l ++ [x]) cs') := by
  refine FnA.intro Tryz.tabOK Tryz.wide_ Tryz.func115 rfl (by decide) rfl (fun X => ?_)
  repeat (first | refine sc rfl ?_ | refine so rfl ?_)
  refine O_callA [0] (copyCheck_A b u h) (by rfl) (by rfl) (by rfl) (by rfl) (by rfl) ?_
  rintro r cs' ⟨rfl, rfl⟩
  repeat (first | refine sc rfl ?_ | refine so rfl ?_)
  refine O_loadP 0 (reads_box 1) rfl rfl rfl rfl rfl rfl ?_
  repeat (first|refine so rfl ?_|refine sb rfl ?_)
  refine O_le _ (Le.vecrow (k := 13) 1 (fun j => U8c ([x].getD j default)) rfl rfl (fun j hj => ?_)) ?_
  · obtain rfl : j = 0 := Nat.lt_one_iff.1 hj
    rfl
  refine O_le _ (Le.freezeL (l := [x]) (cells := U8c) 13 rfl rfl) ?_
  refine O_appendB 1 Tryz.underlying42 rfl rfl rfl rfl rfl rfl rfl rfl hlen (fun v' hv' => ?_)
  repeat refine so rfl ?_
  have fv : BldP b (l ++ [x]) [bldC b true v', bufA v' 5 (l ++ [x])] := ⟨v', hv', rfl⟩
  rcases hv' with ⟨rfl, hl⟩ | ⟨hl, g, cc, rfl⟩
  · skip
    refine O_Xn (X_storeP 1 (writes_box (cells := [ptrU b true, .v h]) (o := 1) (Nat.lt_of_sub_eq_succ rfl)) rfl rfl rfl rfl rfl rfl rfl) ?_
    repeat (first | refine sc rfl ?_ | refine so rfl ?_)
    exact ⟨_, [_, _], _, rfl, .refl _, rfl, rfl, fv⟩
  · skip
    refine O_Xn (X_storeP 1 (writes_box (cells := [ptrU b true, .v h]) (o := 1) (Nat.lt_of_sub_eq_succ rfl)) rfl rfl rfl rfl rfl rfl rfl) ?_
    repeat (first | refine sc rfl ?_ | refine so rfl ?_)
    exact ⟨_, [_, _], _, rfl, .refl _, rfl, rfl, fv⟩
abbrev digL : List UInt8 := [48, 49, 50, 51, 52, 53, 54, 55, 56, 57, 97, 98, 99, 100, 101, 102]
abbrev dg (x : UInt8) : Int := Lib.indexByte digL x
theorem IndexByte_c (s : List UInt8) (c : UInt8) : FnP Tryz.prog 114 [.s s, .v (.int .u8 (c.toNat : Int))] (· = I64 (Lib.indexByte s c)) := by
  refine FnP.ofCalls (vs := [S s, .int .u8 (c.toNat : Int)]) (v := .int .i64 (Lib.indexByte s c)) ⟨_, Tryz.func114, rfl, by decide⟩ rfl rfl (fun G => by simp only [RepI]) (fun w => ?_)
  have h := Tryz.strings_IndexByte ⟨s.toArray⟩ (c.toNat : Int) w
  refine h.mono ?_
  rintro e w' ⟨rfl, rfl⟩
  refine ⟨?_, ⟨rfl, rfl, rfl, Nat.le_refl _, fun _ _ => rfl⟩⟩
  have : ((c.toNat : Int).toNat).toUInt8 = c := by simp
  rw [this]
theorem dg_le (x : UInt8) : dg x < 16 ∧ -1 ≤ dg x := by
  have h : ∀ n : Fin 256, Lib.indexByte digL (UInt8.ofNat n.val) < 16 ∧ -1 ≤ Lib.indexByte digL (UInt8.ofNat n.val) := by decide +kernel
  have := h ⟨x.toNat, x.toNat_lt⟩
  simpa using this
def hexB (x y : UInt8) : UInt8 := UInt8.ofNat ((dg x).toNat * 16 + (dg y).toNat)
theorem hexB_e (x y : UInt8) (hx : ¬dg x < 0) (hy : ¬dg y < 0) : IntKind.u8.wrap (bitsV .or .i64 (IntKind.i64.wrap (dg x * 2 ^ min (Int.toNat 4) IntKind.i64.bits)) (dg y)) = ((hexB x y).toNat : Int) := by
  have h : ∀ a b : Fin 16, IntKind.u8.wrap (bitsV .or .i64 (IntKind.i64.wrap ((a.val : Int) * 2 ^ min (Int.toNat 4) IntKind.i64.bits)) (b.val : Int)) = ((UInt8.ofNat (a.val * 16 + b.val)).toNat : Int) := by decide +kernel
  have h1 := dg_le x
  have h2 := dg_le y
  have := h ⟨(dg x).toNat, by omega⟩ ⟨(dg y).toNat, by omega⟩
  simp only [] at this
  rw [Int.toNat_of_nonneg (by omega), Int.toNat_of_nonneg (by omega)] at this
  exact this
def hexL : List UInt8 → Option (List UInt8)
  | x :: y :: r => if dg x < 0 ∨ dg y < 0 then none else (hexL r).map (hexB x y :: ·)
  | _ => some []
def bytesF (w : List UInt8) : List UInt8 × Bool := if w = [45] then ([], false) else match hexL w with
  | none => ([], true)
  | some a => (a, decide (w.length % 2 ≠ 0))
theorem bytes_A (c : Nat) (l : List (List UInt8)) (bad : Bool) (hw : (l.headD []).length ≤ 1000000) : FnA Tryz.prog 70 [PT c 0] [curA c l bad] (fun r cs' => r = .s (bytesF (l.headD [])).1 ∧ cs' = [curA c l.tail (bad || l.isEmpty || (bytesF (l.headD [])).2)]) := by
  refine FnA.intro Tryz.tabOK Tryz.wide_ Tryz.func70 rfl (by decide) rfl (fun X => ?_)
  repeat (first | refine sc rfl ?_ | refine so rfl ?_)
  refine O_callA [0] (word_A c l bad) (by rfl) (by rfl) (by rfl) (by rfl) (by rfl) ?_
  rintro r' cs' ⟨rfl, rfl⟩
  generalize l.headD [] = w at hw ⊢
  generalize (bad || l.isEmpty) = b1
  generalize l.tail = l1
  repeat (first | refine sc rfl ?_ | refine so rfl ?_)
  unfold bytesF
  refine C_if rfl (fun m1 => ?_) (fun m1 => ?_) <;> simp only [pL] at m1
  · rw [if_pos m1]
    repeat (first | refine sc rfl ?_ | refine so rfl ?_)
    exact ⟨_, [_], _, rfl, pickA_perm (is := [0]) (As := [_]) rfl, rfl, rfl, by cases b1 <;> rfl⟩
  rw [if_neg m1]
  repeat (first | refine sc rfl ?_ | refine so rfl ?_)
  refine C_absb 4 rfl rfl rfl (fun b => ?_)
  refine C_le _ (Le.addAbs (bufA (.slice none 0 0) 5 []) rfl (fun _ _ => ⟨rfl, .inl ⟨rfl, rfl⟩⟩)) ?_
  repeat refine sc rfl ?_
  refine C_loop (fun (q : Nat × Bool × Value × List UInt8) => ⟨[(0, PT c 0), (3, .s w), (4, PT b 0), (5, I64 ((2 * q.1 : Nat) : Int))], [.abs (bldC b q.2.1 q.2.2.1), .abs (bufA q.2.2.1 5 q.2.2.2), .abs (curA c l1 b1)]⟩) (fun q => 2 * q.1 ≤ w.length ∧ q.2.2.2.length = q.1 ∧ HdB q.2.2.1 q.2.2.2 ∧ hexL w = (hexL (w.drop (2 * q.1))).map (q.2.2.2 ++ ·)) (fun q => w.length - 2 * q.1) (0, false, .slice none 0 0, []) ⟨Nat.zero_le _, rfl, .inl ⟨rfl, rfl⟩, by simp⟩ (Le.pick [1, 0, 0] ⟨rfl, rfl, rfl, rfl, trivial⟩ rfl) ?_
  rintro ⟨i, u, h, acc⟩ ⟨hi, hal, hH, hx⟩
  simp only [] at hi hal hH hx
  repeat (first | refine sc rfl ?_ | refine so rfl ?_)
  rw [w64 (x := ((2 * i : Nat) : Int) + 1) (by omega) (by omega)]
  repeat refine sc rfl ?_
  refine C_if rfl (fun k1 => ?_) (fun k1 => ?_) <;> simp only [pL] at k1
  · have h1 : 2 * i < w.length := by omega
    have h2 : 2 * i + 1 < w.length := by omega
    obtain ⟨x, hxe⟩ : ∃ x, w.getD (2 * i) 0 = x := ⟨_, rfl⟩
    obtain ⟨y, hye⟩ : ∃ y, w.getD (2 * i + 1) 0 = y := ⟨_, rfl⟩
    have hd : w.drop (2 * i) = x :: y :: w.drop (2 * (i + 1)) := by
      rw [List.drop_eq_getElem_cons h1, List.drop_eq_getElem_cons h2, ← hxe, ← hye, List.getD_eq_getElem?_getD, List.getElem?_eq_getElem h1, List.getD_eq_getElem?_getD, List.getElem?_eq_getElem h2]; rfl
    rw [hd] at hx
    simp only [hexL] at hx
    have gx := dg_le x
    have gy := dg_le y
    repeat refine sc rfl ?_
    refine C_drawU 20 9 rfl (by kernel_rfl) (by kernel_rfl) (by kernel_rfl) ?_
    repeat refine sd rfl ?_
    refine ⟨by omega, ?_⟩
    simp only [Int.toNat_natCast, hxe]
    repeat refine sd rfl ?_
    refine D_call (IndexByte_c _ x) rfl rfl rfl rfl ?_
    repeat refine sd rfl ?_
    rw [w64 (x := ((2 * i : Nat) : Int) + 1) (by omega) (by omega), show ((2 * i : Nat) : Int) + 1 = ((2 * i + 1 : Nat) : Int) by omega]
    repeat refine sd rfl ?_
    refine ⟨by omega, ?_⟩
    simp only [Int.toNat_natCast, hye]
    repeat refine sd rfl ?_
    refine D_call (IndexByte_c _ y) rfl rfl rfl rfl ?_
    repeat refine sd rfl ?_
    repeat (first | refine sc rfl ?_ | refine so rfl ?_)
    refine O_case 30 rfl (fun h3 => ?_) (fun h3 => ?_) <;> simp only [pL] at h3
    · rw [if_pos (.inl h3)] at hx
      repeat refine so rfl ?_
      refine C_true rfl rfl ?_
      repeat (first | refine sc rfl ?_ | refine so rfl ?_)
      refine O_Xn (X_storeP 2 (writes_box (by show 1 < 2; decide)) rfl rfl rfl rfl rfl rfl rfl) ?_
      repeat (first | refine sc rfl ?_ | refine so rfl ?_)
      rw [hx]
      exact ⟨_, [_], _, rfl, pickA_perm (is := [0]) (As := [_]) rfl, rfl, rfl, by cases b1 <;> rfl⟩
    repeat refine so rfl ?_
    refine C_if rfl (fun h4 => ?_) (fun h4 => ?_) <;> simp only [pL] at h4
    · rw [if_pos (.inr h4)] at hx
      repeat (first | refine sc rfl ?_ | refine so rfl ?_)
      refine O_Xn (X_storeP 2 (writes_box (by show 1 < 2; decide)) rfl rfl rfl rfl rfl rfl rfl) ?_
      repeat (first | refine sc rfl ?_ | refine so rfl ?_)
      rw [hx]
      exact ⟨_, [_], _, rfl, pickA_perm (is := [0]) (As := [_]) rfl, rfl, rfl, by cases b1 <;> rfl⟩
    rw [if_neg (by rintro (h | h); exact h3 h; exact h4 h)] at hx
    repeat (first | refine sc rfl ?_ | refine so rfl ?_)
    refine ⟨by decide, ?_⟩
    repeat refine so rfl ?_
    rw [hexB_e x y h3 h4]
    repeat refine sc rfl ?_
    refine O_callA [0, 0] (WriteByte_A b u h acc (hexB x y) hH (by omega)) (by rfl) (by rfl) (by rfl) (by rfl) (by rfl) ?_
    rintro r' cs' ⟨rfl, h', hH', rfl⟩
    repeat (first | refine sc rfl ?_ | refine so rfl ?_)
    rw [w64 (x := ((2 * i : Nat) : Int) + 2) (by omega) (by omega), show ((2 * i : Nat) : Int) + 2 = ((2 * (i + 1) : Nat) : Int) by omega]
    refine ⟨(i + 1, true, h', acc ++ [hexB x y]), ⟨by simp only []; omega, by simp [hal], hH', by simp only []; rw [hx]; cases hexL (w.drop (2 * (i + 1))) <;> simp⟩, by simp only []; omega, ?_⟩
    exact Le.pick [0, 0, 0] ⟨rfl, rfl, rfl, rfl, trivial⟩ rfl
  have hx2 : hexL w = some acc := by
    have hd2 : hexL (w.drop (2 * i)) = some [] := by
      have : (w.drop (2 * i)).length ≤ 1 := by rw [List.length_drop]; omega
      match w.drop (2 * i), this with
      | [], _ => rfl
      | [_], _ => rfl
      | _ :: _ :: _, h => simp at h
    rw [hx, hd2]; simp
  rw [hx2]
  repeat (first | refine sc rfl ?_ | refine so rfl ?_)
  refine O_loadP 2 (reads_box 1) rfl rfl rfl rfl rfl rfl ?_
  repeat refine so rfl ?_
  cases b1 with
  | true =>
    refine O_true 48 rfl rfl ?_
    repeat refine so rfl ?_
    refine O_Xn (X_storeP 2 (writes_box (by show 1 < 2; decide)) rfl rfl rfl rfl rfl rfl rfl) ?_
    repeat (first | refine sc rfl ?_ | refine so rfl ?_)
    refine O_callA [1, 1] (String_A b u h acc hH) (by rfl) (by rfl) (by rfl) (by rfl) (by rfl) ?_
    rintro r' cs' ⟨rfl, rfl⟩
    repeat (first | refine sc rfl ?_ | refine so rfl ?_)
    exact ⟨_, [_], _, rfl, pickA_perm (is := [0]) (As := [_]) rfl, rfl, rfl, rfl⟩
  | false =>
    refine O_false 48 rfl rfl ?_
    repeat refine so rfl ?_
    refine ⟨by decide, ?_⟩
    repeat refine so rfl ?_
    have hb : (((w.length : Nat) : Int).tmod 2 != 0) = decide (w.length % 2 ≠ 0) := by
      rw [Int.tmod_eq_emod_of_nonneg (by omega)]
      by_cases h : w.length % 2 = 0
      · rw [show ((w.length : Nat) : Int) % 2 = 0 by omega]; simp [h]
      · rw [show ((w.length : Nat) : Int) % 2 = 1 by omega]; simp [h]
    rw [hb]
    refine O_Xn (X_storeP 2 (writes_box (by show 1 < 2; decide)) rfl rfl rfl rfl rfl rfl rfl) ?_
    repeat (first | refine sc rfl ?_ | refine so rfl ?_)
    refine O_callA [1, 1] (String_A b u h acc hH) (by rfl) (by rfl) (by rfl) (by rfl) (by rfl) ?_
    rintro r' cs' ⟨rfl, rfl⟩
    repeat (first | refine sc rfl ?_ | refine so rfl ?_)
    exact ⟨_, [_], _, rfl, pickA_perm (is := [0]) (As := [_]) rfl, rfl, rfl, rfl⟩
end Go.Proofs

namespace Go.Proofs
open Go.Sy Go.Lib

def spl (c : UInt8) : List UInt8 → List (List UInt8)
  | [] => [[]]
  | x :: r => if x = c then [] :: spl c r else match spl c r with
    | [] => [[x]]
    | p :: q => (x :: p) :: q
theorem spl_ne (c : UInt8) : ∀ l, spl c l ≠ []
  | [] => by simp [spl]
  | x :: r => by
    simp only [spl]
    split
    · simp
    · cases h : spl c r <;> simp
theorem spl_len (c : UInt8) : ∀ l, (spl c l).length = l.count c + 1
  | [] => rfl
  | x :: r => by
    have ih := spl_len c r
    simp only [spl]
    split
    · rename_i h
      rw [h, List.count_cons_self, List.length_cons, ih]
    · rename_i h
      rw [List.count_cons_of_ne (by simpa using h)]
      cases hs : spl c r with
      | nil => exact absurd hs (spl_ne c r)
      | cons p q => rw [hs] at ih; simpa using ih
theorem idx_ge (l : List UInt8) (c : UInt8) : -1 ≤ Lib.indexByte l c := Lib.indexByte_ge l c
theorem spl_neg (c : UInt8) : ∀ l, Lib.indexByte l c < 0 → spl c l = [l]
  | [], _ => rfl
  | x :: r, h => by
    simp only [Lib.indexByte] at h
    have hg := idx_ge r c
    split at h
    · omega
    · rename_i hx
      have hx' : ¬ x = c := by simpa using hx
      split at h
      · rename_i h2
        have h2' : Lib.indexByte r c = -1 := by simpa using h2
        simp only [spl, if_neg hx', spl_neg c r (by omega)]
      · rename_i h2
        have h2' : ¬ Lib.indexByte r c = -1 := by simpa using h2
        omega
theorem spl_idx (c : UInt8) : ∀ (l : List UInt8) (m : Nat), Lib.indexByte l c = (m : Int) → m < l.length ∧ spl c l = l.take m :: spl c (l.drop (m + 1))
  | [], m, h => by simp [Lib.indexByte] at h
  | x :: r, m, h => by
    simp only [Lib.indexByte] at h
    have hg := idx_ge r c
    split at h
    · rename_i hx
      have hx' : x = c := by simpa using hx
      obtain rfl : m = 0 := by omega
      exact ⟨by simp, by simp [spl, hx']⟩
    · rename_i hx
      have hx' : ¬ x = c := by simpa using hx
      split at h
      · omega
      · rename_i h2
        have h2' : ¬ Lib.indexByte r c = -1 := by simpa using h2
        obtain ⟨k, rfl⟩ : ∃ k, m = k + 1 := ⟨m - 1, by omega⟩
        obtain ⟨i1, i2⟩ := spl_idx c r k (by omega)
        exact ⟨by simpa using i1, by simp only [spl, if_neg hx', i2, List.take_succ_cons, List.drop_succ_cons]⟩
theorem count1_c (s : List UInt8) (c : UInt8) : FnP Tryz.prog 67 [.s s, .s [c]] (· = I64 ((s.count c : Nat) : Int)) :=
  FnP.ofCalls (vs := [S s, S [c]]) (v := .int .i64 ((s.count c : Nat) : Int)) ⟨_, Tryz.func67, rfl, by decide⟩ rfl rfl (fun G => by simp only [RepI]) (fun w => (Tryz.strings_Count_one ⟨s.toArray⟩ c w).mono (by
    rintro e w' ⟨rfl, rfl⟩
    exact ⟨rfl, ⟨rfl, rfl, rfl, Nat.le_refl _, fun _ _ => rfl⟩⟩))
theorem idxB_c (s : List UInt8) (c : UInt8) : FnP Tryz.prog 162 [.s s, .v (.int .u8 (c.toNat : Int))] (· = I64 (Lib.indexByte s c)) := by
  refine FnP.ofCalls (vs := [S s, .int .u8 (c.toNat : Int)]) (v := .int .i64 (Lib.indexByte s c)) ⟨_, Tryz.func162, rfl, by decide⟩ rfl rfl (fun G => by simp only [RepI]) (fun w => ?_)
  refine (Tryz.stringslite_IndexByte ⟨s.toArray⟩ (c.toNat : Int) w).mono ?_
  rintro e w' ⟨rfl, rfl⟩
  refine ⟨?_, ⟨rfl, rfl, rfl, Nat.le_refl _, fun _ _ => rfl⟩⟩
  have : ((c.toNat : Int).toNat).toUInt8 = c := by simp
  rw [this]
theorem index1l_c (s : List UInt8) (c : UInt8) : FnP Tryz.prog 113 [.s s, .s [c]] (· = I64 (Lib.indexByte s c)) := by
  refine FnP.intro Tryz.tabOK Tryz.wide_ Tryz.func113 rfl (by decide) rfl (fun X => ?_)
  repeat (first | refine sc rfl ?_ | refine so rfl ?_)
  refine C_if rfl (fun m1 => ?_) (fun m1 => ?_) <;> simp only [pL] at m1
  · subst m1
    repeat (first | refine sc rfl ?_ | refine so rfl ?_)
    refine ⟨_, rfl, rfl, ?_⟩
    simp [Lib.indexByte]
  repeat (first | refine sc rfl ?_ | refine so rfl ?_)
  refine C_true rfl rfl ?_
  repeat (first | refine sc rfl ?_ | refine so rfl ?_)
  refine ⟨by simp, ?_⟩
  repeat refine sc rfl ?_
  refine O_call (idxB_c s c) (by rfl) (by rfl) (by rfl) (by rfl) (fun r hr => ?_)
  subst hr
  repeat (first | refine sc rfl ?_ | refine so rfl ?_)
  exact ⟨_, rfl, rfl, rfl⟩
theorem index1_c (s : List UInt8) (c : UInt8) : FnP Tryz.prog 68 [.s s, .s [c]] (· = I64 (Lib.indexByte s c)) := by
  refine FnP.intro Tryz.tabOK Tryz.wide_ Tryz.func68 rfl (by decide) rfl (fun X => ?_)
  repeat (first | refine sc rfl ?_ | refine so rfl ?_)
  refine O_call (index1l_c s c) (by rfl) (by rfl) (by rfl) (by rfl) (fun r hr => ?_)
  subst hr
  repeat (first | refine sc rfl ?_ | refine so rfl ?_)
  exact ⟨_, rfl, rfl, rfl⟩
theorem set_done (l : List (List UInt8)) (p : List UInt8) (z : AV) (k : Nat) {m : Nat} (h : m = k + 1) : (l.map AV.s ++ List.replicate m z).set l.length (.s p) = (l ++ [p]).map AV.s ++ List.replicate k z := by
  subst h
  rw [List.set_append_right _ _ (by simp)]
  simp [List.replicate_succ]
theorem genSplit_c (s : List UInt8) (c : UInt8) (hs : s.length ≤ 1000000) : FnP Tryz.prog 29 [.s s, .s [c], I64 0, I64 (-1)] (· = SL 1 wc1 (spl c s)) := by
  refine FnP.intro Tryz.tabOK Tryz.wide_ Tryz.func29 rfl (by decide) rfl (fun X => ?_)
  have hcl := @List.count_le_length _ _ c s
  have hsl := spl_len c s
  repeat (first | refine sc rfl ?_ | refine so rfl ?_)
  refine C_false rfl (by decide) ?_
  repeat (first | refine sc rfl ?_ | refine so rfl ?_)
  refine C_false rfl (by simp) ?_
  repeat (first | refine sc rfl ?_ | refine so rfl ?_)
  refine C_true rfl (by decide) ?_
  repeat (first | refine sc rfl ?_ | refine so rfl ?_)
  refine O_call (count1_c s c) (by rfl) (by rfl) (by rfl) (by rfl) (fun r hr => ?_)
  subst hr
  generalize s.count c = n at hcl hsl ⊢
  repeat (first | refine sc rfl ?_ | refine so rfl ?_)
  rw [w64 (x := (n : Int) + 1) (by omega) (by omega), w64 (x := (s.length : Int) + 1) (by omega) (by omega), show min ((n : Int) + 1) ((s.length : Int) + 1) = ((n + 1 : Nat) : Int) by omega]
  refine O_makeN (m := n + 1) (zc := .string ⟨#[]⟩) rfl rfl rfl rfl rfl (by omega) (by simp only [maxLen]; omega) (fun b => ?_)
  repeat (first | refine sc rfl ?_ | refine so rfl ?_)
  rw [w64 (x := ((n + 1 : Nat) : Int) - 1) (by omega) (by omega), show ((n + 1 : Nat) : Int) - 1 = (n : Int) by omega]
  repeat refine sc rfl ?_
  refine C_loop (fun (q : List (List UInt8) × List UInt8) => ⟨[(0, .s q.2), (1, .s [c]), (2, I64 0), (3, I64 (n : Nat)), (9, .v (HO b 0 (n + 1) (n + 1))), (10, I64 (q.1.length : Nat))], [.abs (slO (HO b 0 (n + 1) (n + 1)) 9 1 (q.1.map AV.s ++ List.replicate (n + 1 - q.1.length) (.v (.string ⟨#[]⟩))))]⟩) (fun q => q.1.length ≤ n ∧ q.2.length ≤ s.length ∧ spl c s = q.1 ++ spl c q.2) (fun q => n - q.1.length) ([], s) ⟨Nat.zero_le _, Nat.le_refl _, rfl⟩ (Le.pick [0] ⟨rfl, rfl, rfl, rfl, rfl, rfl, trivial⟩ rfl) ?_
  rintro ⟨done, rest⟩ ⟨hi, hr, hq⟩
  simp only [] at hi hr hq
  have hll : done.length + (spl c rest).length = n + 1 := by rw [← hsl, hq, List.length_append]
  rw [spl_len] at hll
  repeat (first | refine sc rfl ?_ | refine so rfl ?_)
  refine C_if rfl (fun m1 => ?_) (fun m1 => ?_) <;> simp only [pL] at m1
  · repeat (first | refine sc rfl ?_ | refine so rfl ?_)
    refine O_call (index1_c rest c) (by rfl) (by rfl) (by rfl) (by rfl) (fun r hr => ?_)
    subst hr
    have hge : 0 ≤ Lib.indexByte rest c := by
      rcases Int.lt_or_le (Lib.indexByte rest c) 0 with h | h
      · have := spl_neg c rest h
        have h2 := spl_len c rest
        rw [this] at h2
        simp at h2
        omega
      · exact h
    obtain ⟨k, hk⟩ : ∃ k : Nat, Lib.indexByte rest c = (k : Int) := ⟨(Lib.indexByte rest c).toNat, by omega⟩
    obtain ⟨k1, k2⟩ := spl_idx c rest k hk
    rw [hk]
    repeat (first | refine sc rfl ?_ | refine so rfl ?_)
    refine C_false rfl (by simp) ?_
    repeat (first | refine sc rfl ?_ | refine so rfl ?_)
    rw [w64 (x := (k : Int) + 0) (by omega) (by omega), Int.add_zero]
    refine ⟨by simp only []; omega, ?_⟩
    repeat refine so rfl ?_
    refine ⟨by simp only []; omega, ?_⟩
    rw [Int.toNat_natCast]
    refine O_Xn (X_storeP 0 (writes_slO (x := .s (rest.take k)) (by simp; omega)) rfl rfl rfl rfl rfl rfl rfl) ?_
    rw [Nat.mul_one, set_done done (rest.take k) _ (n - done.length) (by simp only []; omega)]
    repeat (first | refine sc rfl ?_ | refine so rfl ?_)
    rw [show (([c].length : Nat) : Int) = 1 from rfl, w64 (x := (k : Int) + 1) (by omega) (by omega)]
    refine ⟨by simp only []; omega, ?_⟩
    repeat (first | refine sc rfl ?_ | refine so rfl ?_)
    rw [w64 (x := (done.length : Int) + 1) (by omega) (by omega)]
    rw [show ((k : Int) + 1).toNat = k + 1 by omega]
    exact ⟨(done ++ [rest.take k], rest.drop (k + 1)), ⟨by simp; omega, by simp; omega, by simp only []; rw [hq, k2]; simp⟩, by simp; omega, Le.pick [0] ⟨rfl, rfl, rfl, rfl, rfl, by simp; rfl, trivial⟩ (by simp; rfl)⟩
  · obtain rfl : n = done.length := by omega
    repeat (first | refine sc rfl ?_ | refine so rfl ?_)
    refine ⟨by simp only []; omega, ?_⟩
    rw [Int.toNat_natCast]
    refine O_Xn (X_storeP 0 (writes_slO (x := .s rest) (by simp)) rfl rfl rfl rfl rfl rfl rfl) ?_
    rw [Nat.mul_one, set_done done rest _ 0 (by simp only []; omega)]
    repeat (first | refine sc rfl ?_ | refine so rfl ?_)
    rw [w64 (x := (done.length : Int) + 1) (by omega) (by omega), show (done.length : Int) + 1 = ((done.length + 1 : Nat) : Int) by omega]
    have hsp : spl c s = done ++ [rest] := by
      rw [hq]
      have h1 : (spl c rest).length = 1 := by rw [spl_len]; omega
      have h2 : rest.count c = 0 := by omega
      rcases Int.lt_or_le (Lib.indexByte rest c) 0 with h | h
      · rw [spl_neg c rest h]
      · obtain ⟨k1, k2⟩ := spl_idx c rest (Lib.indexByte rest c).toNat (by omega)
        rw [k2] at h1
        have := spl_ne c (rest.drop ((Lib.indexByte rest c).toNat + 1))
        simp at h1
        exact absurd h1 this
    refine O_Xd (X_sliceTo rfl rfl rfl rfl rfl rfl (Nat.le_refl _) (Nat.le_refl _)) ?_
    refine O_le _ (Le.frSlO 0 (m := (done ++ [rest]).length) (fun i => wc1 ((done ++ [rest]).getD i default)) rfl (by simp) (by decide) (fun i hi => ?_)) ?_
    · have hi2 : i < ((done ++ [rest]).map AV.s ++ List.replicate 0 (AV.v (.string ⟨#[]⟩))).length := by simpa using hi
      rw [Nat.mul_one, List.drop_eq_getElem_cons hi2]
      simp only [List.take_succ_cons, List.take_zero, List.replicate_zero, List.append_nil, List.getElem_map]
      rw [List.getD_eq_getElem?_getD, List.getElem?_eq_getElem hi]
      rfl
    refine O_le _ (Le.slotA 0 65 rfl rfl) ?_
    repeat (first | refine sc rfl ?_ | refine so rfl ?_)
    exact ⟨_, rfl, rfl, by rw [hsp]⟩
end Go.Proofs

namespace Go.Proofs
open Go.Sy Go.Lib

theorem Split_c (s : List UInt8) (c : UInt8) (hs : s.length ≤ 1000000) : FnP Tryz.prog 14 [.s s, .s [c]] (· = SL 1 wc1 (spl c s)) := by
  refine FnP.intro Tryz.tabOK Tryz.wide_ Tryz.func14 rfl (by decide) rfl (fun X => ?_)
  repeat (first | refine sc rfl ?_ | refine so rfl ?_)
  refine O_call (genSplit_c s c hs) (by rfl) (by rfl) (by rfl) (by rfl) (fun r hr => ?_)
  subst hr
  repeat (first | refine sc rfl ?_ | refine so rfl ?_)
  exact ⟨_, rfl, rfl, rfl⟩
def notE (w : List UInt8) : Bool := !(w == [])
def wordsF (s : List UInt8) : List (List UInt8) := (spl 32 s).filter notE
theorem words_c (s : List UInt8) (hs : s.length ≤ 1000000) : FnP Tryz.prog 15 [.s s] (· = SL 1 wc1 (wordsF s)) := by
  refine FnP.intro Tryz.tabOK Tryz.wide_ Tryz.func15 rfl (by decide) rfl (fun X => ?_)
  have hcl := @List.count_le_length _ _ (32 : UInt8) s
  have hsl := spl_len 32 s
  repeat (first | refine sc rfl ?_ | refine so rfl ?_)
  refine O_call (Split_c s 32 hs) (by rfl) (by rfl) (by rfl) (by rfl) (fun r hr => ?_)
  subst hr
  unfold wordsF
  generalize spl 32 s = l at hsl ⊢
  repeat (first | refine sc rfl ?_ | refine so rfl ?_)
  refine C_le _ (Le.nilvec wc1 3 18 9 1 rfl rfl rfl) ?_
  repeat refine sc rfl ?_
  refine C_loop (fun i : Nat => ⟨[(3, .own 18), (7, SL 1 wc1 l), (8, I64 (l.length : Nat)), (9, I64 (i : Nat))], [VEC 18 9 1 wc1 ((l.take i).filter notE)]⟩) (fun i => i ≤ l.length) (fun i => l.length - i) 0 (Nat.zero_le _) (Le.sub [18] ⟨rfl, rfl, rfl, rfl, trivial⟩ rfl) ?_
  intro i hi
  repeat (first | refine sc rfl ?_ | refine so rfl ?_)
  refine C_if rfl (fun m1 => ?_) (fun m1 => ?_) <;> simp only [pL] at m1
  · have hil : i < l.length := by omega
    obtain ⟨x, hxe⟩ : ∃ x, l.getD i default = x := ⟨_, rfl⟩
    have htk : l.take (i + 1) = l.take i ++ [x] := by
      rw [List.take_add_one, List.getElem?_eq_getElem hil, ← hxe, List.getD_eq_getElem?_getD, List.getElem?_eq_getElem hil]; rfl
    have hfl := List.length_filter_le notE (l.take i)
    rw [List.length_take] at hfl
    repeat (first | refine sc rfl ?_ | refine so rfl ?_)
    refine ⟨by omega, ?_⟩
    simp only [Int.toNat_natCast, hxe]
    repeat (first | refine sc rfl ?_ | refine so rfl ?_)
    refine C_if rfl (fun m2 => ?_) (fun m2 => ?_) <;> simp only [pL] at m2
    · have hf : (l.take (i + 1)).filter notE = (l.take i).filter notE ++ [x] := by
        rw [htk, List.filter_append]; simp [notE, m2]
      repeat (first|refine sc rfl ?_|refine so rfl ?_|refine sb rfl ?_)
      refine O_push wc1 ((l.take i).filter notE) x [(7, SL 1 wc1 l), (8, I64 (l.length : Nat)), (9, I64 (i : Nat))] rfl rfl rfl rfl rfl rfl rfl rfl rfl rfl ⟨rfl, rfl, rfl, trivial⟩ rfl rfl (by omega) (by simp only [maxLen]; omega) ?_
      rw [← hf]
      repeat (first | refine sc rfl ?_ | refine so rfl ?_)
      rw [w64 (x := (i : Int) + 1) (by omega) (by omega)]
      exact ⟨i + 1, hil, by omega, Le.sub [18] ⟨rfl, rfl, rfl, rfl, trivial⟩ rfl⟩
    · have hf : (l.take (i + 1)).filter notE = (l.take i).filter notE := by
        rw [htk, List.filter_append]; simp [notE, m2]
      repeat (first | refine sc rfl ?_ | refine so rfl ?_)
      rw [w64 (x := (i : Int) + 1) (by omega) (by omega), ← hf]
      exact ⟨i + 1, hil, by omega, Le.sub [18] ⟨rfl, rfl, rfl, rfl, trivial⟩ rfl⟩
  · obtain rfl : i = l.length := by omega
    rw [List.take_length]
    refine C_le _ (Le.freezeL 3 rfl rfl) ?_
    repeat (first | refine sc rfl ?_ | refine so rfl ?_)
    exact ⟨_, rfl, rfl, rfl⟩
end Go.Proofs

namespace Go.Proofs
open Go.Sy Go.Lib

theorem number_c (n : Nat) (hn : n ≤ 9223372036854775807) : FnP Tryz.prog 259 [I64 (n : Nat)] (· = .s (vput n)) := by
  refine FnP.intro Tryz.tabOK Tryz.wide_ Tryz.func259 rfl (by decide) rfl (fun X => ?_)
  repeat (first | refine sc rfl ?_ | refine so rfl ?_)
  rw [show max (n : Int) 0 = (n : Int) by omega, u64wrap (x := (n : Int)) (by omega) (by omega)]
  refine O_call (Put83_p n (by omega)) (by rfl) (by rfl) (by rfl) (by rfl) (fun r hr => ?_)
  subst hr
  repeat (first | refine sc rfl ?_ | refine so rfl ?_)
  exact ⟨_, rfl, rfl, rfl⟩
abbrev spanF (s : List UInt8) : List UInt8 := vput s.length ++ s
theorem spanPut_c (s : List UInt8) (hs : s.length ≤ 1000000000) : FnP Tryz.prog 260 [.s s] (· = .s (spanF s)) := by
  refine FnP.intro Tryz.tabOK Tryz.wide_ Tryz.func260 rfl (by decide) rfl (fun X => ?_)
  have := vput_len10 (n := s.length) (by omega)
  repeat (first | refine sc rfl ?_ | refine so rfl ?_)
  rw [u64wrap (x := (s.length : Int)) (by omega) (by omega)]
  refine O_call (Put83_p s.length (by omega)) (by rfl) (by rfl) (by rfl) (by rfl) (fun r hr => ?_)
  subst hr
  repeat refine so rfl ?_
  refine ⟨by omega, ?_⟩
  repeat (first | refine sc rfl ?_ | refine so rfl ?_)
  exact ⟨_, rfl, rfl, rfl⟩
theorem putCancel_c (n : Nat) (hn : n < 18446744073709551616) : FnP Tryz.prog 172 [U64 (n : Nat)] (· = .s (vput n)) := by
  refine FnP.intro Tryz.tabOK Tryz.wide_ Tryz.func172 rfl (by decide) rfl (fun X => ?_)
  repeat (first | refine sc rfl ?_ | refine so rfl ?_)
  refine O_call (Put83_p n hn) (by rfl) (by rfl) (by rfl) (by rfl) (fun r hr => ?_)
  subst hr
  repeat (first | refine sc rfl ?_ | refine so rfl ?_)
  exact ⟨_, rfl, rfl, rfl⟩
theorem putSchema_c (n : Nat) (s : List UInt8) (hn : n < 18446744073709551616) (hs : s.length ≤ 1000000000) : FnP Tryz.prog 173 [U64 (n : Nat), .s s] (· = .s (vput n ++ s)) := by
  refine FnP.intro Tryz.tabOK Tryz.wide_ Tryz.func173 rfl (by decide) rfl (fun X => ?_)
  have := vput_len10 hn
  repeat (first | refine sc rfl ?_ | refine so rfl ?_)
  refine O_call (Put83_p n hn) (by rfl) (by rfl) (by rfl) (by rfl) (fun r hr => ?_)
  subst hr
  repeat refine so rfl ?_
  refine ⟨by omega, ?_⟩
  repeat (first | refine sc rfl ?_ | refine so rfl ?_)
  exact ⟨_, rfl, rfl, rfl⟩
theorem putCall_c (id wait num : Nat) (args : List UInt8) (h1 : id < 18446744073709551616) (h2 : wait ≤ 9223372036854775807) (h3 : num ≤ 9223372036854775807) (h4 : args.length ≤ 1000000000) :
    FnP Tryz.prog 221 [.agg [U64 (id : Nat), I64 (wait : Nat), I64 (num : Nat), .s args]] (· = .s (vput id ++ vput wait ++ vput num ++ args)) := by
  refine FnP.intro Tryz.tabOK Tryz.wide_ Tryz.func221 rfl (by decide) rfl (fun X => ?_)
  have a1 := vput_len10 h1
  have a2 := vput_len10 (n := wait) (by omega)
  have a3 := vput_len10 (n := num) (by omega)
  repeat (first | refine sc rfl ?_ | refine so rfl ?_)
  refine C_le _ (Le.freezebox 1 rfl rfl rfl) ?_
  refine C_drawU 20 14 rfl (by kernel_rfl) (by kernel_rfl) (by kernel_rfl) ?_
  repeat refine sd rfl ?_
  refine D_call (Put83_p id h1) rfl rfl rfl rfl ?_
  repeat refine sd rfl ?_
  refine D_call (number_c wait h2) rfl rfl rfl rfl ?_
  repeat refine sd rfl ?_
  refine ⟨by omega, ?_⟩
  repeat refine sd rfl ?_
  refine D_call (number_c num h3) rfl rfl rfl rfl ?_
  repeat refine sd rfl ?_
  refine ⟨by simp only [List.length_append]; omega, ?_⟩
  repeat refine sd rfl ?_
  refine ⟨by simp only [List.length_append]; omega, ?_⟩
  repeat refine sd rfl ?_
  repeat (first | refine sc rfl ?_ | refine so rfl ?_)
  exact ⟨_, rfl, rfl, rfl⟩
theorem putBind_c (id num : Nat) (a b : List UInt8) (op : Nat) (h1 : id < 18446744073709551616) (h2 : num ≤ 9223372036854775807) (h3 : op ≤ 9223372036854775807) (ha : a.length ≤ 1000000000) (hb : b.length ≤ 1000000000) :
    FnP Tryz.prog 222 [.agg [U64 (id : Nat), I64 (num : Nat), .s a, .s b, I64 (op : Nat)]] (· = .s (vput id ++ vput num ++ spanF a ++ spanF b ++ vput op)) := by
  refine FnP.intro Tryz.tabOK Tryz.wide_ Tryz.func222 rfl (by decide) rfl (fun X => ?_)
  have a1 := vput_len10 h1
  have a2 := vput_len10 (n := num) (by omega)
  have a3 := vput_len10 (n := op) (by omega)
  have a4 := vput_len10 (n := a.length) (by omega)
  have a5 := vput_len10 (n := b.length) (by omega)
  repeat (first | refine sc rfl ?_ | refine so rfl ?_)
  refine C_le _ (Le.freezebox 1 rfl rfl rfl) ?_
  refine C_drawU 20 19 rfl (by kernel_rfl) (by kernel_rfl) (by kernel_rfl) ?_
  repeat refine sd rfl ?_
  refine D_call (Put83_p id h1) rfl rfl rfl rfl ?_
  repeat refine sd rfl ?_
  refine D_call (number_c num h2) rfl rfl rfl rfl ?_
  repeat refine sd rfl ?_
  refine ⟨by omega, ?_⟩
  repeat refine sd rfl ?_
  refine D_call (spanPut_c a ha) rfl rfl rfl rfl ?_
  repeat refine sd rfl ?_
  refine ⟨by simp only [List.length_append]; omega, ?_⟩
  repeat refine sd rfl ?_
  refine D_call (spanPut_c b hb) rfl rfl rfl rfl ?_
  repeat refine sd rfl ?_
  refine ⟨by simp only [List.length_append]; omega, ?_⟩
  repeat refine sd rfl ?_
  refine D_call (number_c op h3) rfl rfl rfl rfl ?_
  repeat refine sd rfl ?_
  refine ⟨by simp only [List.length_append]; omega, ?_⟩
  repeat refine sd rfl ?_
  repeat (first | refine sc rfl ?_ | refine so rfl ?_)
  exact ⟨_, rfl, rfl, rfl⟩
theorem helloPut_c (o e t : Nat) (h1 : o ≤ 9223372036854775807) (h2 : e ≤ 9223372036854775807) (h3 : t < 18446744073709551616) :
    FnP Tryz.prog 169 [.agg [I64 (o : Nat), I64 (e : Nat), U64 (t : Nat)]] (· = .tup [.s (vput o ++ vput e ++ vput t), I64 0]) := by
  refine FnP.intro Tryz.tabOK Tryz.wide_ Tryz.func169 rfl (by decide) rfl (fun X => ?_)
  have a1 := vput_len10 (n := o) (by omega)
  have a2 := vput_len10 (n := e) (by omega)
  have a3 := vput_len10 h3
  repeat (first | refine sc rfl ?_ | refine so rfl ?_)
  refine C_false rfl (by simp) ?_
  repeat refine sc rfl ?_
  refine C_le _ (Le.freezebox 1 rfl rfl rfl) ?_
  refine C_drawU 20 13 rfl (by kernel_rfl) (by kernel_rfl) (by kernel_rfl) ?_
  repeat refine sd rfl ?_
  rw [u64wrap (x := (o : Int)) (by omega) (by omega)]
  refine D_call (Put83_p o (by omega)) rfl rfl rfl rfl ?_
  repeat refine sd rfl ?_
  rw [u64wrap (x := (e : Int)) (by omega) (by omega)]
  refine D_call (Put83_p e (by omega)) rfl rfl rfl rfl ?_
  repeat refine sd rfl ?_
  refine ⟨by omega, ?_⟩
  repeat refine sd rfl ?_
  refine D_call (Put83_p t h3) rfl rfl rfl rfl ?_
  repeat refine sd rfl ?_
  refine ⟨by simp only [List.length_append]; omega, ?_⟩
  repeat refine sd rfl ?_
  repeat (first | refine sc rfl ?_ | refine so rfl ?_)
  exact ⟨_, rfl, rfl, rfl⟩
end Go.Proofs

namespace Go.Proofs
open Go.Sy Go.Lib

abbrev Cu := List (List UInt8) × Bool
def wordV (q : Cu) : List UInt8 := q.1.headD []
def wordC (q : Cu) : Cu := (q.1.tail, q.2 || q.1.isEmpty)
def numV (q : Cu) : Nat := (numF (q.1.headD [])).getD 0
def numC (q : Cu) : Cu := (q.1.tail, q.2 || q.1.isEmpty || (numF (q.1.headD [])).isNone)
def smallV (most : Nat) (q : Cu) : Nat := (smallF most (q.1.headD [])).getD 0
def smallC (most : Nat) (q : Cu) : Cu := (q.1.tail, q.2 || q.1.isEmpty || (smallF most (q.1.headD [])).isNone)
def bytesV (q : Cu) : List UInt8 := (bytesF (q.1.headD [])).1
def bytesC (q : Cu) : Cu := (q.1.tail, q.2 || q.1.isEmpty || (bytesF (q.1.headD [])).2)
abbrev cuA (c : Nat) (q : Cu) : Abs := curA c q.1 q.2
def CuOK (q : Cu) : Prop := ∀ w ∈ q.1, w.length ≤ 1000000
theorem CuOK.hd {q : Cu} (h : CuOK q) : (q.1.headD []).length ≤ 1000000 := by
  cases hq : q.1 with
  | nil => simp
  | cons w r => exact h w (by rw [hq]; simp)
theorem CuOK.tl {q : Cu} (h : CuOK q) {b : Bool} : CuOK (q.1.tail, b) := fun w hw => h w (List.mem_of_mem_tail hw)
theorem CuOK.word {q : Cu} (h : CuOK q) : CuOK (wordC q) := h.tl
theorem CuOK.num {q : Cu} (h : CuOK q) : CuOK (numC q) := h.tl
theorem CuOK.small {q : Cu} (h : CuOK q) {m : Nat} : CuOK (smallC m q) := h.tl
theorem numV_lt (q : Cu) : numV q < 18446744073709551616 := by
  unfold numV
  cases h : numF (q.1.headD []) with
  | none => simp
  | some n => exact numF_lt h
theorem smallV_le (m : Nat) (q : Cu) : smallV m q ≤ m := by
  unfold smallV smallF
  cases h : numF (q.1.headD []) with
  | none => simp
  | some n =>
    simp only []
    split <;> simp; omega
theorem hexL_len : ∀ (n : Nat) (w a : List UInt8), w.length ≤ n → hexL w = some a → a.length ≤ w.length
  | _, [], a, _, h => by simp [hexL] at h; simp [← h]
  | _, [_], a, _, h => by simp [hexL] at h; simp [← h]
  | 0, _ :: _ :: _, a, hn, _ => by simp at hn
  | n + 1, x :: y :: r, a, hn, h => by
    simp only [hexL] at h
    split at h
    · cases h
    · cases hr : hexL r with
      | none => rw [hr] at h; cases h
      | some a' =>
        rw [hr] at h
        simp at h
        have := hexL_len n r a' (by simp at hn; omega) hr
        rw [← h]; simp; omega
theorem bytesV_len {q : Cu} (h : CuOK q) : (bytesV q).length ≤ 1000000 := by
  have hh := h.hd
  unfold bytesV bytesF
  split
  · simp
  · cases hx : hexL (q.1.headD []) with
    | none => simp
    | some a =>
      have := hexL_len _ _ a (Nat.le_refl _) hx
      simp only []; omega
theorem num_S (c : Nat) (q : Cu) (h : CuOK q) : FnA Tryz.prog 31 [PT c 0] [cuA c q] (fun r cs' => r = U64 (numV q : Nat) ∧ cs' = [cuA c (numC q)]) := num_A c q.1 q.2 h.hd
theorem small_S (c : Nat) (q : Cu) (m : Nat) (hm : m ≤ 9223372036854775807) (h : CuOK q) : FnA Tryz.prog 69 [PT c 0, I64 (m : Nat)] [cuA c q] (fun r cs' => r = I64 (smallV m q : Nat) ∧ cs' = [cuA c (smallC m q)]) := small_A c q.1 q.2 m hm h.hd
theorem word_S (c : Nat) (q : Cu) : FnA Tryz.prog 30 [PT c 0] [cuA c q] (fun r cs' => r = .s (wordV q) ∧ cs' = [cuA c (wordC q)]) := word_A c q.1 q.2
theorem bytes_S (c : Nat) (q : Cu) (h : CuOK q) : FnA Tryz.prog 70 [PT c 0] [cuA c q] (fun r cs' => r = .s (bytesV q) ∧ cs' = [cuA c (bytesC q)]) := bytes_A c q.1 q.2 h.hd
abbrev callQ (q : Cu) : Cu := bytesC (smallC 1048576 (smallC 1048576 (numC q)))
abbrev callB (q : Cu) : List UInt8 := vput (numV q) ++ vput (smallV 1048576 (numC q)) ++ vput (smallV 1048576 (smallC 1048576 (numC q))) ++ bytesV (smallC 1048576 (smallC 1048576 (numC q)))
theorem calling_S (c : Nat) (q : Cu) (h : CuOK q) : FnA Tryz.prog 171 [PT c 0] [cuA c q] (fun r cs' => r = .s (callB q) ∧ cs' = [cuA c (callQ q)]) := by
  refine FnA.intro Tryz.tabOK Tryz.wide_ Tryz.func171 rfl (by decide) rfl (fun X => ?_)
  have b1 := smallV_le 1048576 (numC q)
  have b2 := smallV_le 1048576 (smallC 1048576 (numC q))
  have b3 := bytesV_len (q := smallC 1048576 (smallC 1048576 (numC q))) h.num.small.small
  repeat (first | refine sc rfl ?_ | refine so rfl ?_)
  refine O_callA [1] (num_S c q h) (by rfl) (by rfl) (by rfl) (by rfl) (by rfl) ?_
  rintro r' cs' ⟨rfl, rfl⟩
  repeat (first | refine sc rfl ?_ | refine so rfl ?_)
  refine O_callA [1] (small_S c (numC q) 1048576 (by decide) h.num) (by rfl) (by rfl) (by rfl) (by rfl) (by rfl) ?_
  rintro r' cs' ⟨rfl, rfl⟩
  repeat (first | refine sc rfl ?_ | refine so rfl ?_)
  refine O_callA [1] (small_S c (smallC 1048576 (numC q)) 1048576 (by decide) h.num.small) (by rfl) (by rfl) (by rfl) (by rfl) (by rfl) ?_
  rintro r' cs' ⟨rfl, rfl⟩
  repeat (first | refine sc rfl ?_ | refine so rfl ?_)
  refine O_callA [1] (bytes_S c (smallC 1048576 (smallC 1048576 (numC q))) h.num.small.small) (by rfl) (by rfl) (by rfl) (by rfl) (by rfl) ?_
  rintro r' cs' ⟨rfl, rfl⟩
  repeat (first | refine sc rfl ?_ | refine so rfl ?_)
  refine O_call (putCall_c (numV q) (smallV 1048576 (numC q)) (smallV 1048576 (smallC 1048576 (numC q))) (bytesV (smallC 1048576 (smallC 1048576 (numC q)))) (numV_lt q) (by omega) (by omega) (by omega)) (by rfl) (by rfl) (by rfl) (by rfl) (fun r hr => ?_)
  subst hr
  repeat (first | refine sc rfl ?_ | refine so rfl ?_)
  exact ⟨_, [_], _, rfl, pickA_perm (is := [1]) (As := [_]) rfl, rfl, rfl, rfl⟩
abbrev helloQ (q : Cu) : Cu := numC (smallC 1048576 (smallC 8 q))
abbrev helloB (q : Cu) : List UInt8 := vput (smallV 8 q) ++ vput (smallV 1048576 (smallC 8 q)) ++ vput (numV (smallC 1048576 (smallC 8 q)))
theorem greeting_S (c : Nat) (q : Cu) (h : CuOK q) : FnA Tryz.prog 168 [PT c 0] [cuA c q] (fun r cs' => r = .tup [.s (helloB q), I64 0] ∧ cs' = [cuA c (helloQ q)]) := by
  refine FnA.intro Tryz.tabOK Tryz.wide_ Tryz.func168 rfl (by decide) rfl (fun X => ?_)
  have b1 := smallV_le 8 q
  have b2 := smallV_le 1048576 (smallC 8 q)
  repeat (first | refine sc rfl ?_ | refine so rfl ?_)
  refine O_callA [1] (small_S c q 8 (by decide) h) (by rfl) (by rfl) (by rfl) (by rfl) (by rfl) ?_
  rintro r' cs' ⟨rfl, rfl⟩
  repeat (first | refine sc rfl ?_ | refine so rfl ?_)
  refine O_callA [1] (small_S c (smallC 8 q) 1048576 (by decide) h.small) (by rfl) (by rfl) (by rfl) (by rfl) (by rfl) ?_
  rintro r' cs' ⟨rfl, rfl⟩
  repeat (first | refine sc rfl ?_ | refine so rfl ?_)
  refine O_callA [1] (num_S c (smallC 1048576 (smallC 8 q)) h.small.small) (by rfl) (by rfl) (by rfl) (by rfl) (by rfl) ?_
  rintro r' cs' ⟨rfl, rfl⟩
  repeat (first | refine sc rfl ?_ | refine so rfl ?_)
  refine O_call (helloPut_c (smallV 8 q) (smallV 1048576 (smallC 8 q)) (numV (smallC 1048576 (smallC 8 q))) (by omega) (by omega) (numV_lt _)) (by rfl) (by rfl) (by rfl) (by rfl) (fun r hr => ?_)
  subst hr
  repeat (first | refine sc rfl ?_ | refine so rfl ?_)
  exact ⟨_, [_], _, rfl, pickA_perm (is := [1]) (As := [_]) rfl, rfl, rfl, rfl⟩
abbrev bindQ (q : Cu) : Cu := smallC 1048576 (wordC (wordC (smallC 1048576 (numC q))))
abbrev bindB (q : Cu) : List UInt8 := vput (numV q) ++ vput (smallV 1048576 (numC q)) ++ spanF (wordV (smallC 1048576 (numC q))) ++ spanF (wordV (wordC (smallC 1048576 (numC q)))) ++ vput (smallV 1048576 (wordC (wordC (smallC 1048576 (numC q)))))
theorem wordV_len {q : Cu} (h : CuOK q) : (wordV q).length ≤ 1000000 := h.hd
theorem binding_S (c : Nat) (q : Cu) (h : CuOK q) : FnA Tryz.prog 175 [PT c 0] [cuA c q] (fun r cs' => r = .s (bindB q) ∧ cs' = [cuA c (bindQ q)]) := by
  refine FnA.intro Tryz.tabOK Tryz.wide_ Tryz.func175 rfl (by decide) rfl (fun X => ?_)
  have b1 := smallV_le 1048576 (numC q)
  have b2 := smallV_le 1048576 (wordC (wordC (smallC 1048576 (numC q))))
  have b3 := wordV_len (q := smallC 1048576 (numC q)) h.num.small
  have b4 := wordV_len (q := wordC (smallC 1048576 (numC q))) h.num.small.word
  repeat (first | refine sc rfl ?_ | refine so rfl ?_)
  refine O_callA [1] (num_S c q h) (by rfl) (by rfl) (by rfl) (by rfl) (by rfl) ?_
  rintro r' cs' ⟨rfl, rfl⟩
  repeat (first | refine sc rfl ?_ | refine so rfl ?_)
  refine O_callA [1] (small_S c (numC q) 1048576 (by decide) h.num) (by rfl) (by rfl) (by rfl) (by rfl) (by rfl) ?_
  rintro r' cs' ⟨rfl, rfl⟩
  repeat (first | refine sc rfl ?_ | refine so rfl ?_)
  refine O_callA [1] (word_S c (smallC 1048576 (numC q))) (by rfl) (by rfl) (by rfl) (by rfl) (by rfl) ?_
  rintro r' cs' ⟨rfl, rfl⟩
  repeat (first | refine sc rfl ?_ | refine so rfl ?_)
  refine O_callA [1] (word_S c (wordC (smallC 1048576 (numC q)))) (by rfl) (by rfl) (by rfl) (by rfl) (by rfl) ?_
  rintro r' cs' ⟨rfl, rfl⟩
  repeat (first | refine sc rfl ?_ | refine so rfl ?_)
  refine O_callA [1] (small_S c (wordC (wordC (smallC 1048576 (numC q)))) 1048576 (by decide) h.num.small.word.word) (by rfl) (by rfl) (by rfl) (by rfl) (by rfl) ?_
  rintro r' cs' ⟨rfl, rfl⟩
  repeat (first | refine sc rfl ?_ | refine so rfl ?_)
  refine O_call (putBind_c (numV q) (smallV 1048576 (numC q)) (wordV (smallC 1048576 (numC q))) (wordV (wordC (smallC 1048576 (numC q)))) (smallV 1048576 (wordC (wordC (smallC 1048576 (numC q))))) (numV_lt q) (by omega) (by omega) (by omega) (by omega)) (by rfl) (by rfl) (by rfl) (by rfl) (fun r hr => ?_)
  subst hr
  repeat (first | refine sc rfl ?_ | refine so rfl ?_)
  exact ⟨_, [_], _, rfl, pickA_perm (is := [1]) (As := [_]) rfl, rfl, rfl, rfl⟩
def opF (w : List UInt8) : Int :=
  if w = [99, 114, 101, 97, 116, 101] then 1 else if w = [115, 117, 115, 112, 101, 110, 100] then 2 else if w = [114, 101, 115, 117, 109, 101] then 3 else if w = [100, 101, 108, 101, 116, 101] then 4 else if w = [114, 101, 107, 101, 121] then 5 else if w = [113, 117, 111, 116, 97] then 6 else 0
theorem orderOp_c (w : List UInt8) : FnP Tryz.prog 166 [.s w] (· = I64 (opF w)) := by
  refine FnP.intro Tryz.tabOK Tryz.wide_ Tryz.func166 rfl (by decide) rfl (fun X => ?_)
  unfold opF
  iterate 6
    repeat (first | refine sc rfl ?_ | refine so rfl ?_)
    refine C_if rfl (fun h => ?_) (fun h => ?_) <;> simp only [pL] at h
    · rw [if_pos h]
      repeat (first | refine sc rfl ?_ | refine so rfl ?_)
      exact ⟨_, rfl, rfl, rfl⟩
    rw [if_neg h]
  repeat (first | refine sc rfl ?_ | refine so rfl ?_)
  exact ⟨_, rfl, rfl, rfl⟩
end Go.Proofs

namespace Go.Proofs
open Go.Sy Go.Lib

def mixF (a b : Int) : Int :=
  let x := IntKind.u64.wrap (bitsV .xor .u64 a b * 11400714819323198485)
  let y := IntKind.u64.wrap (bitsV .xor .u64 x (x.fdiv (2 ^ min (Int.toNat 29) IntKind.u64.bits)) * 13787848793156543929)
  bitsV .xor .u64 y (y.fdiv (2 ^ min (Int.toNat 32) IntKind.u64.bits))
theorem mixE_c (a b : Int) : FnP Tryz.prog 83 [U64 a, U64 b] (· = U64 (mixF a b)) := by
  refine FnP.intro Tryz.tabOK Tryz.wide_ Tryz.func83 rfl (by decide) rfl (fun X => ?_)
  repeat (first | refine sc rfl ?_ | refine so rfl ?_)
  refine ⟨by decide, ?_⟩
  repeat (first | refine sc rfl ?_ | refine so rfl ?_)
  refine ⟨by decide, ?_⟩
  repeat (first | refine sc rfl ?_ | refine so rfl ?_)
  exact ⟨_, rfl, rfl, rfl⟩
abbrev tagF (x : Int) : Int := max (mixF x 256) 1
theorem issueE_A (g d : Nat) (x : Int) : FnA Tryz.prog 45 [PT g 0, I64 0, PT d 0] [mac0 g, diceA d x 0 1] (fun r cs' => r = .tup [I64 1, U64 (tagF x), I64 0] ∧ cs' = [mac1 g (tagF x), diceA d x 1 0]) := by
  refine FnA.intro Tryz.tabOK Tryz.wide_ Tryz.func45 rfl (by decide) rfl (fun X => ?_)
  repeat (first | refine sc rfl ?_ | refine so rfl ?_)
  refine O_Xd (X_ptrnil Tryz.underlying85 rfl rfl rfl) ?_
  repeat refine so rfl ?_
  refine C_false rfl rfl ?_
  repeat (first | refine sc rfl ?_ | refine so rfl ?_)
  refine O_call owns0_c (by rfl) (by rfl) (by rfl) (by rfl) (fun r' hr => ?_)
  subst hr
  repeat refine so rfl ?_
  refine C_false rfl rfl ?_
  repeat (first | refine sc rfl ?_ | refine so rfl ?_)
  refine O_callA [1] (diceTake_A d x) (by rfl) (by rfl) (by rfl) (by rfl) (by rfl) ?_
  rintro r' cs' ⟨rfl, rfl⟩
  repeat (first | refine sc rfl ?_ | refine so rfl ?_)
  refine C_false rfl rfl ?_
  repeat refine sc rfl ?_
  refine C_drawU 20 9 rfl (by kernel_rfl) (by kernel_rfl) (by kernel_rfl) ?_
  repeat refine sd rfl ?_
  refine D_X _ (X_idxP (i := 0) (len := 9) rfl rfl (by decide) (by decide) rfl rfl rfl rfl) ?_
  repeat refine sd rfl ?_
  refine D_X (I64 0) (X_loadP 1 (reads_box 0) rfl rfl rfl rfl rfl rfl) ?_
  repeat refine sd rfl ?_
  repeat refine sc rfl ?_
  refine O_Xd (X_idxP (i := 0) (len := 9) rfl rfl (by decide) (by decide) rfl rfl rfl rfl) ?_
  repeat refine sc rfl ?_
  refine O_Xn (X_storeP 1 (writes_box (by show 0 < 27; decide)) rfl rfl rfl rfl rfl rfl rfl) ?_
  repeat (first | refine sc rfl ?_ | refine so rfl ?_)
  refine O_Xd (X_idxP (i := 0) (len := 9) rfl rfl (by decide) (by decide) rfl rfl rfl rfl) ?_
  repeat refine sc rfl ?_
  refine O_loadP 0 (reads_box 0) rfl rfl rfl rfl rfl rfl ?_
  repeat (first | refine sc rfl ?_ | refine so rfl ?_)
  refine ⟨by decide, ?_⟩
  repeat refine so rfl ?_
  refine O_call (mixE_c x 256) (by rfl) (by rfl) (by rfl) (by rfl) (fun r' hr => ?_)
  subst hr
  repeat (first | refine sc rfl ?_ | refine so rfl ?_)
  refine O_Xd (X_idxP (i := 0) (len := 9) rfl rfl (by decide) (by decide) rfl rfl rfl rfl) ?_
  repeat refine sc rfl ?_
  refine O_Xn (X_storeB 0 (writesN_box (cells := [I64 1,I64 0,I64 0,I64 0,I64 0,I64 0,I64 0,I64 0,I64 0,I64 0,U64 0,I64 0,U64 0,I64 0,U64 0,I64 0,U64 0,I64 0,U64 0,I64 0,U64 0,I64 0,U64 0,I64 0,U64 0,I64 0,U64 0]) (new := [I64 1, U64 (tagF x)]) (o := 9) (by show 9 + 2 ≤ 27; decide)) rfl rfl rfl rfl rfl rfl rfl) ?_
  repeat (first | refine sc rfl ?_ | refine so rfl ?_)
  exact ⟨_, [_, _], _, rfl, pickA_perm (is := [0, 0]) (As := [_, _]) rfl, rfl, rfl, rfl⟩
theorem bossTag_c (x : Int) : FnA Tryz.prog 170 [U64 x] [] (fun r cs' => r = U64 (tagF x) ∧ cs' = []) := by
  refine FnA.intro Tryz.tabOK Tryz.wide_ Tryz.func170 rfl (by decide) rfl (fun X => ?_)
  repeat (first | refine sc rfl ?_ | refine so rfl ?_)
  refine O_callA [] diceNew_A (by rfl) (by rfl) (by rfl) (by rfl) (by rfl) ?_
  rintro r' cs' ⟨d, rfl, rfl⟩
  repeat (first | refine sc rfl ?_ | refine so rfl ?_)
  refine O_callA [0] (dicePut_A d x) (by rfl) (by rfl) (by rfl) (by rfl) (by rfl) ?_
  rintro r' cs' ⟨rfl, rfl⟩
  repeat (first | refine sc rfl ?_ | refine so rfl ?_)
  refine O_callA [] macNew_A (by rfl) (by rfl) (by rfl) (by rfl) (by rfl) ?_
  rintro r' cs' ⟨g, rfl, rfl⟩
  repeat refine so rfl ?_
  refine O_callA [0, 0] (issueE_A g d x) (by rfl) (by rfl) (by rfl) (by rfl) (by rfl) ?_
  rintro r' cs' ⟨rfl, rfl⟩
  repeat (first | refine sc rfl ?_ | refine so rfl ?_)
  exact ⟨_, [], _, rfl, pickA_perm (is := []) (As := []) rfl, rfl, rfl, rfl⟩
end Go.Proofs

namespace Go.Proofs
open Go.Sy Go.Lib

theorem joinL_p (ws : List (List UInt8)) (sep : List UInt8) (h0 : 0 < ws.length) (hn : ws.length ≤ 1000000) (h : (Lib.join ws sep).length ≤ 140737488355328) : FnP Tryz.prog 37 [SL 1 wc1 ws, .s sep] (· = .s (Lib.join ws sep)) := by
  refine FnP.ofHand ⟨_, Tryz.func37, rfl, by decide⟩ (fun G w cargs him hr => ?_)
  simp only [RepIT, RepI] at hr
  obtain ⟨v0, zs, rfl, ⟨aa, c, rfl, hc, ha⟩, v1, zs1, rfl, rfl, rfl⟩ := hr
  rcases ha with ha | ⟨b, o, rfl, ha⟩
  · omega
  have hcell : ∀ (j : Nat), j < ws.length → w.cell? ⟨b, o + j, none⟩ = some (S (ws.getD j default)) := by
    intro j hj
    have h1 := ha j hj
    simp only [wc1, CellsAt, RepI] at h1
    obtain ⟨⟨q, q1, q2, _⟩, _⟩ := h1
    have := him.1 b _ q q1
    rw [q2] at this
    rw [Nat.mul_one] at this
    exact this
  have c0 := hcell 0 h0
  have hj := Tryz.strings_Join b o c (ws.map fun x => ⟨x.toArray⟩) ⟨sep.toArray⟩ w (fun j u hu => by
    rw [List.getElem?_map] at hu
    cases hg : ws[j]? with
    | none => rw [hg] at hu; cases hu
    | some x =>
      rw [hg] at hu
      have hjl : j < ws.length := (List.getElem?_eq_some_iff.1 hg).1
      have h2 := hcell j hjl
      rw [List.getD_eq_getElem?_getD, hg] at h2
      simp only [Option.map_some, Option.some.injEq] at hu
      rw [← hu]
      exact h2) (block_lt_of_cell c0) (by rw [List.length_map]; omega) (by rw [List.length_map]; exact hc) (by rw [List.map_map]; simpa [Function.comp_def] using h)
  rw [List.length_map, List.map_map] at hj
  refine (show Calls Tryz.prog 37 _ w _ from hj).mono ?_
  rintro e w' ⟨rfl, hb⟩
  exact ⟨⟨_, rfl, fun H => by simp [RepI, S, Function.comp_def]⟩, hb⟩
theorem join0_p (sep : List UInt8) : FnP Tryz.prog 37 [SL 1 wc1 [], .s sep] (· = .s []) := by
  refine FnP.ofHand ⟨_, Tryz.func37, rfl, by decide⟩ (fun G w cargs him hr => ?_)
  simp only [RepIT, RepI] at hr
  obtain ⟨v0, zs, rfl, ⟨aa, c, rfl, hc, ha⟩, v1, zs1, rfl, rfl, rfl⟩ := hr
  refine (show Calls Tryz.prog 37 _ w _ from Tryz.strings_Join_none aa c ⟨sep.toArray⟩ w).mono ?_
  rintro e w' ⟨rfl, rfl⟩
  exact ⟨⟨_, rfl, fun H => by simp [RepI, S]⟩, ⟨rfl, rfl, rfl, Nat.le_refl _, fun _ _ => rfl⟩⟩
def restV (q : Cu) : List UInt8 := Lib.join q.1 [32]
def restC (q : Cu) : Cu := ([], q.2)
def configF (op : Int) : Bool := decide (op = 1 ∨ op = 6)
theorem configures_c (op : Int) : FnP Tryz.prog 257 [I64 op] (· = B (configF op)) := by
  refine FnP.intro Tryz.tabOK Tryz.wide_ Tryz.func257 rfl (by decide) rfl (fun X => ?_)
  repeat (first | refine sc rfl ?_ | refine so rfl ?_)
  unfold configF
  refine O_case 5 rfl (fun h => ?_) (fun h => ?_) <;> simp only [pL] at h
  · repeat (first | refine sc rfl ?_ | refine so rfl ?_)
    exact ⟨_, rfl, rfl, congrArg B (by simp [h])⟩
  · repeat (first | refine sc rfl ?_ | refine so rfl ?_)
    refine ⟨_, rfl, rfl, congrArg B ?_⟩
    rw [Bool.eq_iff_iff]; simp [h]
theorem join_c (l : List (List UInt8)) (hl : l.length ≤ 1000000) (h : (Lib.join l [32]).length ≤ 140737488355328) : FnP Tryz.prog 37 [SL 1 wc1 l, .s [32]] (· = .s (Lib.join l [32])) := by
  cases l with
  | nil => exact join0_p [32]
  | cons w r => exact joinL_p (w :: r) [32] (by simp) hl h
theorem rest_S (c : Nat) (q : Cu) (hl : q.1.length ≤ 1000000) (h : (restV q).length ≤ 140737488355328) : FnA Tryz.prog 174 [PT c 0] [cuA c q] (fun r cs' => r = .s (restV q) ∧ cs' = [cuA c (restC q)]) := by
  refine FnA.intro Tryz.tabOK Tryz.wide_ Tryz.func174 rfl (by decide) rfl (fun X => ?_)
  repeat (first | refine sc rfl ?_ | refine so rfl ?_)
  first
    | refine O_loadP 0 (reads_box 0) rfl rfl rfl rfl rfl rfl ?_
    | refine O_loadP 1 (reads_box 0) rfl rfl rfl rfl rfl rfl ?_
    | refine O_loadP 2 (reads_box 0) rfl rfl rfl rfl rfl rfl ?_
    | refine O_loadP 3 (reads_box 0) rfl rfl rfl rfl rfl rfl ?_
    | refine O_loadP 4 (reads_box 0) rfl rfl rfl rfl rfl rfl ?_
  repeat refine sc rfl ?_
  refine O_call (join_c q.1 hl h) (by rfl) (by rfl) (by rfl) (by rfl) (fun r hr => ?_)
  subst hr
  repeat (first | refine sc rfl ?_ | refine so rfl ?_)
  first
    | refine O_Xn (X_storeP 0 (writes_box (by show 0 < 2; decide)) rfl rfl rfl rfl rfl rfl rfl) ?_
    | refine O_Xn (X_storeP 1 (writes_box (by show 0 < 2; decide)) rfl rfl rfl rfl rfl rfl rfl) ?_
    | refine O_Xn (X_storeP 2 (writes_box (by show 0 < 2; decide)) rfl rfl rfl rfl rfl rfl rfl) ?_
    | refine O_Xn (X_storeP 3 (writes_box (by show 0 < 2; decide)) rfl rfl rfl rfl rfl rfl rfl) ?_
    | refine O_Xn (X_storeP 4 (writes_box (by show 0 < 2; decide)) rfl rfl rfl rfl rfl rfl rfl) ?_
  refine O_le _ (Le.retell 0 (A' := cuA c (restC q)) rfl rfl (fun G w h => ?_)) ?_
  · obtain ⟨arr, h1, h2⟩ := h
    refine ⟨arr, h1, ?_⟩
    simp only [List.set_cons_zero, Nat.add_zero, RepIL] at h2
    obtain ⟨z, zs, hz, h3, h4, h5⟩ := h2
    simp only [restC, RepIL]
    exact ⟨z, zs, hz, repI_nil h3, h4, h5⟩
  repeat (first | refine sc rfl ?_ | refine so rfl ?_)
  first
    | exact ⟨_, [_], _, rfl, pickA_perm (is := [0]) (As := [_]) rfl, rfl, rfl, rfl⟩
    | exact ⟨_, [_], _, rfl, pickA_perm (is := [1]) (As := [_]) rfl, rfl, rfl, rfl⟩
    | exact ⟨_, [_], _, rfl, pickA_perm (is := [2]) (As := [_]) rfl, rfl, rfl, rfl⟩
    | exact ⟨_, [_], _, rfl, pickA_perm (is := [3]) (As := [_]) rfl, rfl, rfl, rfl⟩
    | exact ⟨_, [_], _, rfl, pickA_perm (is := [4]) (As := [_]) rfl, rfl, rfl, rfl⟩
end Go.Proofs

namespace Go.Proofs
open Go.Sy Go.Lib

def ordC (id : Nat) (op owner : Int) (x : Cf) : List AV := U64 (id : Nat) :: I64 op :: I64 owner :: Cf.c x
def formF (op owner : Int) (x : Cf) : Int := if op < 1 ∨ 6 < op ∨ owner < 1 ∨ 8 < owner then 1 else if configF op = true then ckF x else 0
theorem form_c (id : Nat) (op owner : Int) (x : Cf) : FnP Tryz.prog 256 [.agg (ordC id op owner x)] (· = I64 (formF op owner x)) := by
  refine FnP.intro Tryz.tabOK Tryz.wide_ Tryz.func256 rfl (by decide) rfl (fun X => ?_)
  unfold formF
  repeat (first | refine sc rfl ?_ | refine so rfl ?_)
  refine O_case 7 rfl (fun h1 => ?_) (fun h1 => ?_) <;> simp only [pL] at h1
  · rw [if_pos (by omega)]
    repeat refine so rfl ?_
    refine C_true rfl rfl ?_
    repeat (first | refine sc rfl ?_ | refine so rfl ?_)
    exact ⟨_, rfl, rfl, rfl⟩
  repeat refine so rfl ?_
  refine O_case 12 rfl (fun h2 => ?_) (fun h2 => ?_) <;> simp only [pL] at h2
  · rw [if_pos (by omega)]
    repeat refine so rfl ?_
    refine C_true rfl rfl ?_
    repeat (first | refine sc rfl ?_ | refine so rfl ?_)
    exact ⟨_, rfl, rfl, rfl⟩
  repeat refine so rfl ?_
  refine O_case 17 rfl (fun h3 => ?_) (fun h3 => ?_) <;> simp only [pL] at h3
  · rw [if_pos (by omega)]
    repeat refine so rfl ?_
    refine C_true rfl rfl ?_
    repeat (first | refine sc rfl ?_ | refine so rfl ?_)
    exact ⟨_, rfl, rfl, rfl⟩
  repeat refine so rfl ?_
  refine C_if rfl (fun h4 => ?_) (fun h4 => ?_) <;> simp only [pL] at h4
  · rw [if_pos (by omega)]
    repeat (first | refine sc rfl ?_ | refine so rfl ?_)
    exact ⟨_, rfl, rfl, rfl⟩
  rw [if_neg (by omega)]
  repeat (first | refine sc rfl ?_ | refine so rfl ?_)
  refine O_call (configures_c op) (by rfl) (by rfl) (by rfl) (by rfl) (fun r hr => ?_)
  subst hr
  repeat refine so rfl ?_
  refine C_if rfl (fun h5 => ?_) (fun h5 => ?_)
  · rw [if_pos h5]
    repeat (first | refine sc rfl ?_ | refine so rfl ?_)
    refine O_call (confCheck_c x) (by rfl) (by rfl) (by rfl) (by rfl) (fun r hr => ?_)
    subst hr
    repeat (first | refine sc rfl ?_ | refine so rfl ?_)
    exact ⟨_, rfl, rfl, rfl⟩
  · rw [if_neg (by simp [h5])]
    repeat (first | refine sc rfl ?_ | refine so rfl ?_)
    exact ⟨_, rfl, rfl, rfl⟩
def cfB (x : Cf) : List UInt8 := (x.l.map fun n => vput n.toNat).flatten
def cfP (x : Cf) : List UInt8 × Int := if ckF x = 0 then (cfB x, 0) else ([], ckF x)
abbrev ordB (id : Nat) (op owner : Int) : List UInt8 := vput id ++ vput op.toNat ++ vput owner.toNat
def ordP (id : Nat) (op owner : Int) (x : Cf) : List UInt8 × Int :=
  if formF op owner x = 0 then (if configF op = true then (ordB id op owner ++ (cfP x).1, (cfP x).2) else (ordB id op owner, 0)) else ([], 1)
theorem form_op {op owner : Int} {x : Cf} (h : formF op owner x = 0) : 1 ≤ op ∧ op ≤ 6 ∧ 1 ≤ owner ∧ owner ≤ 8 := by
  unfold formF at h
  split at h
  · cases h
  · omega
theorem adminPut_c (id : Nat) (op owner : Int) (x : Cf) (hid : id < 18446744073709551616) (hl : (cfP x).1.length ≤ 1000) (hCP : FnP Tryz.prog 258 [.agg (Cf.c x)] (· = .tup [.s (cfP x).1, I64 (cfP x).2])) :
    FnP Tryz.prog 219 [.agg (ordC id op owner x)] (· = .tup [.s (ordP id op owner x).1, I64 (ordP id op owner x).2]) := by
  refine FnP.intro Tryz.tabOK Tryz.wide_ Tryz.func219 rfl (by decide) rfl (fun X => ?_)
  unfold ordP
  have a1 := vput_len10 hid
  repeat (first | refine sc rfl ?_ | refine so rfl ?_)
  refine O_call (form_c id op owner x) (by rfl) (by rfl) (by rfl) (by rfl) (fun r hr => ?_)
  subst hr
  repeat refine so rfl ?_
  refine C_if rfl (fun h1 => ?_) (fun h1 => ?_) <;> simp only [pL] at h1
  · rw [if_neg h1]
    repeat (first | refine sc rfl ?_ | refine so rfl ?_)
    exact ⟨_, rfl, rfl, rfl⟩
  rw [if_pos h1]
  obtain ⟨o1, o2, o3, o4⟩ := form_op h1
  obtain ⟨k, rfl⟩ : ∃ k : Nat, op = (k : Int) := ⟨op.toNat, by omega⟩
  obtain ⟨m, rfl⟩ : ∃ m : Nat, owner = (m : Int) := ⟨owner.toNat, by omega⟩
  simp only [ordB, Int.toNat_natCast]
  have a2 := vput_len10 (n := k) (by omega)
  have a3 := vput_len10 (n := m) (by omega)
  repeat refine sc rfl ?_
  refine C_le _ (Le.freezebox 1 rfl rfl rfl) ?_
  refine C_drawU 20 13 rfl (by kernel_rfl) (by kernel_rfl) (by kernel_rfl) ?_
  repeat refine sd rfl ?_
  refine D_call (Put83_p id hid) rfl rfl rfl rfl ?_
  repeat refine sd rfl ?_
  rw [u64wrap (x := (k : Int)) (by omega) (by omega)]
  refine D_call (Put83_p k (by omega)) rfl rfl rfl rfl ?_
  repeat refine sd rfl ?_
  refine ⟨by omega, ?_⟩
  repeat refine sd rfl ?_
  rw [u64wrap (x := (m : Int)) (by omega) (by omega)]
  refine D_call (Put83_p m (by omega)) rfl rfl rfl rfl ?_
  repeat refine sd rfl ?_
  refine ⟨by simp only [List.length_append]; omega, ?_⟩
  repeat refine sd rfl ?_
  repeat (first | refine sc rfl ?_ | refine so rfl ?_)
  refine O_call (configures_c (k : Int)) (by rfl) (by rfl) (by rfl) (by rfl) (fun r hr => ?_)
  subst hr
  repeat refine so rfl ?_
  cases hc : configF (k : Int) with
  | false =>
    refine C_true rfl rfl ?_
    repeat (first | refine sc rfl ?_ | refine so rfl ?_)
    exact ⟨_, rfl, rfl, rfl⟩
  | true =>
    refine C_false rfl rfl ?_
    repeat (first | refine sc rfl ?_ | refine so rfl ?_)
    refine O_call hCP (by rfl) (by rfl) (by rfl) (by rfl) (fun r hr => ?_)
    subst hr
    repeat (first | refine sc rfl ?_ | refine so rfl ?_)
    refine ⟨by simp only [List.length_append]; omega, ?_⟩
    repeat (first | refine sc rfl ?_ | refine so rfl ?_)
    exact ⟨_, rfl, rfl, rfl⟩
end Go.Proofs

namespace Go.Proofs
open Go.Sy Go.Lib

def qI (q : Cu) : Nat → Cu
  | 0 => q
  | i + 1 => smallC 1048576 (qI q i)
theorem qI_ok {q : Cu} (h : CuOK q) : ∀ i, CuOK (qI q i)
  | 0 => h
  | i + 1 => (qI_ok h i).small
abbrev vI (q : Cu) (i : Nat) : List Int := (List.range i).map fun j => ((smallV 1048576 (qI q j) : Nat) : Int)
theorem vI_s (q : Cu) (i : Nat) : vI q (i + 1) = vI q i ++ [((smallV 1048576 (qI q i) : Nat) : Int)] := by simp [vI, List.range_succ]
def ordX (op : Int) (q : Cu) : Cf := if configF op = true then (confOfF (vI (smallC 8 (numC q)) 9)).1 else default
def orderV (op : Int) (q : Cu) : List UInt8 × Int := ordP (numV q) op ((smallV 8 (numC q) : Nat) : Int) (ordX op q)
def orderC (op : Int) (q : Cu) : Cu := if configF op = true then qI (smallC 8 (numC q)) 9 else smallC 8 (numC q)
theorem order_S (c : Nat) (op : Int) (q : Cu) (h : CuOK q) (hCP : ∀ x : Cf, (cfP x).1.length ≤ 1000 ∧ FnP Tryz.prog 258 [.agg (Cf.c x)] (· = .tup [.s (cfP x).1, I64 (cfP x).2])) :
    FnA Tryz.prog 167 [I64 op, PT c 0] [cuA c q] (fun r cs' => r = .tup [.s (orderV op q).1, I64 (orderV op q).2] ∧ cs' = [cuA c (orderC op q)]) := by
  refine FnA.intro Tryz.tabOK Tryz.wide_ Tryz.func167 rfl (by decide) rfl (fun X => ?_)
  have b1 := smallV_le 8 (numC q)
  have hid := numV_lt q
  repeat (first | refine sc rfl ?_ | refine so rfl ?_)
  refine O_callA [1] (num_S c q h) (by rfl) (by rfl) (by rfl) (by rfl) (by rfl) ?_
  rintro r' cs' ⟨rfl, rfl⟩
  repeat (first | refine sc rfl ?_ | refine so rfl ?_)
  refine O_callA [1] (small_S c (numC q) 8 (by decide) h.num) (by rfl) (by rfl) (by rfl) (by rfl) (by rfl) ?_
  rintro r' cs' ⟨rfl, rfl⟩
  repeat (first | refine sc rfl ?_ | refine so rfl ?_)
  unfold orderV orderC ordX
  generalize hide : numV q = id at hid ⊢
  generalize howe : smallV 8 (numC q) = ow at b1 ⊢
  have hok : CuOK (smallC 8 (numC q)) := h.num.small
  generalize smallC 8 (numC q) = p at hok ⊢
  have key : ∀ (b : Bool) (x : Cf) (qq : Cu), True := fun _ _ _ => trivial
  by_cases hc : op = 1 ∨ op = 6
  · have hcf : configF op = true := by simp [configF, hc]
    rw [if_pos hcf, if_pos hcf]
    rcases hc with rfl | rfl
    · repeat refine so rfl ?_
      refine C_true rfl rfl ?_
      repeat (first | refine sc rfl ?_ | refine so rfl ?_)
      refine C_le _ (Le.nilvec INTc 7 28 3 1 rfl rfl rfl) ?_
      refine C_loop (fun i : Nat => ⟨[(0, I64 1), (1, PT c 0), (6, .bp 6 0), (7, .own 28), (22, I64 (i : Nat))], [VEC 28 3 1 INTc (vI p i), .box 6 360 (ordC id 1 (ow : Int) default), .abs (cuA c (qI p i))]⟩) (fun i => i ≤ 9) (fun i => 9 - i) 0 (Nat.zero_le _) (Le.pick [0, 0, 0] ⟨rfl, rfl, rfl, rfl, rfl, trivial⟩ rfl) ?_
      intro i hi
      have hln : (vI p i).length = i := by simp [vI]
      repeat (first | refine sc rfl ?_ | refine so rfl ?_)
      refine C_if rfl (fun k1 => ?_) (fun k1 => ?_) <;> simp only [pL] at k1
      · repeat (first | refine sc rfl ?_ | refine so rfl ?_)
        refine O_callA [2] (small_S c (qI p i) 1048576 (by decide) (qI_ok hok i)) (by rfl) (by rfl) (by rfl) (by rfl) (by rfl) ?_
        rintro r' cs' ⟨rfl, rfl⟩
        repeat refine sb rfl ?_
        refine O_push INTc (vI p i) ((smallV 1048576 (qI p i) : Nat) : Int) [(0, I64 1), (1, PT c 0), (6, .bp 6 0), (22, I64 (i : Nat))] rfl rfl rfl rfl rfl rfl rfl rfl rfl rfl ⟨rfl, rfl, rfl, rfl, trivial⟩ rfl rfl (by omega) (by simp only [maxLen]; omega) ?_
        rw [← vI_s]
        repeat (first | refine sc rfl ?_ | refine so rfl ?_)
        rw [w64 (x := (i : Int) + 1) (by omega) (by omega)]
        exact ⟨i + 1, by omega, by omega, Le.pick [0, 2, 1] ⟨rfl, rfl, rfl, rfl, rfl, trivial⟩ rfl⟩
      · obtain rfl : i = 9 := by omega
        refine C_le _ (Le.freezeL (l := vI p 9) (cells := INTc) 7 rfl rfl) ?_
        repeat (first | refine sc rfl ?_ | refine so rfl ?_)
        refine O_call (confOf_c (vI p 9) (by omega)) (by rfl) (by rfl) (by rfl) (by rfl) (fun r hr => ?_)
        subst hr
        repeat (first | refine sc rfl ?_ | refine so rfl ?_)
        refine O_call (adminPut_c id 1 (ow : Int) (confOfF (vI p 9)).1 hid (hCP _).1 (hCP _).2) (by rfl) (by rfl) (by rfl) (by rfl) (fun r hr => ?_)
        subst hr
        repeat (first | refine sc rfl ?_ | refine so rfl ?_)
        exact ⟨_, [_], _, rfl, pickA_perm (is := [1]) (As := [_]) rfl, rfl, rfl, rfl⟩
    · repeat refine so rfl ?_
      refine C_true rfl rfl ?_
      repeat (first | refine sc rfl ?_ | refine so rfl ?_)
      refine C_le _ (Le.nilvec INTc 7 28 3 1 rfl rfl rfl) ?_
      refine C_loop (fun i : Nat => ⟨[(0, I64 6), (1, PT c 0), (6, .bp 6 0), (7, .own 28), (22, I64 (i : Nat))], [VEC 28 3 1 INTc (vI p i), .box 6 360 (ordC id 6 (ow : Int) default), .abs (cuA c (qI p i))]⟩) (fun i => i ≤ 9) (fun i => 9 - i) 0 (Nat.zero_le _) (Le.pick [0, 0, 0] ⟨rfl, rfl, rfl, rfl, rfl, trivial⟩ rfl) ?_
      intro i hi
      have hln : (vI p i).length = i := by simp [vI]
      repeat (first | refine sc rfl ?_ | refine so rfl ?_)
      refine C_if rfl (fun k1 => ?_) (fun k1 => ?_) <;> simp only [pL] at k1
      · repeat (first | refine sc rfl ?_ | refine so rfl ?_)
        refine O_callA [2] (small_S c (qI p i) 1048576 (by decide) (qI_ok hok i)) (by rfl) (by rfl) (by rfl) (by rfl) (by rfl) ?_
        rintro r' cs' ⟨rfl, rfl⟩
        repeat refine sb rfl ?_
        refine O_push INTc (vI p i) ((smallV 1048576 (qI p i) : Nat) : Int) [(0, I64 6), (1, PT c 0), (6, .bp 6 0), (22, I64 (i : Nat))] rfl rfl rfl rfl rfl rfl rfl rfl rfl rfl ⟨rfl, rfl, rfl, rfl, trivial⟩ rfl rfl (by omega) (by simp only [maxLen]; omega) ?_
        rw [← vI_s]
        repeat (first | refine sc rfl ?_ | refine so rfl ?_)
        rw [w64 (x := (i : Int) + 1) (by omega) (by omega)]
        exact ⟨i + 1, by omega, by omega, Le.pick [0, 2, 1] ⟨rfl, rfl, rfl, rfl, rfl, trivial⟩ rfl⟩
      · obtain rfl : i = 9 := by omega
        refine C_le _ (Le.freezeL (l := vI p 9) (cells := INTc) 7 rfl rfl) ?_
        repeat (first | refine sc rfl ?_ | refine so rfl ?_)
        refine O_call (confOf_c (vI p 9) (by omega)) (by rfl) (by rfl) (by rfl) (by rfl) (fun r hr => ?_)
        subst hr
        repeat (first | refine sc rfl ?_ | refine so rfl ?_)
        refine O_call (adminPut_c id 6 (ow : Int) (confOfF (vI p 9)).1 hid (hCP _).1 (hCP _).2) (by rfl) (by rfl) (by rfl) (by rfl) (fun r hr => ?_)
        subst hr
        repeat (first | refine sc rfl ?_ | refine so rfl ?_)
        exact ⟨_, [_], _, rfl, pickA_perm (is := [1]) (As := [_]) rfl, rfl, rfl, rfl⟩
  · have hcf : configF op = false := by simp [configF, hc]
    rw [hcf]
    simp only [Bool.false_eq_true, if_false]
    refine O_case 18 rfl (fun h1 => ?_) (fun h1 => ?_) <;> simp only [pL] at h1
    · omega
    repeat refine so rfl ?_
    refine C_false rfl (by simp; omega) ?_
    repeat (first | refine sc rfl ?_ | refine so rfl ?_)
    refine O_call (adminPut_c id op (ow : Int) default hid (hCP _).1 (hCP _).2) (by rfl) (by rfl) (by rfl) (by rfl) (fun r hr => ?_)
    subst hr
    repeat (first | refine sc rfl ?_ | refine so rfl ?_)
    exact ⟨_, [_], _, rfl, pickA_perm (is := [1]) (As := [_]) rfl, rfl, rfl, rfl⟩
end Go.Proofs
