/- admin.Book.All: the keys, sorted. -/
import Derived.Test.YtgmdpfoccnalnaaGreatE9
import Derived.Test.YtgmdpfoccnalnaaGreatE5
import Derived.Test.YtgmdpfoccnalnaaGreatE7
set_option linter.unusedSimpArgs false
set_option linter.unusedVariables false
namespace Go.Proofs
open Go.RowKit Go.Maps Go.Sort Go.Shelf

set_option maxHeartbeats 1000000 in
theorem All_run (g b : Nat) (es : List (Int × At)) (w : World) (D0 : DataW Unit) (hg : w.cell? ⟨g, 0, none⟩ = some (.map (some b))) (hgs : g < w.heap.size) (hown : w.ownsMap Tryz.prog 3 Rnil b es.length D0) (hsz : Maps.size D0 ≤ 8) :
    Calls Tryz.prog 102 #[.pointer (some ⟨g, 0, none⟩)] w fun e w' => ∃ (v : Value) (ss : List Int), e = .returned v ∧ ss.Perm (intKeys D0) ∧
      w'.ownsRow w.heap.size 3 1 v ss.length ((ss.mergeSort (fun x y => decide (x ≤ y))).map encZ) ∧ Below w.heap.size w w' := by
  refine (callsIn_wide (n := 6)).1 ?_
  have hbl := hown.lt
  have hseq : SeqGives Fence.wide 2 Tryz.prog 237 #[.pointer (some ⟨w.heap.size, 0, none⟩)] encZ (fun ss => ss.Perm (intKeys D0)) (Maps.size D0) (w.alloc (.cells #[.map (some b)] 113)) :=
    AnyZI.keys_gives (ρ := Tryz.keysA_ren) { Tryz.keysA with } Fence.wide _ trivial rfl (by omega) w.heap.size b es.length D0 _ (by simp) (by simp) (by
      obtain ⟨es, clock, hb, Ft, hs, hD⟩ := hown
      exact ⟨es, clock, (Below.heap_alloc _ _ b hbl).trans hb, Ft, hs, hD⟩)
  have cK : ∀ mb W, CallsIn Fence.wide 5 Tryz.prog 173 #[.map mb] W fun e w' => e = .returned (.func (.func 237) #[] #[.pointer (some ⟨W.heap.size, 0, none⟩)]) ∧ w' = W.alloc (.cells #[.map mb] 113) := fun mb W => AnyZI.keys_in Tryz.keysA Fence.wide 5 trivial rfl mb W
  have cS := AnyZI.sorted_in Tryz.sortedA Fence.wide 5 trivial trivial trivial trivial rfl (by omega) (Tryz.sortsA _) (enters_of Tryz.func236 (by kernel_rfl) rfl) 237 #[.pointer (some ⟨w.heap.size, 0, none⟩)] trivial (enters_of Tryz.func237 (by kernel_rfl) rfl) _ (Maps.size D0) (by simp only [maxLen]; omega) (by omega) _ hseq
  change CallsIn _ _ Tryz.prog 172 _ _ _ at cS
  have hfK : Fence.wide.fn 173 := trivial
  have hfS : Fence.wide.fn 172 := trivial
  refine callsIn_of_wp Tryz.func102 rfl trivial ?_ rfl
  simp only [show Tryz.f102.ntmps = 11 by kernel_rfl, List.size_toArray, List.length_cons, List.length_nil, Nat.reduceAdd, Nat.reduceSub, Array.replicate_succ, Array.replicate_zero, List.push_toArray, List.append_toArray, List.nil_append, List.cons_append]
  gi_wp2_with (first
    | (gi_at_call 173; refine (cK _ _).mono ?_; rintro e w' ⟨rfl, rfl⟩)
    | (gi_at_call 172; refine cS.mono ?_; rintro e w' ⟨v, ss, rfl, hS, hrow, hnil, hb⟩))
  go_ret
  exact ⟨v, ss, rfl, hS, ownsRow_base_a hrow (by simp), ((Below.refl _ w).alloc (Nat.le_refl _) _).trans (hb.mono (by simp))⟩

set_option maxHeartbeats 1000000 in
theorem All_run_nil (g : Nat) (w : World) (hg : w.cell? ⟨g, 0, none⟩ = some (.map none)) (hgs : g < w.heap.size) :
    Calls Tryz.prog 102 #[.pointer (some ⟨g, 0, none⟩)] w fun e w' => e = .returned (.slice none 0 0) ∧ Below w.heap.size w w' := by
  refine (callsIn_wide (n := 6)).1 ?_
  have hseq : SeqGives Fence.wide 2 Tryz.prog 237 #[.pointer (some ⟨w.heap.size, 0, none⟩)] encZ (fun ss : List Int => ss = []) 0 (w.alloc (.cells #[.map none] 113)) :=
    AnyZI.keys_gives_nil (ρ := Tryz.keysA_ren) { Tryz.keysA with } Fence.wide _ trivial rfl w.heap.size _ (by simp) (by simp)
  have cK : ∀ mb W, CallsIn Fence.wide 5 Tryz.prog 173 #[.map mb] W fun e w' => e = .returned (.func (.func 237) #[] #[.pointer (some ⟨W.heap.size, 0, none⟩)]) ∧ w' = W.alloc (.cells #[.map mb] 113) := fun mb W => AnyZI.keys_in Tryz.keysA Fence.wide 5 trivial rfl mb W
  have cS := AnyZI.sorted_in Tryz.sortedA Fence.wide 5 trivial trivial trivial trivial rfl (by omega) (Tryz.sortsA _) (enters_of Tryz.func236 (by kernel_rfl) rfl) 237 #[.pointer (some ⟨w.heap.size, 0, none⟩)] trivial (enters_of Tryz.func237 (by kernel_rfl) rfl) _ 0 (Nat.zero_le _) (by omega) _ hseq
  change CallsIn _ _ Tryz.prog 172 _ _ _ at cS
  have hfK : Fence.wide.fn 173 := trivial
  have hfS : Fence.wide.fn 172 := trivial
  refine callsIn_of_wp Tryz.func102 rfl trivial ?_ rfl
  simp only [show Tryz.f102.ntmps = 11 by kernel_rfl, List.size_toArray, List.length_cons, List.length_nil, Nat.reduceAdd, Nat.reduceSub, Array.replicate_succ, Array.replicate_zero, List.push_toArray, List.append_toArray, List.nil_append, List.cons_append]
  gi_wp2_with (first
    | (gi_at_call 173; refine (cK _ _).mono ?_; rintro e w' ⟨rfl, rfl⟩)
    | (gi_at_call 172; refine cS.mono ?_; rintro e w' ⟨v, ss, rfl, rfl, hrow, hnil, hb⟩; obtain rfl : v = .slice none 0 0 := hnil.2 rfl))
  go_ret
  exact ⟨rfl, ((Below.refl _ w).alloc (Nat.le_refl _) _).trans (hb.mono (by simp))⟩

def BkOK (es : List (Int × At)) : Prop := (es.map (·.1)).Nodup ∧ (∀ q ∈ es, 1 ≤ q.1 ∧ q.1 ≤ 8) ∧ es.length ≤ 8
def bkAllF (es : List (Int × At)) : List Int := (es.map (·.1)).mergeSort fun x y => decide (x ≤ y)
open Go.Sy in
theorem all_fin {G : IM} {w w' : World} {g : Nat} {mo : Option Nat} {hw hc ho v : Value} {es : List (Int × At)} {l : List Int} (hok : AbsOK G w [wtA g mo hw hc ho, bkA mo es]) (him : ImOK G w) (hb : Below w.heap.size w w')
    (hrow : w'.ownsRow w.heap.size 3 1 v l.length (l.map encZ)) :
    ∃ r cr cs' G', (∃ v, r = AV.v v ∧ cs' = [wtA g mo hw hc ho, bkA mo es, vecA v 3 1 l.length (fun i => INTc (l.getD i default))]) ∧ Ending.returned v = .returned cr ∧ RepI G' r cr ∧ IM.le G G' ∧
      NewAt G G' w.heap.size (blocks [wtA g mo hw hc ho, bkA mo es]) ∧ ImOK G' w' ∧ AbsOK G' w' cs' ∧
      (∀ b ∈ blocks cs', w.heap.size ≤ b ∨ b ∈ blocks [wtA g mo hw hc ho, bkA mo es]) ∧
      w'.os = w.os ∧ w'.tape = w.tape ∧ w'.output = w.output ∧ w.heap.size ≤ w'.heap.size ∧ ∀ k, k < w.heap.size → k ∉ blocks [wtA g mo hw hc ho, bkA mo es] → G.still k → w'.heap[k]? = w.heap[k]? := by
  have hfree : ∀ b, w.heap.size ≤ b → G.free b := fun b hbb => by
    refine ⟨fun o => ?_, ?_⟩
    · cases h : G b o with
      | none => rfl
      | some x => exact absurd (Go.block_lt_of_cell (him.1 b o x h)) (by simp; omega)
    · cases h : G.m b with
      | none => rfl
      | some x => exact absurd (him.2 b x h).lt (by omega)
  have hvb : ∀ b ∈ v.ownBlock.toList, w.heap.size ≤ b ∧ b < w'.heap.size := fun b hbb => by
    rcases hrow.2 with ⟨rfl, _⟩ | ⟨g9, cap, cur, rfl, h1, h2, _⟩
    · simp [Value.ownBlock] at hbb
    · simp [Value.ownBlock] at hbb
      subst hbb
      exact ⟨h1, (Array.getElem?_eq_some_iff.1 h2).1⟩
  have hk := hok.keep (w' := w') (IM.le_refl G) (fun b hbb => hb.block b (hok.2.2 b hbb).1) hb.size (fun b _ _ h => h)
  have hbl : blocks [wtA g mo hw hc ho, bkA mo es, vecA v 3 1 l.length (fun i => INTc (l.getD i default))] = blocks [wtA g mo hw hc ho, bkA mo es] ++ v.ownBlock.toList := by simp [blocks, vecA]
  refine ⟨.v v, v, _, G, ⟨v, rfl, rfl⟩, rfl, by simp only [RepI], IM.le_refl G, ⟨fun _ _ _ h => .inl h, fun _ _ h => .inl h⟩, ?_, ?_, ?_, hb.os, hb.tape, hb.output, hb.size, fun k hk1 _ _ => hb.block k hk1⟩
  · refine ⟨fun b o u hu => ?_, fun b x hx => (him.2 b x hx).keep0 (hb.block b (him.2 b x hx).lt)⟩
    have h1 := him.1 b o u hu
    have h2 := Go.block_lt_of_cell h1
    simp only [World.cell?] at h1 ⊢
    rw [hb.block b h2]
    exact h1
  · refine ⟨?_, ?_, ?_⟩
    · intro A hA
      simp only [List.mem_cons, List.not_mem_nil, or_false] at hA
      rcases hA with rfl | rfl | rfl
      · exact hk.1 _ (by simp)
      · exact hk.1 _ (by simp)
      · refine ⟨l.map encZ, ⟨hrow.1, ?_⟩, ?_⟩
        · rcases hrow.2 with h | ⟨g9, cap, cur, h0, h1, h2⟩
          · exact .inl h
          · exact .inr ⟨g9, cap, cur, h0, Nat.zero_le _, h2⟩
        · intro i hi
          have e1 : ((l.map encZ).drop (i * 1)).take 1 = [Value.int .i64 l[i]] := by
            rw [Nat.mul_one, List.drop_eq_getElem_cons (by simpa using hi)]
            simp
          have e2 : l.getD i default = l[i] := by simp [List.getD_eq_getElem?_getD, List.getElem?_eq_getElem hi]
          show RepIL G (INTc (l.getD i default)) _
          rw [e1, e2]
          simp only [INTc, RepIL, RepI]
          exact ⟨_, [], rfl, rfl, rfl, rfl⟩
    · rw [hbl]
      refine List.nodup_append.2 ⟨hok.2.1, ?_, ?_⟩
      · cases v.ownBlock <;> simp
      · rintro x hx y hy rfl
        exact absurd (hok.2.2 x hx).1 (by have := (hvb x hy).1; omega)
    · intro b hbb
      rw [hbl, List.mem_append] at hbb
      rcases hbb with h | h
      · exact hk.2.2 b h
      · exact ⟨(hvb b h).2, hfree b (hvb b h).1⟩
  · intro b hbb
    rw [hbl, List.mem_append] at hbb
    rcases hbb with h | h
    · exact .inr h
    · exact .inl (hvb b h).1
open Go.Sy in
theorem All_A (g : Nat) (mo : Option Nat) (hw hc ho : Value) (es : List (Int × At)) (hes : BkOK es) : FnA Tryz.prog 102 [PT g 0] [wtA g mo hw hc ho, bkA mo es]
    (fun r cs' => ∃ v, r = .v v ∧ cs' = [wtA g mo hw hc ho, bkA mo es, vecA v 3 1 (bkAllF es).length (fun i => INTc ((bkAllF es).getD i default))]) := by
  refine ⟨⟨Tryz.f102, Tryz.func102, by kernel_rfl, by kernel_rfl⟩, fun G w cargs him hr hok => ?_⟩
  simp only [RepIT] at hr
  obtain ⟨z, zs, rfl, h1, rfl⟩ := hr
  simp only [RepI] at h1
  subst h1
  obtain ⟨c0, hc0, hc1, _⟩ := reads_box (b := g) (t := 117) (cells := [.v (.map mo), .v hw, .v hc, .v ho]) 0 G w (hok.1 _ (by simp)) 0 (.v (.map mo)) rfl
  simp only [RepI] at hc1
  subst hc1
  have hgs := Go.block_lt_of_cell hc0
  have hbk : (bkA mo es).ok G w := hok.1 _ (by simp)
  cases mo with
  | none =>
    have h0 : es = [] := by
      have : esT es = [] := hbk
      simpa [esT] using this
    subst h0
    refine (All_run_nil g w hc0 hgs).mono ?_
    rintro e w' ⟨rfl, hb⟩
    exact all_fin (l := bkAllF []) hok him hb ⟨by simp [bkAllF], .inl ⟨rfl, by simp [bkAllF]⟩⟩
  | some b =>
    obtain ⟨D0, hown, hp, hsz⟩ := own_of_map hbk hes.1 hes.2.1 hes.2.2
    refine (All_run g b es w D0 hc0 hgs hown (by rw [hsz]; exact hes.2.2)).mono ?_
    rintro e w' ⟨v, ss, rfl, hS, hrow, hb⟩
    have e1 : (ss.mergeSort fun x y => decide (x ≤ y)) = bkAllF es := mergeSort_of_perm_i (hS.trans hp)
    have e2 : ss.length = (bkAllF es).length := by rw [← e1, List.length_mergeSort]
    rw [e1, e2] at hrow
    exact all_fin (l := bkAllF es) hok him hb hrow
end Go.Proofs

/- The watch: a request begins. -/
set_option linter.unusedSimpArgs false
set_option linter.unusedVariables false
set_option maxRecDepth 100000
namespace Go.Proofs
open Go.Sy Go.Lib

def costN (n : Nat) : Int := 16 + min (n : Int) 1024
theorem CostB_c (n : Nat) : FnP Tryz.prog 104 [I64 (n : Nat)] (· = I64 (costN n)) := CostB_w n _ (by
  unfold CostB_F costN
  rw [show max (n : Int) 0 = n by omega, w64 (by omega) (by omega)])
def quantF (es : List (Int × At)) (k : Int) : Int := ((lookT k es).getD default).1.quantum
def quantaF (es : List (Int × At)) : List Int := (bkAllF es).map (quantF es)
def beginF (es : List (Int × At)) (ws : List Wt) (cs : List Int) (os : List Nat) (at_ : Int) (x : Nte) : Wt :=
  ⟨at_, x.owner, IntKind.i64.wrap (costF ws cs x.owner os 0 + costN x.body.length), 0, mostF (IntKind.i64.wrap (costF ws cs x.owner os 0 + costN x.body.length)) (quantF es x.owner) (quantaF es), false, false⟩

theorem begin_A (g : Nat) (mo : Option Nat) (hw hc ho : Value) (es : List (Int × At)) (ws : List Wt) (cs : List Int) (os : List Nat) (at_ : Int) (x : Nte) (hes : BkOK es) (hos : ∀ i, i ∈ os → i < ws.length) (hcs : cs.length = ws.length) (hol : os.length ≤ 1759218604441) (hwl : ws.length ≤ 1759218604441) :
    FnA Tryz.prog 59 [PT g 0, I64 at_, .agg (Nte.c x)] [wtA g mo hw hc ho, bkA mo es, wsA hw ws, csB hc cs, opV ho os] (fun r cs' => ∃ hw' hc' ho',
      cs' = [wtA g mo hw' hc' ho', bkA mo es, wsA hw' (ws ++ [beginF es ws cs os at_ x]), csB hc' (cs ++ [costN x.body.length]), opV ho' (os ++ [ws.length])]) := by
  refine FnA.intro Tryz.tabOK Tryz.wide_ Tryz.func59 rfl (by decide) rfl (fun X => ?_)
  have hal : (bkAllF es).length ≤ 8 := by unfold bkAllF; rw [List.length_mergeSort, List.length_map]; exact hes.2.2
  repeat (first | refine sc rfl ?_ | refine so rfl ?_ | refine sb rfl ?_)
  refine O_le _ (Le.freezebox 5 rfl rfl rfl) ?_
  repeat (first | refine sc rfl ?_ | refine so rfl ?_ | refine sb rfl ?_)
  refine O_callA [0, 0] (All_A g mo hw hc ho es hes) (by rfl) (by rfl) (by rfl) (by rfl) (by rfl) ?_
  rintro r cs' ⟨v, rfl, rfl⟩
  refine O_le _ (Le.frVec 2 (fun i => INTc ((bkAllF es).getD i default)) rfl (fun i hi => rfl)) ?_
  refine O_le _ (Le.slotA 0 14 rfl rfl) ?_
  repeat (first | refine sc rfl ?_ | refine so rfl ?_ | refine sb rfl ?_)
  refine C_loop (fun j : Nat => ⟨[(0, PT g 0), (1, I64 at_), (5, .cp (Nte.c x)), (6, .own 28), (14, SL 1 INTc (bkAllF es)), (15, I64 ((bkAllF es).length : Nat)), (16, I64 (j : Nat))], [VEC 28 3 1 INTc (((bkAllF es).take j).map (quantF es)), .abs (wtA g mo hw hc ho), .abs (bkA mo es), .abs (wsA hw ws), .abs (csB hc cs), .abs (opV ho os)]⟩)
    (fun j => j ≤ (bkAllF es).length) (fun j => (bkAllF es).length - j) 0 (Nat.zero_le _)
    ((Le.nilvec (α := Int) INTc 6 28 3 1 rfl rfl rfl).trans (Le.pick [0, 1, 1, 1, 1, 1] ⟨rfl, rfl, rfl, rfl, rfl, rfl, rfl, trivial⟩ rfl)) ?_
  intro j hj
  repeat (first | refine sc rfl ?_ | refine so rfl ?_ | refine sb rfl ?_)
  refine C_if rfl (fun m1 => ?_) (fun m1 => ?_) <;> simp only [decide_eq_true_eq, decide_eq_false_iff_not, Bool.not_eq_true', Bool.not_eq_false', beq_iff_eq, beq_eq_false_iff_ne, bne_iff_ne, ne_eq, bne_eq_false_iff_eq, Decidable.not_not] at m1
  · have hjl : j < (bkAllF es).length := by omega
    have hg : (bkAllF es).getD j default = (bkAllF es)[j] := by simp [List.getD_eq_getElem?_getD, List.getElem?_eq_getElem hjl]
    have htk : ((bkAllF es).take (j + 1)).map (quantF es) = ((bkAllF es).take j).map (quantF es) ++ [quantF es (bkAllF es)[j]] := by rw [← List.take_append_getElem hjl, List.map_append]; rfl
    have hLl : (((bkAllF es).take j).map (quantF es)).length ≤ 8 := by rw [List.length_map, List.length_take]; omega
    obtain ⟨k, hk⟩ : ∃ k, (bkAllF es)[j] = k := ⟨_, rfl⟩
    obtain ⟨L, hL⟩ : ∃ L, ((bkAllF es).take j).map (quantF es) = L := ⟨_, rfl⟩
    rw [hk] at hg htk
    rw [hL] at htk hLl ⊢
    repeat (first | refine sc rfl ?_ | refine so rfl ?_ | refine sb rfl ?_)
    refine ⟨by omega, ?_⟩
    simp only [Int.toNat_natCast, hg]
    repeat (first | refine sc rfl ?_ | refine so rfl ?_ | refine sb rfl ?_)
    refine O_callA [1, 1] (Conf_A g mo hw hc ho es k) (by rfl) (by rfl) (by rfl) (by rfl) (by rfl) ?_
    rintro r cs' ⟨rfl, rfl⟩
    obtain ⟨T, hT⟩ : ∃ T, ((lookT k es).getD default).1 = T := ⟨_, rfl⟩
    have hqk : quantF es k = T.quantum := by unfold quantF; rw [hT]
    rw [hqk] at htk
    rw [hT]
    repeat (first | refine sc rfl ?_ | refine so rfl ?_ | refine sb rfl ?_)
    refine O_Xd (X_field (cells := Cf.c T) (av := I64 T.quantum) Tryz.underlying120 rfl rfl rfl rfl rfl rfl rfl) ?_
    repeat (first | refine sc rfl ?_ | refine so rfl ?_ | refine sb rfl ?_)
    refine O_push INTc L T.quantum [(0, PT g 0), (1, I64 at_), (5, .cp (Nte.c x)), (14, SL 1 INTc (bkAllF es)), (15, I64 ((bkAllF es).length : Nat)), (16, I64 (j : Nat))] rfl rfl rfl rfl rfl rfl rfl rfl rfl rfl ⟨rfl, rfl, rfl, rfl, rfl, rfl, trivial⟩ rfl rfl (by omega) (by simp only [maxLen]; omega) ?_
    repeat (first | refine sc rfl ?_ | refine so rfl ?_ | refine sb rfl ?_)
    rw [w64 (x := (j : Int) + 1) (by omega) (by omega)]
    refine ⟨j + 1, hjl, by omega, ?_⟩
    rw [htk]
    first
      | exact Le.pick [0, 0, 0, 0, 0, 0] ⟨rfl, rfl, rfl, rfl, rfl, rfl, rfl, trivial⟩ rfl
      | exact Le.pick [0, 1, 1, 1, 1, 1] ⟨rfl, rfl, rfl, rfl, rfl, rfl, rfl, trivial⟩ rfl
  · obtain rfl : j = (bkAllF es).length := by omega
    rw [List.take_length]
    have hqa : (bkAllF es).map (quantF es) = quantaF es := rfl
    rw [hqa]
    have hql : (quantaF es).length ≤ 8 := by unfold quantaF; rw [List.length_map]; exact hal
    refine C_le _ (Le.freezeL 6 rfl rfl) ?_
    repeat (first | refine sc rfl ?_ | refine so rfl ?_ | refine sb rfl ?_)
    refine O_call (CostB_c x.body.length) (by rfl) (by rfl) (by rfl) (by rfl) (fun r hr => ?_)
    subst hr
    repeat (first | refine sc rfl ?_ | refine so rfl ?_ | refine sb rfl ?_)
    refine O_callA [0, 1, 1, 1] (cost_A g mo hw hc ho ws cs os x.owner hos hcs (by simp only [maxLen]; omega) (by simp only [maxLen]; omega)) (by rfl) (by rfl) (by rfl) (by rfl) (by rfl) ?_
    rintro r cs' ⟨rfl, rfl⟩
    unfold beginF
    obtain ⟨K, hK⟩ : ∃ K, costF ws cs x.owner os 0 = K := ⟨_, rfl⟩
    obtain ⟨c1, hc1⟩ : ∃ c1, costN x.body.length = c1 := ⟨_, rfl⟩
    rw [hK, hc1]
    repeat (first | refine sc rfl ?_ | refine so rfl ?_ | refine sb rfl ?_)
    obtain ⟨tot, htot⟩ : ∃ tot, IntKind.i64.wrap (K + c1) = tot := ⟨_, rfl⟩
    rw [htot]
    refine C_le ⟨[(0, PT g 0), (1, I64 at_), (5, .cp (Nte.c x)), (6, SL 1 INTc (quantaF es)), (9, I64 c1), (10, I64 tot)], [.abs (wtA g mo hw hc ho), .abs (wsA hw ws), .abs (csB hc cs), .abs (opV ho os), .abs (bkA mo es)]⟩ (Le.pick [0, 0, 0, 0, 0] ⟨rfl, rfl, rfl, rfl, rfl, rfl, trivial⟩ rfl) ?_
    refine C_joinE (fun ho' : Value => ⟨[(0, PT g 0), (1, I64 at_), (5, .cp (Nte.c x)), (6, SL 1 INTc (quantaF es)), (9, I64 c1), (10, I64 tot)], [.abs (wtA g mo hw hc ho'), .abs (wsA hw ws), .abs (csB hc cs), .abs (opV ho' (os ++ [ws.length])), .abs (bkA mo es)]⟩) (fun _ => True) ?_ (fun ho' s _ hs => C_le _ hs ?_)
    · refine C_drawV 20 11 0 40 rfl (by kernel_rfl) (by kernel_rfl) (by kernel_rfl) (by kernel_rfl) ?_
      repeat (first | refine sd rfl ?_ | refine sdb rfl ?_ | refine sds rfl ?_)
      refine D_X (.v ho) (X_loadP 0 (reads_box 3) rfl rfl rfl rfl rfl rfl) ?_
      repeat (first | refine sd rfl ?_ | refine sdb rfl ?_ | refine sds rfl ?_)
      refine D_X (.v hw) (X_loadP 0 (reads_box 1) rfl rfl rfl rfl rfl rfl) ?_
      repeat (first | refine sd rfl ?_ | refine sdb rfl ?_ | refine sds rfl ?_)
      refine D_X (I64 (ws.length : Nat)) (X_lenV 1 rfl rfl rfl rfl rfl) ?_
      repeat (first | refine sd rfl ?_ | refine sdb rfl ?_ | refine sds rfl ?_)
      refine ⟨?_, ?_⟩
      all_goals
        refine O_appendV 3 (m2 := 1) (m3 := (os ++ [ws.length]).length) (row3 := fun q => NATc ((os ++ [ws.length]).getD q default)) rfl rfl rfl rfl rfl rfl (fun q hq => ?_) rfl (by show (os.length + 1) * 8 ≤ 140737488355328; omega) (by show os.length + 1 ≤ maxLen; simp only [maxLen]; omega) (by simp) (fun q hq => ?_) (fun v' hv' => ?_)
        · have h0 : q = 0 := by have : q < 1 := hq; omega
          subst h0; rfl
        · rw [getD_snoc os ws.length q hq]
          unfold appRow
          by_cases hqk : q < os.length
          · rw [if_pos hqk, if_pos hqk]
          · rw [if_neg hqk, if_neg hqk]
            have : q = os.length := by simp at hq; omega
            subst this
            rw [Nat.sub_self]; rfl
        · obtain ⟨g9, cc9, rfl⟩ := hv'.resolve_left (fun h => by simp at h)
          repeat (first | refine sc rfl ?_ | refine so rfl ?_ | refine sb rfl ?_)
          refine O_Xn (X_storeP 1 (writes_box (by show 3 < 4; decide)) rfl rfl rfl rfl rfl rfl rfl) ?_
          repeat (first | refine sc rfl ?_ | refine so rfl ?_ | refine sb rfl ?_)
          exact ⟨HD g9 (os ++ [ws.length]).length cc9, trivial, Le.pick [0, 1, 1, 0, 0] ⟨rfl, rfl, rfl, rfl, rfl, rfl, trivial⟩ rfl⟩
    repeat (first | refine sc rfl ?_ | refine so rfl ?_ | refine sb rfl ?_)
    first
      | refine O_loadP 0 (reads_box 2) rfl rfl rfl rfl rfl rfl ?_
      | refine O_loadP 1 (reads_box 2) rfl rfl rfl rfl rfl rfl ?_
      | refine O_loadP 2 (reads_box 2) rfl rfl rfl rfl rfl rfl ?_
      | refine O_loadP 3 (reads_box 2) rfl rfl rfl rfl rfl rfl ?_
      | refine O_loadP 4 (reads_box 2) rfl rfl rfl rfl rfl rfl ?_
    repeat (first | refine sc rfl ?_ | refine so rfl ?_ | refine sb rfl ?_)
    refine O_le _ (Le.freeze 60 rfl rfl) ?_
    refine O_appendV 2 (m2 := 1) (m3 := (cs ++ [c1]).length) (row3 := fun q => INTc ((cs ++ [c1]).getD q default)) rfl rfl rfl rfl rfl rfl (fun q hq => ?_) rfl (by show (cs.length + 1) * 8 ≤ 140737488355328; omega) (by show cs.length + 1 ≤ maxLen; simp only [maxLen]; omega) (by simp) (fun q hq => ?_) (fun v' hv' => ?_)
    · have h0 : q = 0 := by have : q < 1 := hq; omega
      subst h0; rfl
    · rw [getD_snoc cs c1 q hq]
      unfold appRow
      by_cases hqk : q < cs.length
      · rw [if_pos hqk, if_pos hqk]
      · rw [if_neg hqk, if_neg hqk]
        have : q = cs.length := by simp at hq; omega
        subst this
        rw [Nat.sub_self]; rfl
    obtain ⟨g8, cc8, rfl⟩ := hv'.resolve_left (fun h => by simp at h)
    repeat (first | refine sc rfl ?_ | refine so rfl ?_ | refine sb rfl ?_)
    refine O_Xn (X_storeP 1 (writes_box (by show 2 < 4; decide)) rfl rfl rfl rfl rfl rfl rfl) ?_
    repeat (first | refine sc rfl ?_ | refine so rfl ?_ | refine sb rfl ?_)
    obtain ⟨hc', hhc⟩ : ∃ hc', HD g8 (cs ++ [c1]).length cc8 = hc' := ⟨_, rfl⟩
    rw [hhc]
    refine C_le ⟨[(0, PT g 0), (1, I64 at_), (5, .cp (Nte.c x)), (6, SL 1 INTc (quantaF es)), (9, I64 c1), (10, I64 tot)], [.abs (wtA g mo hw hc' ho'), .abs (bkA mo es), .abs (wsA hw ws), .abs (csB hc' (cs ++ [c1])), .abs (opV ho' (os ++ [ws.length]))]⟩ (Le.pick [0, 3, 1, 0, 0] ⟨rfl, rfl, rfl, rfl, rfl, rfl, trivial⟩ rfl) ?_
    obtain ⟨T, hT⟩ : ∃ T, ((lookT x.owner es).getD default).1 = T := ⟨_, rfl⟩
    have hqk : quantF es x.owner = T.quantum := by unfold quantF; rw [hT]
    rw [hqk]
    have hcf : FnA Tryz.prog 103 [PT g 0, I64 x.owner] [wtA g mo hw hc' ho', bkA mo es] (fun r cs' => r = .agg (Cf.c T) ∧ cs' = [wtA g mo hw hc' ho', bkA mo es]) := by rw [← hT]; exact Conf_A g mo hw hc' ho' es x.owner
    obtain ⟨mst, hmst⟩ : ∃ m, mostF tot T.quantum (quantaF es) = m := ⟨_, rfl⟩
    have hmc := Most_c tot T.quantum (quantaF es) (by omega)
    rw [hmst] at hmc ⊢
    refine C_drawV 20 21 0 64 rfl (by kernel_rfl) (by kernel_rfl) (by kernel_rfl) (by kernel_rfl) ?_
    repeat (first | refine sd rfl ?_ | refine sdb rfl ?_ | refine sds rfl ?_)
    refine D_X (.v hw) (X_loadP 0 (reads_box 1) rfl rfl rfl rfl rfl rfl) ?_
    repeat (first | refine sd rfl ?_ | refine sdb rfl ?_ | refine sds rfl ?_)
    refine D_callA [0, 0] hcf rfl rfl rfl rfl rfl ?_
    repeat (first | refine sd rfl ?_ | refine sdb rfl ?_ | refine sds rfl ?_)
    refine D_X (I64 T.quantum) (X_field (cells := Cf.c T) (av := I64 T.quantum) Tryz.underlying120 rfl rfl rfl rfl rfl rfl rfl) ?_
    repeat (first | refine sd rfl ?_ | refine sdb rfl ?_ | refine sds rfl ?_)
    refine D_call hmc rfl rfl rfl rfl ?_
    repeat (first | refine sd rfl ?_ | refine sdb rfl ?_ | refine sds rfl ?_)
    refine ⟨?_, ?_⟩
    all_goals
      refine O_appendV 2 (m2 := 1) (m3 := (ws ++ [(⟨at_, x.owner, tot, 0, mst, false, false⟩ : Wt)]).length) (row3 := fun q => Wt.c ((ws ++ [(⟨at_, x.owner, tot, 0, mst, false, false⟩ : Wt)]).getD q default)) rfl rfl rfl rfl rfl rfl (fun q hq => ?_) rfl (by show (ws.length + 1) * 48 ≤ 140737488355328; omega) (by show ws.length + 1 ≤ maxLen; simp only [maxLen]; omega) (by simp) (fun q hq => ?_) (fun v' hv' => ?_)
      · have h0 : q = 0 := by have : q < 1 := hq; omega
        subst h0; rfl
      · rw [getD_snoc ws _ q hq]
        unfold appRow
        by_cases hqk : q < ws.length
        · rw [if_pos hqk, if_pos hqk]
        · rw [if_neg hqk, if_neg hqk]
          have : q = ws.length := by simp at hq; omega
          subst this
          rw [Nat.sub_self]; rfl
      · obtain ⟨g9, cc9, rfl⟩ := hv'.resolve_left (fun h => by simp at h)
        repeat (first | refine sc rfl ?_ | refine so rfl ?_ | refine sb rfl ?_)
        refine O_Xn (X_storeP 1 (writes_box (by show 1 < 4; decide)) rfl rfl rfl rfl rfl rfl rfl) ?_
        repeat (first | refine sc rfl ?_ | refine so rfl ?_ | refine sb rfl ?_)
        exact ⟨_, [_, _, _, _, _], _, rfl, pickA_perm (is := [0, 1, 0, 0, 0]) (As := [_, _, _, _, _]) rfl, rfl, HD g9 (ws ++ [(⟨at_, x.owner, tot, 0, mst, false, false⟩ : Wt)]).length cc9, hc', ho', rfl⟩
end Go.Proofs

/- The symbolic walk, part 67: a field of a struct value that is a struct. -/
set_option linter.unusedSimpArgs false
set_option linter.unusedVariables false
namespace Go.Sy
open Go.RowKit

section
variable {P : Program} {T : Tab} {X : Ctx P T} {n : Nat} {e : Env} {st : St} {a : Act} {w : World} {ops : Array Oper} {K : St → Prop}

theorem X_fieldS {p : Pl} {t : TypeId} {fields : Array Field} {x : Operand} {f : Nat} {fd : Field} {cells new : List AV} {ti : TI} {d : Option Nat} {ty : TypeId} {pos : String} {aft : Array Edge} {gd : Option (Nat × Bool)} {j : Nat} {Si : List (Nat × AV)} {c : List Ch}
    (hP : P.underlying t = some (.struct fields)) (hf : fields[f]? = some fd) (hT : T fd.type = some ti) (hag : ti.agg = true) (hg : guardA ops ⟨Si, c⟩ ⟨d, .field t x f, ty, pos, aft, gd⟩ = some true) (hx : opd Si x = some (.agg cells)) (hle : fd.offset + ti.size ≤ cells.length) (hnew : new = (cells.drop fd.offset).take ti.size) (hd : dstOK n d = true) :
    StepX X n ops p Si c c j ⟨d, .field t x f, ty, pos, aft, gd⟩ (.agg new) :=
  StepX.val hg hd (fun e a w S r r' => by
    subst hnew
    have h1 := opd_sound r' hx
    simp only [Rep] at h1
    obtain ⟨ys, h1, h2⟩ := h1
    have h3 := (h2.drop fd.offset).take ti.size
    have hl := RepL.len h2
    refine ⟨.agg (ys.extract fd.offset (fd.offset + ti.size)), w, e, ?_, r, ?_⟩
    · simp only [execOp, h1, Instr.field, Sem.run_bind, run_underlying hP, Result.andThen_ok, hf, asAgg, part, Sem.run_pure, X.ok.isAgg hT, hag, if_true, X.ok.size hT]
    · simp only [Rep]
      exact ⟨_, rfl, by simpa [List.take_drop, Nat.add_sub_cancel_left] using h3⟩)
end
end Go.Sy

/- The document's bound: a request begins. -/
set_option linter.unusedSimpArgs false
set_option linter.unusedVariables false
set_option maxRecDepth 100000
namespace Go.Proofs
open Go.Sy Go.Lib

theorem CostR_c (n : Nat) (hn : n ≤ 9223372036854775807) : FnP Tryz.prog 109 [I64 (n : Nat)] (· = I64 (costN n)) := CostR_w n _ (by
  unfold CostR_F costN
  rw [decide_eq_false (show ¬(n : Int) < 0 by omega)]
  by_cases h : (1024 : Int) < n
  · rw [decide_eq_true h]; simp only [cond_true, cond_false]; congr 1; omega
  · rw [decide_eq_false h]; simp only [cond_false]; rw [w64 (by omega) (by omega)]; congr 1; omega)
def rAllF (k : Bk) : List Int := ((List.range k.l.length).filter fun i => (k.l.getD i default).lives).map fun i => ((i : Nat) : Int)
theorem rAll_run (k : Bk) (hk : k.l.length = 9) : ∀ (n i : Nat) (acc : List Int), i + n = 9 → acc.length ≤ i → Iter (AllR_L1 k) ((i : Int), acc) = some (acc ++ ((List.range' i n).filter fun i => (k.l.getD i default).lives).map fun i => ((i : Nat) : Int))
  | 0, i, acc, h, ha => by
    have hs : AllR_L1 k ((i : Int), acc) = some (.inr acc) := by
      unfold AllR_L1
      rw [decide_eq_false (by show ¬(i : Int) < (k.l.length : Int); omega)]
      rfl
    rw [Iter_end hs]; simp
  | n + 1, i, acc, h, ha => by
    have hs : AllR_L1 k ((i : Int), acc) = some (.inl (((i + 1 : Nat) : Int), if (k.l.getD i default).lives = true then acc ++ [(i : Int)] else acc)) := by
      unfold AllR_L1
      rw [decide_eq_true (by show (i : Int) < (k.l.length : Int); omega)]
      simp only [cond_true, Int.toNat_natCast]
      rw [chk_pos (by omega)]
      cases hl : (k.l.getD i default).lives with
      | true =>
        simp only [cond_true, if_true]
        rw [chk_pos (by omega), w64 (by omega) (by omega)]
        rfl
      | false =>
        simp only [cond_false]
        rw [w64 (by omega) (by omega)]
        rfl
    rw [Iter_next hs, rAll_run k hk n (i + 1) _ (by omega) (by split; (· simp only [List.length_append, List.length_singleton]; omega); (· omega)), List.range'_succ]
    cases hl : (k.l.getD i default).lives with
    | true =>
      rw [List.filter_cons_of_pos (by exact hl)]
      simp only [if_true, List.map_cons, List.append_assoc, List.cons_append, List.nil_append]
    | false =>
      rw [List.filter_cons_of_neg (by rw [hl]; decide)]
      simp only [Bool.false_eq_true, if_false]
theorem AllR_c (k : Bk) (hk : k.l.length = 9) : FnP Tryz.prog 110 [.agg (Bk.c k)] (· = SL 1 INTc (rAllF k)) := AllR_w k _ (by
  unfold AllR_F
  have := rAll_run k hk 9 0 [] rfl (Nat.le_refl _)
  rw [show (((0 : Nat) : Int), ([] : List Int)) = ((0 : Int), ([] : List Int)) from rfl] at this
  rw [this]
  simp only [Option.bind_some, List.nil_append]
  unfold rAllF
  rw [hk, List.range_eq_range'])
def rCostStep (w : Int) (a : Int) (o : Opn) : Int := if o.fopen = true ∧ o.w.owner = w then IntKind.i64.wrap (a + o.cost) else a
def rQuantaF (k : Bk) : List Int := (rAllF k).map fun w => (rOfF k w).conf.quantum
def rBeginF (os : List Opn) (k : Bk) (x : Rw) : Opn :=
  ⟨⟨x.fat, x.note.owner, os.foldl (rCostStep x.note.owner) (costN x.note.body.length), 0, mostF (os.foldl (rCostStep x.note.owner) (costN x.note.body.length)) (rOfF k x.note.owner).conf.quantum (rQuantaF k), false, false⟩, costN x.note.body.length, true⟩
theorem rBegin_A (h : Value) (os : List Opn) (k : Bk) (hk : k.l.length = 9) (x : Rw) (hx : x.note.body.length ≤ 9223372036854775807) (hol : os.length ≤ 17592186044416) :
    FnA Tryz.prog 66 [.v h, .agg (Bk.c k), .agg (Rw.c x)] [opnA h os] (fun r cs' => r = .agg (Opn.c (rBeginF os k x)) ∧ cs' = [opnA h os]) := by
  refine FnA.intro Tryz.tabOK Tryz.wide_ Tryz.func66 rfl (by decide) rfl (fun X => ?_)
  repeat (first | refine sc rfl ?_ | refine so rfl ?_ | refine sb rfl ?_)
  refine O_call (CostR_c x.note.body.length hx) (by rfl) (by rfl) (by rfl) (by rfl) (fun r hr => ?_)
  subst hr
  unfold rBeginF
  obtain ⟨c1, hc1⟩ : ∃ c1, costN x.note.body.length = c1 := ⟨_, rfl⟩
  rw [hc1]
  repeat (first | refine sc rfl ?_ | refine so rfl ?_ | refine sb rfl ?_)
  refine C_le _ (Le.freezebox 5 rfl rfl rfl) ?_
  refine C_le _ (Le.freezebox 4 rfl rfl rfl) ?_
  refine C_loop (fun j : Nat => ⟨[(0, .v h), (4, .cp (Bk.c k)), (5, .cp (Rw.c x)), (6, .bp 6 0), (7, I64 c1), (8, I64 ((os.take j).foldl (rCostStep x.note.owner) c1)), (9, I64 (j : Nat))], [.box 6 140 (Opn.c default), .abs (opnA h os)]⟩)
    (fun j => j ≤ os.length) (fun j => os.length - j) 0 (Nat.zero_le _) (Le.pick [0, 0] ⟨rfl, rfl, rfl, rfl, rfl, rfl, rfl, trivial⟩ rfl) ?_
  intro j hj
  repeat (first | refine sc rfl ?_ | refine so rfl ?_ | refine sb rfl ?_)
  refine O_Xd (X_lenV 1 rfl rfl rfl rfl rfl) ?_
  repeat (first | refine sc rfl ?_ | refine so rfl ?_ | refine sb rfl ?_)
  refine C_if rfl (fun m1 => ?_) (fun m1 => ?_) <;> simp only [decide_eq_true_eq, decide_eq_false_iff_not, Bool.not_eq_true', Bool.not_eq_false', beq_iff_eq, beq_eq_false_iff_ne, bne_iff_ne, ne_eq, bne_eq_false_iff_eq, Decidable.not_not] at m1
  · have hjl : j < os.length := by omega
    have hg : os.getD j default = os[j] := by simp [List.getD_eq_getElem?_getD, List.getElem?_eq_getElem hjl]
    have htk : (os.take (j + 1)).foldl (rCostStep x.note.owner) c1 = rCostStep x.note.owner ((os.take j).foldl (rCostStep x.note.owner) c1) os[j] := by
      rw [← List.take_append_getElem hjl, List.foldl_append]; rfl
    obtain ⟨o, ho⟩ : ∃ o, os[j] = o := ⟨_, rfl⟩
    obtain ⟨a, ha⟩ : ∃ a, (os.take j).foldl (rCostStep x.note.owner) c1 = a := ⟨_, rfl⟩
    rw [ho] at hg htk
    rw [ha] at htk ⊢
    rw [show rCostStep x.note.owner a o = if o.fopen = true ∧ o.w.owner = x.note.owner then IntKind.i64.wrap (a + o.cost) else a from rfl] at htk
    refine C_know 1 (∃ g cc, h = HD g os.length cc) rfl (fun G w hok _ => vec_HD hok (by omega)) ?_
    rintro ⟨gh, ch, rfl⟩
    repeat (first | refine sc rfl ?_ | refine so rfl ?_ | refine sb rfl ?_)
    refine C_drawD rfl (by kernel_rfl) ?_
    repeat (first | refine sd rfl ?_ | refine sdb rfl ?_ | refine sds rfl ?_)
    refine ⟨by omega, ?_⟩
    rw [Int.toNat_natCast]
    repeat (first | refine sd rfl ?_ | refine sdb rfl ?_ | refine sds rfl ?_)
    refine D_X (B (os.getD j default).fopen) (X_loadP 1 (A := opnA (HD gh os.length ch) os) (cells := (Opn.c (os.getD j default)).drop 8) (reads_vec (q := j) (j := 8) hjl (by omega)) rfl rfl rfl rfl rfl rfl) ?_
    rw [hg]
    repeat (first | refine sd rfl ?_ | refine sdb rfl ?_ | refine sds rfl ?_)
    refine D_case 5 rfl (fun c2 => ?_) (fun c2 => ?_)
    · have c2 : o.fopen = true := c2
      repeat (first | refine sd rfl ?_ | refine sdb rfl ?_ | refine sds rfl ?_)
      refine ⟨by omega, ?_⟩
      rw [Int.toNat_natCast]
      repeat (first | refine sd rfl ?_ | refine sdb rfl ?_ | refine sds rfl ?_)
      refine D_X (I64 (os.getD j default).w.owner) (X_loadP 1 (A := opnA (HD gh os.length ch) os) (cells := (Opn.c (os.getD j default)).drop 1) (reads_vec (q := j) (j := 1) hjl (by omega)) rfl rfl rfl rfl rfl rfl) ?_
      rw [hg]
      repeat (first | refine sd rfl ?_ | refine sdb rfl ?_ | refine sds rfl ?_)
      repeat (first | refine sc rfl ?_ | refine so rfl ?_ | refine sb rfl ?_)
      refine C_if rfl (fun c3 => ?_) (fun c3 => ?_) <;> simp only [decide_eq_true_eq, decide_eq_false_iff_not, Bool.not_eq_true', Bool.not_eq_false', beq_iff_eq, beq_eq_false_iff_ne, bne_iff_ne, ne_eq, bne_eq_false_iff_eq, Decidable.not_not] at c3
      · rw [if_pos ⟨c2, c3⟩] at htk
        repeat (first | refine sc rfl ?_ | refine so rfl ?_ | refine sb rfl ?_)
        refine ⟨by omega, ?_⟩
        rw [Int.toNat_natCast]
        repeat (first | refine sc rfl ?_ | refine so rfl ?_ | refine sb rfl ?_)
        refine O_loadP 1 (A := opnA (HD gh os.length ch) os) (cells := (Opn.c (os.getD j default)).drop 7) (reads_vec (q := j) (j := 7) hjl (by omega)) rfl rfl rfl rfl rfl rfl ?_
        rw [hg]
        repeat (first | refine sc rfl ?_ | refine so rfl ?_ | refine sb rfl ?_)
        rw [w64 (x := (j : Int) + 1) (by omega) (by omega)]
        refine ⟨j + 1, by omega, by omega, ?_⟩
        rw [htk]
        exact Le.pick [0, 0] ⟨rfl, rfl, rfl, rfl, rfl, rfl, rfl, trivial⟩ rfl
      · rw [if_neg (fun h => c3 h.2)] at htk
        repeat (first | refine sc rfl ?_ | refine so rfl ?_ | refine sb rfl ?_)
        rw [w64 (x := (j : Int) + 1) (by omega) (by omega)]
        refine ⟨j + 1, by omega, by omega, ?_⟩
        rw [htk]
        exact Le.pick [0, 0] ⟨rfl, rfl, rfl, rfl, rfl, rfl, rfl, trivial⟩ rfl
    · have c2 : o.fopen = false := c2
      rw [if_neg (fun h => by rw [c2] at h; cases h.1)] at htk
      repeat (first | refine sd rfl ?_ | refine sdb rfl ?_ | refine sds rfl ?_)
      repeat (first | refine sc rfl ?_ | refine so rfl ?_ | refine sb rfl ?_)
      refine C_false rfl rfl ?_
      repeat (first | refine sc rfl ?_ | refine so rfl ?_ | refine sb rfl ?_)
      rw [w64 (x := (j : Int) + 1) (by omega) (by omega)]
      refine ⟨j + 1, by omega, by omega, ?_⟩
      rw [htk]
      exact Le.pick [0, 0] ⟨rfl, rfl, rfl, rfl, rfl, rfl, rfl, trivial⟩ rfl
  · obtain rfl : j = os.length := by omega
    rw [List.take_length]
    obtain ⟨tot, htot⟩ : ∃ tot, os.foldl (rCostStep x.note.owner) c1 = tot := ⟨_, rfl⟩
    rw [htot]
    have hal : (rAllF k).length ≤ 9 := by
      unfold rAllF
      rw [List.length_map]
      refine Nat.le_trans (List.length_filter_le _ _) ?_
      rw [List.length_range]; omega
    repeat (first | refine sc rfl ?_ | refine so rfl ?_ | refine sb rfl ?_)
    refine O_call (AllR_c k hk) (by rfl) (by rfl) (by rfl) (by rfl) (fun r hr => ?_)
    subst hr
    repeat (first | refine sc rfl ?_ | refine so rfl ?_ | refine sb rfl ?_)
    refine C_le _ (Le.addVec 3 1 (fun i => INTc (([] : List Int).getD i default))) ?_
    refine C_loop (fun q : Nat × Value => ⟨[(4, .cp (Bk.c k)), (5, .cp (Rw.c x)), (6, .bp 6 0), (7, I64 c1), (8, I64 tot), (10, .v q.2), (11, SL 1 INTc (rAllF k)), (12, I64 (q.1 : Nat))], [.abs (csB q.2 (((rAllF k).take q.1).map fun w => (rOfF k w).conf.quantum)), .box 6 140 (Opn.c default), .abs (opnA h os)]⟩)
      (fun q => q.1 ≤ (rAllF k).length ∧ isSl q.2) (fun q => (rAllF k).length - q.1) (0, .slice none 0 0) ⟨Nat.zero_le _, _, _, _, rfl⟩ (Le.pick [0, 0, 0] ⟨rfl, rfl, rfl, rfl, rfl, rfl, rfl, rfl, trivial⟩ rfl) ?_
    rintro ⟨j, h2⟩ ⟨hj2, hisl⟩
    simp only [] at hj2 hisl
    repeat (first | refine sc rfl ?_ | refine so rfl ?_ | refine sb rfl ?_)
    refine C_if rfl (fun m2 => ?_) (fun m2 => ?_) <;> simp only [decide_eq_true_eq, decide_eq_false_iff_not, Bool.not_eq_true', Bool.not_eq_false', beq_iff_eq, beq_eq_false_iff_ne, bne_iff_ne, ne_eq, bne_eq_false_iff_eq, Decidable.not_not] at m2
    · have hjl : j < (rAllF k).length := by omega
      have hg : (rAllF k).getD j default = (rAllF k)[j] := by simp [List.getD_eq_getElem?_getD, List.getElem?_eq_getElem hjl]
      have htk : ((rAllF k).take (j + 1)).map (fun w => (rOfF k w).conf.quantum) = ((rAllF k).take j).map (fun w => (rOfF k w).conf.quantum) ++ [(rOfF k (rAllF k)[j]).conf.quantum] := by rw [← List.take_append_getElem hjl, List.map_append]; rfl
      have hLl : (((rAllF k).take j).map (fun w => (rOfF k w).conf.quantum)).length ≤ 9 := by rw [List.length_map, List.length_take]; omega
      obtain ⟨w, hw⟩ : ∃ w, (rAllF k)[j] = w := ⟨_, rfl⟩
      obtain ⟨L, hL⟩ : ∃ L, ((rAllF k).take j).map (fun w => (rOfF k w).conf.quantum) = L := ⟨_, rfl⟩
      rw [hw] at hg htk
      rw [hL] at htk hLl ⊢
      obtain ⟨T, hT⟩ : ∃ T, rOfF k w = T := ⟨_, rfl⟩
      have hof := rOf_c k hk w
      rw [hT] at htk hof
      repeat (first | refine sc rfl ?_ | refine so rfl ?_ | refine sb rfl ?_)
      refine C_drawU 20 10 rfl (by kernel_rfl) (by kernel_rfl) (by kernel_rfl) ?_
      repeat (first | refine sd rfl ?_ | refine sdb rfl ?_ | refine sds rfl ?_)
      refine ⟨by omega, ?_⟩
      simp only [Int.toNat_natCast, hg]
      repeat (first | refine sd rfl ?_ | refine sdb rfl ?_ | refine sds rfl ?_)
      refine D_call hof rfl rfl rfl rfl ?_
      repeat (first | refine sd rfl ?_ | refine sdb rfl ?_ | refine sds rfl ?_)
      refine D_X (.agg (Cf.c T.conf)) (X_fieldS (cells := Tn.c T) Tryz.underlying144 rfl rfl rfl rfl rfl (show (11 : Nat) ≤ 11 from Nat.le_refl _) rfl rfl) ?_
      repeat (first | refine sd rfl ?_ | refine sdb rfl ?_ | refine sds rfl ?_)
      refine D_X (I64 T.conf.quantum) (X_field (cells := Cf.c T.conf) (av := I64 T.conf.quantum) Tryz.underlying120 rfl rfl rfl rfl rfl rfl rfl) ?_
      repeat (first | refine sd rfl ?_ | refine sdb rfl ?_ | refine sds rfl ?_)
      refine O_appendV 0 (m2 := 1) (m3 := (L ++ [T.conf.quantum]).length) (row3 := fun q => INTc ((L ++ [T.conf.quantum]).getD q default)) rfl rfl rfl rfl rfl rfl (fun q hq => ?_) rfl (by show (L.length + 1) * 8 ≤ 140737488355328; omega) (by show L.length + 1 ≤ maxLen; simp only [maxLen]; omega) (by simp) (fun q hq => ?_) (fun v' hv' => ?_)
      · have h0 : q = 0 := by have : q < 1 := hq; omega
        subst h0; rfl
      · rw [getD_snoc L T.conf.quantum q hq]
        unfold appRow
        by_cases hqk : q < L.length
        · rw [if_pos hqk, if_pos hqk]
        · rw [if_neg hqk, if_neg hqk]
          have : q = L.length := by simp at hq; omega
          subst this
          rw [Nat.sub_self]; rfl
      obtain ⟨g9, cc9, rfl⟩ := hv'.resolve_left (fun h => by simp at h)
      repeat (first | refine sc rfl ?_ | refine so rfl ?_ | refine sb rfl ?_)
      rw [w64 (x := (j : Int) + 1) (by omega) (by omega)]
      refine ⟨(j + 1, HD g9 (L ++ [T.conf.quantum]).length cc9), ⟨by simp only []; omega, _, _, _, rfl⟩, by simp only []; omega, ?_⟩
      rw [htk]
      exact Le.pick [0, 0, 0] ⟨rfl, rfl, rfl, rfl, rfl, rfl, rfl, rfl, trivial⟩ rfl
    · obtain rfl : j = (rAllF k).length := by omega
      rw [List.take_length]
      have hqa : (rAllF k).map (fun w => (rOfF k w).conf.quantum) = rQuantaF k := rfl
      rw [hqa]
      have hql : (rQuantaF k).length ≤ 9 := by unfold rQuantaF; rw [List.length_map]; exact hal
      refine C_le _ (Le.frVec 0 (fun i => INTc ((rQuantaF k).getD i default)) rfl (fun i hi => rfl)) ?_
      refine C_le _ (Le.slotA 0 10 rfl rfl) ?_
      obtain ⟨T, hT⟩ : ∃ T, rOfF k x.note.owner = T := ⟨_, rfl⟩
      have hof := rOf_c k hk x.note.owner
      rw [hT] at hof ⊢
      repeat (first | refine sc rfl ?_ | refine so rfl ?_ | refine sb rfl ?_)
      refine O_call hof (by rfl) (by rfl) (by rfl) (by rfl) (fun r hr => ?_)
      subst hr
      repeat (first | refine sc rfl ?_ | refine so rfl ?_ | refine sb rfl ?_)
      refine O_Xd (X_fieldS (cells := Tn.c T) (new := Cf.c T.conf) Tryz.underlying144 rfl rfl rfl rfl rfl (show (11 : Nat) ≤ 11 from Nat.le_refl _) rfl rfl) ?_
      repeat (first | refine sc rfl ?_ | refine so rfl ?_ | refine sb rfl ?_)
      refine O_Xd (X_field (cells := Cf.c T.conf) (av := I64 T.conf.quantum) Tryz.underlying120 rfl rfl rfl rfl rfl rfl rfl) ?_
      repeat (first | refine sc rfl ?_ | refine so rfl ?_ | refine sb rfl ?_)
      refine O_call (MostR_c tot T.conf.quantum (rQuantaF k) (by omega)) (by rfl) (by rfl) (by rfl) (by rfl) (fun r hr => ?_)
      subst hr
      obtain ⟨mst, hmst⟩ : ∃ m, mostF tot T.conf.quantum (rQuantaF k) = m := ⟨_, rfl⟩
      rw [hmst]
      repeat (first | refine sc rfl ?_ | refine so rfl ?_ | refine sb rfl ?_)
      first
        | exact ⟨_, [_], _, rfl, pickA_perm (is := [1]) (As := [_]) rfl, rfl, rfl, rfl⟩
        | exact ⟨_, [_], _, rfl, pickA_perm (is := [2]) (As := [_]) rfl, rfl, rfl, rfl⟩
        | exact ⟨_, [_], _, rfl, pickA_perm (is := [3]) (As := [_]) rfl, rfl, rfl, rfl⟩
end Go.Proofs

/- The watch: bound.Of. -/
set_option linter.unusedSimpArgs false
set_option linter.unusedVariables false
set_option maxRecDepth 100000
namespace Go.Proofs
open Go.Sy Go.Lib

theorem short_of : ∀ (n : Nat) (l : List Int), l.Nodup → (∀ x ∈ l, 1 ≤ x ∧ x ≤ (n : Int)) → l.length ≤ n
  | 0, l, hn, h => by
    cases l with
    | nil => exact Nat.le_refl _
    | cons a l => have := h a (List.mem_cons_self ..); omega
  | n + 1, l, hn, h => by
    by_cases hm : ((n + 1 : Nat) : Int) ∈ l
    · have h1 := short_of n (l.erase ((n + 1 : Nat) : Int)) (hn.erase _) (fun x hx => by
        have h2 := (hn.mem_erase_iff).1 hx
        have h3 := h x h2.2
        omega)
      rw [List.length_erase_of_mem hm] at h1
      omega
    · have h1 := short_of n l hn (fun x hx => by
        have h3 := h x hx
        have : x ≠ ((n + 1 : Nat) : Int) := fun e => hm (e ▸ hx)
        omega)
      omega
theorem updT_keys (k : Int) (x : At) : ∀ es : List (Int × At), ((updT k x es).map (·.1) = es.map (·.1) ∧ k ∈ es.map (·.1)) ∨ ((updT k x es).map (·.1) = es.map (·.1) ++ [k] ∧ k ∉ es.map (·.1))
  | [] => .inr ⟨rfl, by simp⟩
  | (j, y) :: r => by
    simp only [updT]
    by_cases h : j = k
    · rw [if_pos h]; exact .inl ⟨rfl, by simp [h]⟩
    · rw [if_neg h]
      rcases updT_keys k x r with ⟨h1, h2⟩ | ⟨h1, h2⟩
      · exact .inl ⟨by simp [h1], by simp only [List.map_cons, List.mem_cons]; exact .inr h2⟩
      · exact .inr ⟨by simp [h1], by simp only [List.map_cons, List.mem_cons, not_or]; exact ⟨fun e => h e.symm, h2⟩⟩
theorem delT_keys (k : Int) : ∀ es : List (Int × At), ((delT k es).map (·.1)).Sublist (es.map (·.1))
  | [] => List.Sublist.refl _
  | (j, y) :: r => by
    simp only [delT]
    by_cases h : j = k
    · rw [if_pos h]; exact List.sublist_cons_self _ _
    · rw [if_neg h]; exact (delT_keys k r).cons_cons _
theorem BkOK.of {es : List (Int × At)} (h1 : (es.map (·.1)).Nodup) (h2 : ∀ x ∈ es.map (·.1), 1 ≤ x ∧ x ≤ 8) : BkOK es :=
  ⟨h1, fun q hq => h2 q.1 (List.mem_map.2 ⟨q, hq, rfl⟩), by have := short_of 8 _ h1 h2; simpa using this⟩
theorem BkOK.keys {es : List (Int × At)} (h : BkOK es) : ∀ x ∈ es.map (·.1), 1 ≤ x ∧ x ≤ 8 := fun x hx => by
  obtain ⟨q, hq, rfl⟩ := List.mem_map.1 hx
  exact h.2.1 q hq
theorem BkOK.doF {es : List (Int × At)} (h : BkOK es) (o : Ord) : BkOK (bkDoF es o).1 := by
  unfold bkDoF
  split
  · exact h
  · rename_i hc
    have hf : ¬(o.op < 1 ∨ 6 < o.op ∨ o.owner < 1 ∨ 8 < o.owner) := fun hh => by
      refine hc ?_
      unfold bkCheckF
      rw [formF_bad hh, if_pos (show (1 : Int) ≠ 0 by decide)]; decide
    split
    · exact .of (h.1.sublist (delT_keys _ _)) (fun x hx => h.keys x ((delT_keys _ _).subset hx))
    · rcases updT_keys o.owner (doT o ((lookT o.owner es).getD default)) es with ⟨h1, h2⟩ | ⟨h1, h2⟩
      · exact .of (by rw [h1]; exact h.1) (by rw [h1]; exact h.keys)
      · refine .of ?_ ?_
        · rw [h1]
          refine List.nodup_append.2 ⟨h.1, by simp, fun a ha b hb => ?_⟩
          simp only [List.mem_singleton] at hb
          subst hb
          exact fun e => h2 (e ▸ ha)
        · rw [h1]
          intro x hx
          rw [List.mem_append, List.mem_singleton] at hx
          rcases hx with hx | rfl
          · exact h.keys x hx
          · omega

structure BS where
  es : List (Int × At)
  ws : List Wt
  cs : List Int
  os : List Nat
def asksF (k : Int) : Bool := decide (k = 2 ∨ k = 3 ∨ k = 4 ∨ k = 6 ∨ k = 7)
def stepB (s : BS) (x : Rw) : BS :=
  if (trDoneF x).2 = true then ⟨(bkDoF s.es (trDoneF x).1).1, letAll s.ws s.os, s.cs, orderOs s.ws s.os (trDoneF x).1⟩
  else if x.act = 2 ∨ x.act = 3 then ⟨s.es, (turnF x s.ws s.os).1, s.cs, (turnF x s.ws s.os).2⟩
  else if x.act = 1 ∧ x.note.err = 0 ∧ asksF x.note.kind = true ∧ (lookT x.note.owner s.es).isSome = true then ⟨s.es, s.ws ++ [beginF s.es s.ws s.cs s.os x.fat x.note], s.cs ++ [costN x.note.body.length], s.os ++ [s.ws.length]⟩
  else s
def runB (l : List Rw) : BS := l.foldl stepB ⟨[], [], [], []⟩
structure BOK (k : Nat) (s : BS) : Prop where
  es : BkOK s.es
  os : ∀ i, i ∈ s.os → i < s.ws.length
  cs : s.cs.length = s.ws.length
  n : s.ws.length ≤ k
  m : s.os.length ≤ k
theorem turnF_len (x : Rw) (ws : List Wt) (os : List Nat) (hos : ∀ i, i ∈ os → i < ws.length) : (turnF x ws os).1.length = ws.length := by
  have := (turnFold_ok x ws.length os (ws, -1) rfl (.inl (by show (-1 : Int) < 0; decide)) hos).1
  unfold turnF
  split
  · exact this
  · simp only [upServed, List.length_set]; exact this
theorem BOK.step {n : Nat} {s : BS} (h : BOK n s) (x : Rw) : BOK (n + 1) (stepB s x) := by
  unfold stepB
  have hn := h.n
  have hm := h.m
  split
  · refine ⟨h.es.doF _, ?_, ?_, ?_, ?_⟩
    · intro i hi
      simp only [letAll_len]
      refine h.os i ?_
      simp only [orderOs] at hi
      split at hi
      · exact (List.mem_filter.1 hi).1
      · exact hi
    · simp only [letAll_len]; exact h.cs
    · simp only [letAll_len]; omega
    · simp only [orderOs]
      split
      · exact Nat.le_trans (List.length_filter_le _ _) (by omega)
      · omega
  · split
    · refine ⟨h.es, ?_, ?_, ?_, ?_⟩
      · intro i hi
        simp only [turnF_len x s.ws s.os h.os]
        refine h.os i ?_
        simp only [turnF] at hi
        split at hi
        · exact hi
        · exact (List.mem_filter.1 hi).1
      · simp only [turnF_len x s.ws s.os h.os]; exact h.cs
      · simp only [turnF_len x s.ws s.os h.os]; omega
      · simp only [turnF]
        split
        · simp only []; omega
        · exact Nat.le_trans (List.length_filter_le _ _) (by omega)
    · split
      · refine ⟨h.es, ?_, by simp [h.cs], by simp; omega, by simp; omega⟩
        intro i hi
        simp only [List.mem_append, List.mem_singleton, List.length_append, List.length_singleton] at hi ⊢
        rcases hi with hi | rfl
        · have := h.os i hi; omega
        · omega
      · exact ⟨h.es, h.os, h.cs, by omega, by omega⟩
theorem BOK.run : ∀ (l : List Rw) (n : Nat) (s : BS), BOK n s → BOK (n + l.length) (l.foldl stepB s)
  | [], n, s, h => h
  | x :: l, n, s, h => by
    have := BOK.run l (n + 1) (stepB s x) (h.step x)
    rw [List.length_cons, show n + (l.length + 1) = n + 1 + l.length by omega]
    exact this
theorem runB_ok (l : List Rw) : BOK l.length (runB l) := by
  have := BOK.run l 0 ⟨[], [], [], []⟩ ⟨⟨by simp, by simp, by simp⟩, by simp, rfl, Nat.le_refl _, Nat.le_refl _⟩
  rw [Nat.zero_add] at this
  exact this
theorem asksF_eq (k : Int) : AsksB_F k = some (asksF k) := by
  unfold AsksB_F asksF
  simp only [beqd]
  by_cases h2 : k = 2
  · simp [h2]
  by_cases h3 : k = 3
  · simp [h3]
  by_cases h4 : k = 4
  · simp [h4]
  by_cases h6 : k = 6
  · simp [h6]
  by_cases h7 : k = 7
  · simp [h7]
  · simp [h2, h3, h4, h6, h7]
theorem asksB_c (k : Int) : FnP Tryz.prog 57 [I64 k] (· = B (asksF k)) := AsksB_w k _ (asksF_eq k)
end Go.Proofs

/- The document's bound: Of. -/
set_option linter.unusedSimpArgs false
set_option linter.unusedVariables false
set_option maxRecDepth 100000
namespace Go.Proofs
open Go.Sy Go.Lib

def cameF (x : Rw) (w : Int) : Bool := decide (x.act = 1 ∧ x.note.owner = w ∧ x.note.err = 0) && asksF x.note.kind
theorem asksR_eq (k : Int) : AsksR_F k = some (asksF k) := by
  unfold AsksR_F asksF
  simp only [beqd]
  by_cases h2 : k = 2
  · simp [h2]
  by_cases h3 : k = 3
  · simp [h3]
  by_cases h4 : k = 4
  · simp [h4]
  by_cases h6 : k = 6
  · simp [h6]
  by_cases h7 : k = 7
  · simp [h7]
  · simp [h2, h3, h4, h6, h7]
theorem cameIn_c (x : Rw) (w : Int) : FnP Tryz.prog 64 [.agg (Rw.c x), I64 w] (· = B (cameF x w)) := CameInR_w x w _ (by
  unfold CameInR_F cameF
  rw [asksR_eq]
  simp only [beqd]
  by_cases h1 : x.act = 1
  · by_cases h2 : x.note.owner = w
    · by_cases h3 : x.note.err = 0
      · simp [h1, h2, h3]
      · simp [h1, h2, h3]
    · simp [h1, h2]
  · simp [h1])

def oOrd (o : Ord) (e : Opn) : Opn := ⟨{ e.w with flet := true }, e.cost, decide (o.op ≠ 4) || decide (e.w.owner ≠ o.owner)⟩
def rOrdStep (o : Ord) (os : List Opn) (i : Nat) : List Opn := if (os.getD i default).fopen = false then os else upO (oOrd o) os i
def rOrdAll (o : Ord) (os : List Opn) (n : Nat) : List Opn := (List.range n).foldl (rOrdStep o) os
theorem rOrdAll_succ (o : Ord) (os : List Opn) (n : Nat) : rOrdAll o os (n + 1) = rOrdStep o (rOrdAll o os n) n := by
  unfold rOrdAll; rw [List.range_succ, List.foldl_append]; rfl
theorem rOrdStep_len (o : Ord) (os : List Opn) (i : Nat) : (rOrdStep o os i).length = os.length := by
  unfold rOrdStep
  split
  · rfl
  · exact upO_len _ _ _
theorem rOrdAll_len (o : Ord) (os : List Opn) : ∀ n, (rOrdAll o os n).length = os.length
  | 0 => rfl
  | n + 1 => by rw [rOrdAll_succ, rOrdStep_len, rOrdAll_len o os n]
structure RS where
  bk : Bk
  os : List Opn
def stepR (s : RS) (x : Rw) : RS :=
  if (trDoneF x).2 = true then ⟨(rDoF s.bk (trDoneF x).1).1, rOrdAll (trDoneF x).1 s.os s.os.length⟩
  else if x.act = 2 ∨ x.act = 3 then ⟨s.bk, (rTurnAll x s.os s.os.length).1⟩
  else if cameF x x.note.owner = true ∧ (rOfF s.bk x.note.owner).lives = true then ⟨s.bk, s.os ++ [rBeginF s.os s.bk x]⟩
  else s
def runR (l : List Rw) : RS := l.foldl stepR ⟨⟨List.replicate 9 default⟩, []⟩
theorem rDoF_len (k : Bk) (o : Ord) : (rDoF k o).1.l.length = k.l.length := by
  unfold rDoF
  split
  · rfl
  · simp
theorem runR_ok : ∀ (l : List Rw) (n : Nat) (s : RS), s.bk.l.length = 9 → s.os.length ≤ n → (l.foldl stepR s).bk.l.length = 9 ∧ (l.foldl stepR s).os.length ≤ n + l.length
  | [], n, s, h1, h2 => ⟨h1, h2⟩
  | x :: l, n, s, h1, h2 => by
    have hs : (stepR s x).bk.l.length = 9 ∧ (stepR s x).os.length ≤ n + 1 := by
      unfold stepR
      split
      · exact ⟨by rw [← h1]; exact rDoF_len _ _, by simp only [rOrdAll_len]; omega⟩
      · split
        · exact ⟨h1, by simp only [rTurnAll_len]; omega⟩
        · split
          · exact ⟨h1, by simp; omega⟩
          · exact ⟨h1, by omega⟩
    have := runR_ok l (n + 1) (stepR s x) hs.1 hs.2
    rw [List.length_cons, show n + (l.length + 1) = n + 1 + l.length by omega]
    exact this
def oLet (e : Opn) : Opn := ⟨{ e.w with flet := true }, e.cost, e.fopen⟩
theorem OfR_A (l : List Rw) (hl : l.length ≤ 400) (hb : ∀ x, x ∈ l → x.note.body.length ≤ 9223372036854775807) :
    FnA Tryz.prog 17 [SL 8 Rw.c l] [] (fun r cs' => r = SL 7 Wt.c ((runR l).os.map (·.w)) ∧ cs' = []) := by
  refine FnA.intro Tryz.tabOK Tryz.wide_ Tryz.func17 rfl (by decide) rfl (fun X => ?_)
  have hR : ∀ j, j ≤ l.length → (runR (l.take j)).bk.l.length = 9 ∧ (runR (l.take j)).os.length ≤ 400 := fun j hj => by
    have := runR_ok (l.take j) 0 ⟨⟨List.replicate 9 default⟩, []⟩ (by simp) (Nat.le_refl _)
    rw [List.length_take] at this
    exact ⟨this.1, by have := this.2; unfold runR; omega⟩
  repeat (first | refine sc rfl ?_ | refine so rfl ?_ | refine sb rfl ?_)
  refine O_call rNew_c (by rfl) (by rfl) (by rfl) (by rfl) (fun r hr => ?_)
  subst hr
  repeat (first | refine sc rfl ?_ | refine so rfl ?_ | refine sb rfl ?_)
  refine C_le _ (Le.addVec 140 9 (fun i => Opn.c (([] : List Opn).getD i default))) ?_
  refine C_loop (fun q : Nat × Value => ⟨[(0, SL 8 Rw.c l), (3, .bp 3 0), (4, .v q.2), (5, I64 (q.1 : Nat))], [.box 3 131 (Bk.c (runR (l.take q.1)).bk), .abs (opnA q.2 (runR (l.take q.1)).os)]⟩)
    (fun q => q.1 ≤ l.length ∧ isSl q.2) (fun q => l.length - q.1) (0, .slice none 0 0) ⟨Nat.zero_le _, _, _, _, rfl⟩ (Le.pick [1, 0] ⟨rfl, rfl, rfl, rfl, trivial⟩ rfl) ?_
  rintro ⟨j, h⟩ ⟨hj, hisl⟩
  simp only [] at hj hisl
  obtain ⟨hk, ho⟩ := hR j hj
  repeat (first | refine sc rfl ?_ | refine so rfl ?_ | refine sb rfl ?_)
  refine C_if rfl (fun m1 => ?_) (fun m1 => ?_) <;> simp only [decide_eq_true_eq, decide_eq_false_iff_not, Bool.not_eq_true', Bool.not_eq_false', beq_iff_eq, beq_eq_false_iff_ne, bne_iff_ne, ne_eq, bne_eq_false_iff_eq, Decidable.not_not] at m1
  · have hjl : j < l.length := by omega
    have hg : l.getD j default = l[j] := by simp [List.getD_eq_getElem?_getD, List.getElem?_eq_getElem hjl]
    have hbx := hb l[j] (List.getElem_mem hjl)
    have htk : runR (l.take (j + 1)) = stepR (runR (l.take j)) l[j] := by
      rw [← List.take_append_getElem hjl]
      unfold runR
      rw [List.foldl_append]; rfl
    obtain ⟨x, hx⟩ : ∃ x, l[j] = x := ⟨_, rfl⟩
    obtain ⟨S, hS⟩ : ∃ S, runR (l.take j) = S := ⟨_, rfl⟩
    rw [hx] at hg hbx htk
    rw [hS] at hk ho htk ⊢
    obtain ⟨bk, os⟩ := S
    simp only [] at hk ho ⊢
    repeat (first | refine sc rfl ?_ | refine so rfl ?_ | refine sb rfl ?_)
    refine ⟨by omega, ?_⟩
    simp only [Int.toNat_natCast, hg]
    repeat (first | refine sc rfl ?_ | refine so rfl ?_ | refine sb rfl ?_)
    refine O_call (refDone_c x hbx) (by rfl) (by rfl) (by rfl) (by rfl) (fun r hr => ?_)
    subst hr
    obtain ⟨D, hD⟩ : ∃ D, trDoneF x = D := ⟨_, rfl⟩
    have hst : stepR ⟨bk, os⟩ x = if D.2 = true then ⟨(rDoF bk D.1).1, rOrdAll D.1 os os.length⟩
      else if x.act = 2 ∨ x.act = 3 then ⟨bk, (rTurnAll x os os.length).1⟩
      else if cameF x x.note.owner = true ∧ (rOfF bk x.note.owner).lives = true then ⟨bk, os ++ [rBeginF os bk x]⟩
      else ⟨bk, os⟩ := by unfold stepR; rw [hD]
    rw [hst] at htk
    rw [hD]
    repeat (first | refine sc rfl ?_ | refine so rfl ?_ | refine sb rfl ?_)
    refine C_if rfl (fun m2 => ?_) (fun m2 => ?_)
    · rw [if_pos m2] at htk
      repeat (first | refine sc rfl ?_ | refine so rfl ?_ | refine sb rfl ?_)
      refine O_call (rDo_c bk hk D.1) (by rfl) (by rfl) (by rfl) (by rfl) (fun r hr => ?_)
      subst hr
      obtain ⟨Q, hQ⟩ : ∃ Q, rDoF bk D.1 = Q := ⟨_, rfl⟩
      rw [hQ] at htk ⊢
      obtain ⟨o, hoD⟩ : ∃ o, D.1 = o := ⟨_, rfl⟩
      rw [hoD] at htk ⊢
      repeat (first | refine sc rfl ?_ | refine so rfl ?_ | refine sb rfl ?_)
      refine C_le _ (Le.freezebox 7 rfl rfl rfl) ?_
      refine C_loop (fun i : Nat => ⟨[(0, SL 8 Rw.c l), (3, .bp 3 0), (4, .v h), (5, I64 (j : Nat)), (7, .cp (Ord.c o)), (11, I64 (i : Nat))], [.box 3 131 (Bk.c Q.1), .abs (opnA h (rOrdAll o os i))]⟩)
        (fun i => i ≤ os.length) (fun i => os.length - i) 0 (Nat.zero_le _) (by first | exact Le.pick [2, 2] ⟨rfl, rfl, rfl, rfl, rfl, rfl, trivial⟩ rfl | exact Le.pick [1, 1] ⟨rfl, rfl, rfl, rfl, rfl, rfl, trivial⟩ rfl | exact Le.pick [1, 2] ⟨rfl, rfl, rfl, rfl, rfl, rfl, trivial⟩ rfl | exact Le.pick [0, 2] ⟨rfl, rfl, rfl, rfl, rfl, rfl, trivial⟩ rfl | exact Le.pick [0, 1] ⟨rfl, rfl, rfl, rfl, rfl, rfl, trivial⟩ rfl) ?_
      intro i hi
      have hlen := rOrdAll_len o os i
      have hsucc := rOrdAll_succ o os i
      obtain ⟨W, hW⟩ : ∃ W, rOrdAll o os i = W := ⟨_, rfl⟩
      rw [hW] at hlen hsucc ⊢
      repeat (first | refine sc rfl ?_ | refine so rfl ?_ | refine sb rfl ?_)
      refine O_Xd (X_lenV 1 rfl rfl rfl rfl rfl) ?_
      repeat (first | refine sc rfl ?_ | refine so rfl ?_ | refine sb rfl ?_)
      refine C_if rfl (fun n1 => ?_) (fun n1 => ?_) <;> simp only [decide_eq_true_eq, decide_eq_false_iff_not, Bool.not_eq_true', Bool.not_eq_false', beq_iff_eq, beq_eq_false_iff_ne, bne_iff_ne, ne_eq, bne_eq_false_iff_eq, Decidable.not_not] at n1
      · have hil : i < W.length := by omega
        obtain ⟨e, he⟩ : ∃ e, W.getD i default = e := ⟨_, rfl⟩
        refine C_know 1 (∃ g cc, h = HD g W.length cc) rfl (fun G w hok _ => vec_HD hok (by omega)) ?_
        rintro ⟨gh, ch, rfl⟩
        repeat (first | refine sc rfl ?_ | refine so rfl ?_ | refine sb rfl ?_)
        refine ⟨by omega, ?_⟩
        rw [Int.toNat_natCast]
        repeat (first | refine sc rfl ?_ | refine so rfl ?_ | refine sb rfl ?_)
        refine O_loadP 1 (A := opnA (HD gh W.length ch) W) (cells := (Opn.c (W.getD i default)).drop 8) (reads_vec (q := i) (j := 8) hil (by omega)) rfl rfl rfl rfl rfl rfl ?_
        rw [he]
        repeat (first | refine sc rfl ?_ | refine so rfl ?_ | refine sb rfl ?_)
        refine C_if rfl (fun c1 => ?_) (fun c1 => ?_)
        · have c1 : e.fopen = true := c1
          have hs : rOrdAll o os (i + 1) = upO (oOrd o) W i := by rw [hsucc]; unfold rOrdStep; rw [if_neg (by rw [he, c1]; decide)]
          repeat (first | refine sc rfl ?_ | refine so rfl ?_ | refine sb rfl ?_)
          refine ⟨by omega, ?_⟩
          rw [Int.toNat_natCast]
          repeat (first | refine sc rfl ?_ | refine so rfl ?_ | refine sb rfl ?_)
          refine O_Xn (X_storeP 1 (A := opnA (HD gh W.length ch) W) (A' := vecA (HD gh W.length ch) 140 9 W.length (fun q => Opn.c ((upO oLet W i).getD q default))) (x := B true) (writes_vec (q := i) (j := 6) hil (by decide) (by omega) (fun q hq => ?_)) rfl rfl rfl rfl rfl rfl rfl) ?_
          · rw [upO_getD _ _ _ _ hq]
            by_cases hqi : q = i
            · rw [if_pos hqi, if_pos hqi]; rfl
            · rw [if_neg hqi, if_neg hqi]
          rw [show vecA (HD gh W.length ch) 140 9 W.length (fun q => Opn.c ((upO oLet W i).getD q default)) = opnA (HD gh W.length ch) (upO oLet W i) from (opnA_up _ _ _ _).symm]
          have hVl := upO_len oLet W i
          have hVi : (upO oLet W i).getD i default = oLet e := by rw [upO_getD _ _ _ _ hil, if_pos rfl, he]
          have hVo : ∀ q, q < W.length → q ≠ i → (upO oLet W i).getD q default = W.getD q default := fun q hq hqi => by rw [upO_getD _ _ _ _ hq, if_neg hqi]
          obtain ⟨V, hV⟩ : ∃ V, upO oLet W i = V := ⟨_, rfl⟩
          rw [hV] at hVl hVi hVo ⊢
          rw [← hVl]
          repeat (first | refine sc rfl ?_ | refine so rfl ?_ | refine sb rfl ?_)
          refine C_drawU 20 16 rfl (by kernel_rfl) (by kernel_rfl) (by kernel_rfl) ?_
          repeat (first | refine sd rfl ?_ | refine sdb rfl ?_ | refine sds rfl ?_)
          refine D_case 5 rfl (fun c2 => ?_) (fun c2 => ?_) <;> simp only [decide_eq_true_eq, decide_eq_false_iff_not, Bool.not_eq_true', Bool.not_eq_false', beq_iff_eq, beq_eq_false_iff_ne, bne_iff_ne, ne_eq, bne_eq_false_iff_eq, Decidable.not_not] at c2
          · repeat (first | refine sd rfl ?_ | refine sdb rfl ?_ | refine sds rfl ?_)
            repeat (first | refine sc rfl ?_ | refine so rfl ?_ | refine sb rfl ?_)
            refine ⟨by omega, ?_⟩
            rw [Int.toNat_natCast]
            repeat (first | refine sc rfl ?_ | refine so rfl ?_ | refine sb rfl ?_)
            first
              | refine O_Xn (X_storeP 0 (A := opnA (HD gh V.length ch) V) (A' := vecA (HD gh V.length ch) 140 9 V.length (fun q => Opn.c ((upO (oOrd o) W i).getD q default))) (x := B true) (writes_vec (q := i) (j := 8) (by omega) (by decide) (by omega) (fun q hq => ?_)) rfl rfl rfl rfl rfl rfl rfl) ?_
              | refine O_Xn (X_storeP 1 (A := opnA (HD gh V.length ch) V) (A' := vecA (HD gh V.length ch) 140 9 V.length (fun q => Opn.c ((upO (oOrd o) W i).getD q default))) (x := B true) (writes_vec (q := i) (j := 8) (by omega) (by decide) (by omega) (fun q hq => ?_)) rfl rfl rfl rfl rfl rfl rfl) ?_
            · rw [upO_getD _ _ _ _ (by omega), he]
              by_cases hqi : q = i
              · rw [if_pos hqi, if_pos hqi, hVi]; show Opn.c (oOrd o e) = _; unfold oOrd; rw [decide_eq_true c2, Bool.true_or]; rfl
              · rw [if_neg hqi, if_neg hqi, hVo q (by omega) hqi]
            rw [show vecA (HD gh V.length ch) 140 9 V.length (fun q => Opn.c ((upO (oOrd o) W i).getD q default)) = opnA (HD gh V.length ch) (upO (oOrd o) W i) by unfold opnA; rw [upO_len, hVl]]
            rw [hVl]
            repeat (first | refine sc rfl ?_ | refine so rfl ?_ | refine sb rfl ?_)
            rw [w64 (x := (i : Int) + 1) (by omega) (by omega)]
            refine ⟨i + 1, by omega, by omega, ?_⟩
            rw [hs]
            first
              | exact Le.pick [0, 0] ⟨rfl, rfl, rfl, rfl, rfl, rfl, trivial⟩ rfl
              | exact Le.pick [1, 0] ⟨rfl, rfl, rfl, rfl, rfl, rfl, trivial⟩ rfl
          · repeat (first | refine sd rfl ?_ | refine sdb rfl ?_ | refine sds rfl ?_)
            refine ⟨by omega, ?_⟩
            rw [Int.toNat_natCast]
            repeat (first | refine sd rfl ?_ | refine sdb rfl ?_ | refine sds rfl ?_)
            first
              | refine D_X (I64 (V.getD i default).w.owner) (X_loadP 0 (A := opnA (HD gh V.length ch) V) (cells := (Opn.c (V.getD i default)).drop 1) (reads_vec (q := i) (j := 1) (by omega) (by omega)) rfl rfl rfl rfl rfl rfl) ?_
              | refine D_X (I64 (V.getD i default).w.owner) (X_loadP 1 (A := opnA (HD gh V.length ch) V) (cells := (Opn.c (V.getD i default)).drop 1) (reads_vec (q := i) (j := 1) (by omega) (by omega)) rfl rfl rfl rfl rfl rfl) ?_
            rw [hVi]
            repeat (first | refine sd rfl ?_ | refine sdb rfl ?_ | refine sds rfl ?_)
            repeat (first | refine sc rfl ?_ | refine so rfl ?_ | refine sb rfl ?_)
            refine ⟨by omega, ?_⟩
            rw [Int.toNat_natCast]
            repeat (first | refine sc rfl ?_ | refine so rfl ?_ | refine sb rfl ?_)
            first
              | refine O_Xn (X_storeP 0 (A := opnA (HD gh V.length ch) V) (A' := vecA (HD gh V.length ch) 140 9 V.length (fun q => Opn.c ((upO (oOrd o) W i).getD q default))) (x := B (e.w.owner != o.owner)) (writes_vec (q := i) (j := 8) (by omega) (by decide) (by omega) (fun q hq => ?_)) rfl rfl rfl rfl rfl rfl rfl) ?_
              | refine O_Xn (X_storeP 1 (A := opnA (HD gh V.length ch) V) (A' := vecA (HD gh V.length ch) 140 9 V.length (fun q => Opn.c ((upO (oOrd o) W i).getD q default))) (x := B (e.w.owner != o.owner)) (writes_vec (q := i) (j := 8) (by omega) (by decide) (by omega) (fun q hq => ?_)) rfl rfl rfl rfl rfl rfl rfl) ?_
            · rw [upO_getD _ _ _ _ (by omega), he]
              by_cases hqi : q = i
              · rw [if_pos hqi, if_pos hqi, hVi]; show Opn.c (oOrd o e) = _; unfold oOrd; rw [decide_eq_false (fun hh => hh c2), Bool.false_or, show (e.w.owner != o.owner) = decide (e.w.owner ≠ o.owner) by rw [Bool.eq_iff_iff]; simp]; rfl
              · rw [if_neg hqi, if_neg hqi, hVo q (by omega) hqi]
            rw [show vecA (HD gh V.length ch) 140 9 V.length (fun q => Opn.c ((upO (oOrd o) W i).getD q default)) = opnA (HD gh V.length ch) (upO (oOrd o) W i) by unfold opnA; rw [upO_len, hVl]]
            rw [hVl]
            repeat (first | refine sc rfl ?_ | refine so rfl ?_ | refine sb rfl ?_)
            rw [w64 (x := (i : Int) + 1) (by omega) (by omega)]
            refine ⟨i + 1, by omega, by omega, ?_⟩
            rw [hs]
            first
              | exact Le.pick [0, 0] ⟨rfl, rfl, rfl, rfl, rfl, rfl, trivial⟩ rfl
              | exact Le.pick [1, 0] ⟨rfl, rfl, rfl, rfl, rfl, rfl, trivial⟩ rfl
        · have c1 : e.fopen = false := c1
          have hs : rOrdAll o os (i + 1) = W := by rw [hsucc]; unfold rOrdStep; rw [if_pos (by rw [he]; exact c1)]
          repeat (first | refine sc rfl ?_ | refine so rfl ?_ | refine sb rfl ?_)
          rw [w64 (x := (i : Int) + 1) (by omega) (by omega)]
          refine ⟨i + 1, by omega, by omega, ?_⟩
          rw [hs]
          first
            | exact Le.pick [0, 0] ⟨rfl, rfl, rfl, rfl, rfl, rfl, trivial⟩ rfl
            | exact Le.pick [1, 0] ⟨rfl, rfl, rfl, rfl, rfl, rfl, trivial⟩ rfl
      · obtain rfl : i = os.length := by omega
        repeat (first | refine sc rfl ?_ | refine so rfl ?_ | refine sb rfl ?_)
        rw [w64 (x := (j : Int) + 1) (by omega) (by omega)]
        refine ⟨(j + 1, h), ⟨hjl, hisl⟩, by simp only []; omega, ?_⟩
        simp only []
        rw [htk, hW]
        exact Le.pick [0, 0] ⟨rfl, rfl, rfl, rfl, trivial⟩ rfl
    rw [if_neg (by rw [show D.2 = false from m2]; decide)] at htk
    repeat (first | refine sc rfl ?_ | refine so rfl ?_ | refine sb rfl ?_)
    refine O_join ⟨[(0, SL 8 Rw.c l), (3, .bp 3 0), (4, .v h), (5, I64 (j : Nat)), (6, .bp 6 0), (79, B (decide (x.act = 2 ∨ x.act = 3)))], [.box 3 131 (Bk.c bk), .box 6 30 (Rw.c x), .abs (opnA h os)]⟩ ?_ (fun s hs => C_le _ hs ?_)
    · refine O_case 75 rfl (fun h5 => ?_) (fun h5 => ?_) <;> simp only [decide_eq_true_eq, decide_eq_false_iff_not, Bool.not_eq_true', Bool.not_eq_false', beq_iff_eq, beq_eq_false_iff_ne, bne_iff_ne, ne_eq, bne_eq_false_iff_eq, Decidable.not_not] at h5
      · repeat (first | refine sc rfl ?_ | refine so rfl ?_ | refine sb rfl ?_)
        exact Le.pick [2, 1, 1] ⟨rfl, rfl, rfl, rfl, rfl, congrArg (fun b => some (B b)) (by rw [Bool.eq_iff_iff]; simp; omega), trivial⟩ rfl
      · repeat (first | refine sc rfl ?_ | refine so rfl ?_ | refine sb rfl ?_)
        exact Le.pick [2, 1, 1] ⟨rfl, rfl, rfl, rfl, rfl, congrArg (fun b => some (B b)) (by rw [Bool.eq_iff_iff]; simp; omega), trivial⟩ rfl
    refine C_if rfl (fun m3 => ?_) (fun m3 => ?_) <;> simp only [decide_eq_true_eq, decide_eq_false_iff_not, Bool.not_eq_true', Bool.not_eq_false', beq_iff_eq, beq_eq_false_iff_ne, bne_iff_ne, ne_eq, bne_eq_false_iff_eq, Decidable.not_not] at m3
    · rw [if_pos m3] at htk
      repeat (first | refine sc rfl ?_ | refine so rfl ?_ | refine sb rfl ?_)
      refine O_callA [2] (rTurn_A h os x (by omega)) (by rfl) (by rfl) (by rfl) (by rfl) (by rfl) ?_
      rintro r cs' ⟨rfl, rfl⟩
      repeat (first | refine sc rfl ?_ | refine so rfl ?_ | refine sb rfl ?_)
      rw [w64 (x := (j : Int) + 1) (by omega) (by omega)]
      refine ⟨(j + 1, h), ⟨hjl, hisl⟩, by simp only []; omega, ?_⟩
      simp only []
      rw [htk]
      exact Le.pick [1, 0] ⟨rfl, rfl, rfl, rfl, trivial⟩ rfl
    rw [if_neg m3] at htk
    repeat (first | refine sc rfl ?_ | refine so rfl ?_ | refine sb rfl ?_)
    refine O_call (cameIn_c x x.note.owner) (by rfl) (by rfl) (by rfl) (by rfl) (fun r hr => ?_)
    subst hr
    repeat (first | refine sc rfl ?_ | refine so rfl ?_ | refine sb rfl ?_)
    refine O_case 88 rfl (fun e1 => ?_) (fun e1 => ?_)
    · have e1 : cameF x x.note.owner = true := e1
      obtain ⟨T, hT⟩ : ∃ T, rOfF bk x.note.owner = T := ⟨_, rfl⟩
      have hof := rOf_c bk hk x.note.owner
      rw [hT] at hof htk
      repeat (first | refine sc rfl ?_ | refine so rfl ?_ | refine sb rfl ?_)
      refine O_call hof (by rfl) (by rfl) (by rfl) (by rfl) (fun r hr => ?_)
      subst hr
      repeat (first | refine sc rfl ?_ | refine so rfl ?_ | refine sb rfl ?_)
      refine O_Xd (X_field (cells := Tn.c T) (av := B T.lives) Tryz.underlying144 rfl rfl rfl rfl rfl rfl rfl) ?_
      repeat (first | refine sc rfl ?_ | refine so rfl ?_ | refine sb rfl ?_)
      refine C_if rfl (fun e2 => ?_) (fun e2 => ?_)
      · have e2 : T.lives = true := e2
        rw [if_pos ⟨e1, e2⟩] at htk
        repeat (first | refine sc rfl ?_ | refine so rfl ?_ | refine sb rfl ?_)
        refine O_callA [2] (rBegin_A h os bk hk x hbx (by omega)) (by rfl) (by rfl) (by rfl) (by rfl) (by rfl) ?_
        rintro r cs' ⟨rfl, rfl⟩
        obtain ⟨E, hE⟩ : ∃ E, rBeginF os bk x = E := ⟨_, rfl⟩
        rw [hE] at htk ⊢
        repeat (first | refine sc rfl ?_ | refine so rfl ?_ | refine sb rfl ?_)
        refine O_le _ (Le.freeze 101 rfl rfl) ?_
        refine O_appendV 0 (m2 := 1) (m3 := (os ++ [E]).length) (row3 := fun q => Opn.c ((os ++ [E]).getD q default)) rfl rfl rfl rfl rfl rfl (fun q hq => ?_) rfl (by show (os.length + 1) * 64 ≤ 140737488355328; omega) (by show os.length + 1 ≤ maxLen; simp only [maxLen]; omega) (by simp) (fun q hq => ?_) (fun v' hv' => ?_)
        · have h0 : q = 0 := by have : q < 1 := hq; omega
          subst h0; rfl
        · rw [getD_snoc os E q hq]
          unfold appRow
          by_cases hqk : q < os.length
          · rw [if_pos hqk, if_pos hqk]
          · rw [if_neg hqk, if_neg hqk]
            have : q = os.length := by simp at hq; omega
            subst this
            rw [Nat.sub_self]; rfl
        obtain ⟨g9, cc9, rfl⟩ := hv'.resolve_left (fun h => by simp at h)
        repeat (first | refine sc rfl ?_ | refine so rfl ?_ | refine sb rfl ?_)
        rw [w64 (x := (j : Int) + 1) (by omega) (by omega)]
        refine ⟨(j + 1, HD g9 (os ++ [E]).length cc9), ⟨hjl, ⟨_, _, _, rfl⟩⟩, by simp only []; omega, ?_⟩
        simp only []
        rw [htk]
        exact Le.pick [1, 0] ⟨rfl, rfl, rfl, rfl, trivial⟩ rfl
      · have e2 : T.lives = false := e2
        rw [if_neg (fun hh => by rw [e2] at hh; cases hh.2)] at htk
        repeat (first | refine sc rfl ?_ | refine so rfl ?_ | refine sb rfl ?_)
        rw [w64 (x := (j : Int) + 1) (by omega) (by omega)]
        refine ⟨(j + 1, h), ⟨hjl, hisl⟩, by simp only []; omega, ?_⟩
        simp only []
        rw [htk]
        exact Le.pick [0, 1] ⟨rfl, rfl, rfl, rfl, trivial⟩ rfl
    · have e1 : cameF x x.note.owner = false := e1
      rw [if_neg (fun hh => by rw [e1] at hh; cases hh.1)] at htk
      repeat (first | refine sc rfl ?_ | refine so rfl ?_ | refine sb rfl ?_)
      refine C_false rfl rfl ?_
      repeat (first | refine sc rfl ?_ | refine so rfl ?_ | refine sb rfl ?_)
      rw [w64 (x := (j : Int) + 1) (by omega) (by omega)]
      refine ⟨(j + 1, h), ⟨hjl, hisl⟩, by simp only []; omega, ?_⟩
      simp only []
      rw [htk]
      exact Le.pick [0, 1] ⟨rfl, rfl, rfl, rfl, trivial⟩ rfl
  · obtain rfl : j = l.length := by omega
    rw [List.take_length] at hk ho ⊢
    obtain ⟨S, hS⟩ : ∃ S, runR l = S := ⟨_, rfl⟩
    rw [hS] at hk ho ⊢
    obtain ⟨bk, os⟩ := S
    simp only [] at hk ho ⊢
    repeat (first | refine sc rfl ?_ | refine so rfl ?_ | refine sb rfl ?_)
    refine C_le _ (Le.frVec 1 (fun i => Opn.c (os.getD i default)) rfl (fun i hi => rfl)) ?_
    refine C_le _ (Le.slotA 0 4 rfl rfl) ?_
    repeat (first | refine sc rfl ?_ | refine so rfl ?_ | refine sb rfl ?_)
    refine C_le _ (Le.addVec 39 7 (fun i => Wt.c (([] : List Wt).getD i default))) ?_
    refine C_loop (fun q : Nat × Value => ⟨[(4, SL 9 Opn.c os), (12, .v q.2), (13, I64 (q.1 : Nat))], [.abs (vecA q.2 39 7 ((os.take q.1).map (·.w)).length (fun i => Wt.c (((os.take q.1).map (·.w)).getD i default)))]⟩)
      (fun q => q.1 ≤ os.length ∧ isSl q.2) (fun q => os.length - q.1) (0, .slice none 0 0) ⟨Nat.zero_le _, _, _, _, rfl⟩ (Le.pick [0] ⟨rfl, rfl, rfl, trivial⟩ rfl) ?_
    rintro ⟨j, h2⟩ ⟨hj2, hisl2⟩
    simp only [] at hj2 hisl2
    repeat (first | refine sc rfl ?_ | refine so rfl ?_ | refine sb rfl ?_)
    refine C_if rfl (fun m2 => ?_) (fun m2 => ?_) <;> simp only [decide_eq_true_eq, decide_eq_false_iff_not, Bool.not_eq_true', Bool.not_eq_false', beq_iff_eq, beq_eq_false_iff_ne, bne_iff_ne, ne_eq, bne_eq_false_iff_eq, Decidable.not_not] at m2
    · have hjl : j < os.length := by omega
      have hg : os.getD j default = os[j] := by simp [List.getD_eq_getElem?_getD, List.getElem?_eq_getElem hjl]
      have htk : (os.take (j + 1)).map (·.w) = (os.take j).map (·.w) ++ [os[j].w] := by rw [← List.take_append_getElem hjl, List.map_append]; rfl
      have hLl : ((os.take j).map (·.w)).length ≤ 400 := by rw [List.length_map, List.length_take]; omega
      obtain ⟨o, ho⟩ : ∃ o, os[j] = o := ⟨_, rfl⟩
      obtain ⟨L, hL⟩ : ∃ L, (os.take j).map (·.w) = L := ⟨_, rfl⟩
      rw [ho] at hg htk
      rw [hL] at htk hLl ⊢
      repeat (first | refine sc rfl ?_ | refine so rfl ?_ | refine sb rfl ?_)
      refine ⟨by omega, ?_⟩
      simp only [Int.toNat_natCast, hg]
      repeat (first | refine sc rfl ?_ | refine so rfl ?_ | refine sb rfl ?_)
      refine O_le _ (Le.freeze 115 rfl rfl) ?_
      refine O_appendV 0 (m2 := 1) (m3 := (L ++ [o.w]).length) (row3 := fun q => Wt.c ((L ++ [o.w]).getD q default)) rfl rfl rfl rfl rfl rfl (fun q hq => ?_) rfl (by show (L.length + 1) * 48 ≤ 140737488355328; omega) (by show L.length + 1 ≤ maxLen; simp only [maxLen]; omega) (by simp) (fun q hq => ?_) (fun v' hv' => ?_)
      · have h0 : q = 0 := by have : q < 1 := hq; omega
        subst h0; rfl
      · rw [getD_snoc L o.w q hq]
        unfold appRow
        by_cases hqk : q < L.length
        · rw [if_pos hqk, if_pos hqk]
        · rw [if_neg hqk, if_neg hqk]
          have : q = L.length := by simp at hq; omega
          subst this
          rw [Nat.sub_self]; rfl
      obtain ⟨g9, cc9, rfl⟩ := hv'.resolve_left (fun h => by simp at h)
      repeat (first | refine sc rfl ?_ | refine so rfl ?_ | refine sb rfl ?_)
      rw [w64 (x := (j : Int) + 1) (by omega) (by omega)]
      refine ⟨(j + 1, HD g9 (L ++ [o.w]).length cc9), ⟨by simp only []; omega, _, _, _, rfl⟩, by simp only []; omega, ?_⟩
      simp only []
      rw [htk]
      exact Le.pick [0] ⟨rfl, rfl, rfl, trivial⟩ rfl
    · obtain rfl : j = os.length := by omega
      rw [List.take_length]
      refine C_le _ (Le.frVec 0 (fun i => Wt.c ((os.map (·.w)).getD i default)) rfl (fun i hi => rfl)) ?_
      refine C_le _ (Le.slotA 0 12 rfl rfl) ?_
      repeat (first | refine sc rfl ?_ | refine so rfl ?_ | refine sb rfl ?_)
      exact ⟨_, [], _, rfl, .refl _, rfl, rfl, rfl⟩
theorem OfR_c (l : List Rw) (hl : l.length ≤ 400) (hb : ∀ x, x ∈ l → x.note.body.length ≤ 9223372036854775807) : FnP Tryz.prog 17 [SL 8 Rw.c l] (· = SL 7 Wt.c ((runR l).os.map (·.w))) :=
  ((OfR_A l hl hb).toP).mono (fun r ⟨cs, h⟩ => h.1)
end Go.Proofs

/- bound.Of. -/
set_option linter.unusedSimpArgs false
set_option linter.unusedVariables false
set_option maxRecDepth 100000
namespace Go.Proofs
open Go.Sy Go.Lib

structure Hd where
  mo : Option Nat
  hw : Value
  hc : Value
  ho : Value
def csW (g : Nat) (d : Hd) (S : BS) : List Ch := [.abs (wtA g d.mo d.hw d.hc d.ho), .abs (bkA d.mo S.es), .abs (wsA d.hw S.ws), .abs (csB d.hc S.cs), .abs (opV d.ho S.os)]
theorem OfB_A (l : List Rw) (hl : l.length ≤ 1759218604440) (hb : ∀ x, x ∈ l → x.note.body.length ≤ 9223372036854775807) :
    FnA Tryz.prog 16 [SL 8 Rw.c l] [] (fun r cs' => r = SL 7 Wt.c (runB l).ws ∧ cs' = []) := by
  refine FnA.intro Tryz.tabOK Tryz.wide_ Tryz.func16 rfl (by decide) rfl (fun X => ?_)
  have hR : ∀ j, j ≤ l.length → BOK j (runB (l.take j)) := fun j hj => by
    have := runB_ok (l.take j)
    rw [List.length_take, Nat.min_eq_left hj] at this
    exact this
  repeat (first | refine C_scope ?_ | refine sc rfl ?_ | refine so rfl ?_ | refine sb rfl ?_)
  refine C_absb 3 rfl rfl rfl (fun g => ?_)
  repeat (first | refine sc rfl ?_ | refine so rfl ?_ | refine sb rfl ?_)
  refine C_le _ (Le.addAbs (mapA ikz none (esT [])) rfl (fun _ _ => rfl)) ?_
  refine C_le _ (Le.addVec 37 7 (fun i => Wt.c (([] : List Wt).getD i default))) ?_
  refine C_le _ (Le.addVec 3 1 (fun i => INTc (([] : List Int).getD i default))) ?_
  refine C_le _ (Le.addVec 3 1 (fun i => NATc (([] : List Nat).getD i default))) ?_
  refine C_loop (fun q : Nat × Hd => ⟨[(0, SL 8 Rw.c l), (3, PT g 0), (8, SL 8 Rw.c l), (9, I64 (l.length : Nat)), (10, I64 (q.1 : Nat))], csW g q.2 (runB (l.take q.1))⟩)
    (fun q => q.1 ≤ l.length ∧ (q.2.mo = none → (runB (l.take q.1)).es = [])) (fun q => l.length - q.1) (0, ⟨none, .slice none 0 0, .slice none 0 0, .slice none 0 0⟩) ⟨Nat.zero_le _, fun _ => rfl⟩
    (Le.pick [4, 3, 2, 1, 0] ⟨rfl, rfl, rfl, rfl, rfl, trivial⟩ rfl) ?_
  rintro ⟨j, mo, hw, hc, ho⟩ ⟨hj, hmo⟩
  simp only [] at hj hmo
  have hok := hR j hj
  repeat (first | refine sc rfl ?_ | refine so rfl ?_ | refine sb rfl ?_)
  refine C_if rfl (fun m1 => ?_) (fun m1 => ?_) <;> simp only [decide_eq_true_eq, decide_eq_false_iff_not, Bool.not_eq_true', Bool.not_eq_false', beq_iff_eq, beq_eq_false_iff_ne, bne_iff_ne, ne_eq, bne_eq_false_iff_eq, Decidable.not_not] at m1
  · have hjl : j < l.length := by omega
    have hg : l.getD j default = l[j] := by simp [List.getD_eq_getElem?_getD, List.getElem?_eq_getElem hjl]
    have hbx := hb l[j] (List.getElem_mem hjl)
    have htk : runB (l.take (j + 1)) = stepB (runB (l.take j)) l[j] := by
      rw [← List.take_append_getElem hjl]
      unfold runB
      rw [List.foldl_append]; rfl
    obtain ⟨x, hx⟩ : ∃ x, l[j] = x := ⟨_, rfl⟩
    obtain ⟨S, hS⟩ : ∃ S, runB (l.take j) = S := ⟨_, rfl⟩
    rw [hx] at hg hbx htk
    rw [hS] at hmo hok htk ⊢
    obtain ⟨es, ws, cs, os⟩ := S
    simp only [] at hmo
    obtain ⟨k1, k2, k3, k4, k5⟩ := hok
    simp only [] at k1 k2 k3 k4 k5
    show SymC X _ _ ⟨_, [.abs (wtA g mo hw hc ho), .abs (bkA mo es), .abs (wsA hw ws), .abs (csB hc cs), .abs (opV ho os)]⟩ _
    repeat (first | refine sc rfl ?_ | refine so rfl ?_ | refine sb rfl ?_)
    refine ⟨by omega, ?_⟩
    simp only [Int.toNat_natCast, hg]
    repeat (first | refine sc rfl ?_ | refine so rfl ?_ | refine sb rfl ?_)
    refine O_call (trDone_c x hbx) (by rfl) (by rfl) (by rfl) (by rfl) (fun r hr => ?_)
    subst hr
    obtain ⟨D, hD⟩ : ∃ D, trDoneF x = D := ⟨_, rfl⟩
    have hst : stepB ⟨es, ws, cs, os⟩ x = if D.2 = true then ⟨(bkDoF es D.1).1, letAll ws os, cs, orderOs ws os D.1⟩
      else if x.act = 2 ∨ x.act = 3 then ⟨es, (turnF x ws os).1, cs, (turnF x ws os).2⟩
      else if x.act = 1 ∧ x.note.err = 0 ∧ asksF x.note.kind = true ∧ (lookT x.note.owner es).isSome = true then ⟨es, ws ++ [beginF es ws cs os x.fat x.note], cs ++ [costN x.note.body.length], os ++ [ws.length]⟩
      else ⟨es, ws, cs, os⟩ := by unfold stepB; rw [hD]
    rw [hst] at htk
    rw [hD]
    repeat (first | refine sc rfl ?_ | refine so rfl ?_ | refine sb rfl ?_)
    refine C_if rfl (fun m2 => ?_) (fun m2 => ?_)
    · rw [if_pos m2] at htk
      repeat (first | refine sc rfl ?_ | refine so rfl ?_ | refine sb rfl ?_)
      refine O_callA [2, 2, 2, 3] (order_A g mo hw hc ho ws es os D.1 hmo k2 (by omega) (by omega)) (by rfl) (by rfl) (by rfl) (by rfl) (by rfl) ?_
      rintro r cs' ⟨mo', ho', hmo', rfl⟩
      repeat (first | refine sc rfl ?_ | refine so rfl ?_ | refine sb rfl ?_)
      rw [w64 (x := (j : Int) + 1) (by omega) (by omega)]
      refine ⟨(j + 1, ⟨mo', hw, hc, ho'⟩), ⟨hjl, by simp only []; rw [htk]; exact hmo'⟩, by simp only []; omega, ?_⟩
      simp only []
      rw [htk]
      exact Le.pick [0, 0, 0, 3, 0] ⟨rfl, rfl, rfl, rfl, rfl, trivial⟩ rfl
    rw [if_neg (by rw [show D.2 = false from m2]; decide)] at htk
    repeat (first | refine sc rfl ?_ | refine so rfl ?_ | refine sb rfl ?_)
    refine C_if rfl (fun m3 => ?_) (fun m3 => ?_) <;> simp only [decide_eq_true_eq, decide_eq_false_iff_not, Bool.not_eq_true', Bool.not_eq_false', beq_iff_eq, beq_eq_false_iff_ne, bne_iff_ne, ne_eq, bne_eq_false_iff_eq, Decidable.not_not] at m3
    · rw [if_pos (Or.inl m3)] at htk
      repeat (first | refine sc rfl ?_ | refine so rfl ?_ | refine sb rfl ?_)
      refine C_if rfl (fun m4 => ?_) (fun m4 => ?_) <;> simp only [decide_eq_true_eq, decide_eq_false_iff_not, Bool.not_eq_true', Bool.not_eq_false', beq_iff_eq, beq_eq_false_iff_ne, bne_iff_ne, ne_eq, bne_eq_false_iff_eq, Decidable.not_not] at m4
      · repeat (first | refine sc rfl ?_ | refine so rfl ?_ | refine sb rfl ?_)
        refine O_callA [2, 3, 4] (turn_A g mo hw hc ho ws os x k2 (by omega) (by omega)) (by rfl) (by rfl) (by rfl) (by rfl) (by rfl) ?_
        rintro r cs' ⟨ho', rfl⟩
        repeat (first | refine sc rfl ?_ | refine so rfl ?_ | refine sb rfl ?_)
        rw [w64 (x := (j : Int) + 1) (by omega) (by omega)]
        refine ⟨(j + 1, ⟨mo, hw, hc, ho'⟩), ⟨hjl, by simp only []; rw [htk]; exact hmo⟩, by simp only []; omega, ?_⟩
        simp only []
        rw [htk]
        exact Le.pick [0, 4, 0, 3, 0] ⟨rfl, rfl, rfl, rfl, rfl, trivial⟩ rfl
      · exact absurd m3 m4
    repeat (first | refine sc rfl ?_ | refine so rfl ?_ | refine sb rfl ?_)
    refine C_if rfl (fun m4 => ?_) (fun m4 => ?_) <;> simp only [decide_eq_true_eq, decide_eq_false_iff_not, Bool.not_eq_true', Bool.not_eq_false', beq_iff_eq, beq_eq_false_iff_ne, bne_iff_ne, ne_eq, bne_eq_false_iff_eq, Decidable.not_not] at m4
    · rw [if_pos (Or.inr m4)] at htk
      repeat (first | refine sc rfl ?_ | refine so rfl ?_ | refine sb rfl ?_)
      refine O_callA [2, 3, 4] (turn_A g mo hw hc ho ws os x k2 (by omega) (by omega)) (by rfl) (by rfl) (by rfl) (by rfl) (by rfl) ?_
      rintro r cs' ⟨ho', rfl⟩
      repeat (first | refine sc rfl ?_ | refine so rfl ?_ | refine sb rfl ?_)
      rw [w64 (x := (j : Int) + 1) (by omega) (by omega)]
      refine ⟨(j + 1, ⟨mo, hw, hc, ho'⟩), ⟨hjl, by simp only []; rw [htk]; exact hmo⟩, by simp only []; omega, ?_⟩
      simp only []
      rw [htk]
      exact Le.pick [0, 4, 0, 3, 0] ⟨rfl, rfl, rfl, rfl, rfl, trivial⟩ rfl
    rw [if_neg (by omega)] at htk
    repeat (first | refine sc rfl ?_ | refine so rfl ?_ | refine sb rfl ?_)
    refine C_if rfl (fun m5 => ?_) (fun m5 => ?_) <;> simp only [decide_eq_true_eq, decide_eq_false_iff_not, Bool.not_eq_true', Bool.not_eq_false', beq_iff_eq, beq_eq_false_iff_ne, bne_iff_ne, ne_eq, bne_eq_false_iff_eq, Decidable.not_not] at m5
    · repeat (first | refine sc rfl ?_ | refine so rfl ?_ | refine sb rfl ?_)
      refine O_case 35 rfl (fun e1 => ?_) (fun e1 => ?_) <;> simp only [decide_eq_true_eq, decide_eq_false_iff_not, Bool.not_eq_true', Bool.not_eq_false', beq_iff_eq, beq_eq_false_iff_ne, bne_iff_ne, ne_eq, bne_eq_false_iff_eq, Decidable.not_not] at e1
      · rw [if_neg (fun h => e1 h.2.1)] at htk
        repeat (first | refine sc rfl ?_ | refine so rfl ?_ | refine sb rfl ?_)
        refine C_true rfl rfl ?_
        repeat (first | refine sc rfl ?_ | refine so rfl ?_ | refine sb rfl ?_)
        rw [w64 (x := (j : Int) + 1) (by omega) (by omega)]
        refine ⟨(j + 1, ⟨mo, hw, hc, ho⟩), ⟨hjl, by simp only []; rw [htk]; exact hmo⟩, by simp only []; omega, ?_⟩
        simp only []
        rw [htk]
        exact Le.pick [2, 2, 2, 2, 2] ⟨rfl, rfl, rfl, rfl, rfl, trivial⟩ rfl
      repeat (first | refine sc rfl ?_ | refine so rfl ?_ | refine sb rfl ?_)
      refine O_call (asksB_c x.note.kind) (by rfl) (by rfl) (by rfl) (by rfl) (fun r hr => ?_)
      subst hr
      repeat (first | refine sc rfl ?_ | refine so rfl ?_ | refine sb rfl ?_)
      refine O_case 42 rfl (fun e2 => ?_) (fun e2 => ?_) <;> simp only [decide_eq_true_eq, decide_eq_false_iff_not, Bool.not_eq_true', Bool.not_eq_false', beq_iff_eq, beq_eq_false_iff_ne, bne_iff_ne, ne_eq, bne_eq_false_iff_eq, Decidable.not_not] at e2
      · rw [if_neg (fun h => by rw [h.2.2.1] at e2; cases e2)] at htk
        repeat (first | refine sc rfl ?_ | refine so rfl ?_ | refine sb rfl ?_)
        refine C_true rfl rfl ?_
        repeat (first | refine sc rfl ?_ | refine so rfl ?_ | refine sb rfl ?_)
        rw [w64 (x := (j : Int) + 1) (by omega) (by omega)]
        refine ⟨(j + 1, ⟨mo, hw, hc, ho⟩), ⟨hjl, by simp only []; rw [htk]; exact hmo⟩, by simp only []; omega, ?_⟩
        simp only []
        rw [htk]
        exact Le.pick [2, 2, 2, 2, 2] ⟨rfl, rfl, rfl, rfl, rfl, trivial⟩ rfl
      repeat (first | refine sc rfl ?_ | refine so rfl ?_ | refine sb rfl ?_)
      refine O_callA [2, 2] (Lives_A g mo hw hc ho es x.note.owner) (by rfl) (by rfl) (by rfl) (by rfl) (by rfl) ?_
      rintro r cs' ⟨rfl, rfl⟩
      obtain ⟨u, hu⟩ : ∃ u, (lookT x.note.owner es).isSome = u := ⟨_, rfl⟩
      rw [hu] at htk ⊢
      repeat (first | refine sc rfl ?_ | refine so rfl ?_ | refine sb rfl ?_)
      refine C_if rfl (fun e3 => ?_) (fun e3 => ?_) <;> simp only [decide_eq_true_eq, decide_eq_false_iff_not, Bool.not_eq_true', Bool.not_eq_false', beq_iff_eq, beq_eq_false_iff_ne, bne_iff_ne, ne_eq, bne_eq_false_iff_eq, Decidable.not_not] at e3
      · rw [if_neg (fun h => by rw [h.2.2.2] at e3; cases e3)] at htk
        repeat (first | refine sc rfl ?_ | refine so rfl ?_ | refine sb rfl ?_)
        rw [w64 (x := (j : Int) + 1) (by omega) (by omega)]
        refine ⟨(j + 1, ⟨mo, hw, hc, ho⟩), ⟨hjl, by simp only []; rw [htk]; exact hmo⟩, by simp only []; omega, ?_⟩
        simp only []
        rw [htk]
        exact Le.pick [0, 0, 2, 2, 2] ⟨rfl, rfl, rfl, rfl, rfl, trivial⟩ rfl
      · rw [if_pos ⟨m5, e1, e2, e3⟩] at htk
        repeat (first | refine sc rfl ?_ | refine so rfl ?_ | refine sb rfl ?_)
        refine O_callA [0, 0, 2, 2, 2] (begin_A g mo hw hc ho es ws cs os x.fat x.note k1 k2 k3 (by omega) (by omega)) (by rfl) (by rfl) (by rfl) (by rfl) (by rfl) ?_
        rintro r cs' ⟨hw', hc', ho', rfl⟩
        repeat (first | refine sc rfl ?_ | refine so rfl ?_ | refine sb rfl ?_)
        rw [w64 (x := (j : Int) + 1) (by omega) (by omega)]
        refine ⟨(j + 1, ⟨mo, hw', hc', ho'⟩), ⟨hjl, by simp only []; rw [htk]; exact hmo⟩, by simp only []; omega, ?_⟩
        simp only []
        rw [htk]
        exact Le.pick [0, 0, 0, 0, 0] ⟨rfl, rfl, rfl, rfl, rfl, trivial⟩ rfl
    · rw [if_neg (fun h => m5 h.1)] at htk
      repeat (first | refine sc rfl ?_ | refine so rfl ?_ | refine sb rfl ?_)
      rw [w64 (x := (j : Int) + 1) (by omega) (by omega)]
      refine ⟨(j + 1, ⟨mo, hw, hc, ho⟩), ⟨hjl, by simp only []; rw [htk]; exact hmo⟩, by simp only []; omega, ?_⟩
      simp only []
      rw [htk]
      exact Le.pick [2, 2, 2, 2, 2] ⟨rfl, rfl, rfl, rfl, rfl, trivial⟩ rfl
  · obtain rfl : j = l.length := by omega
    rw [List.take_length] at hmo hok ⊢
    obtain ⟨S, hS⟩ : ∃ S, runB l = S := ⟨_, rfl⟩
    rw [hS]
    show SymC X _ _ ⟨_, [.abs (wtA g mo hw hc ho), .abs (bkA mo S.es), .abs (wsA hw S.ws), .abs (csB hc S.cs), .abs (opV ho S.os)]⟩ _
    repeat (first | refine sc rfl ?_ | refine so rfl ?_ | refine sb rfl ?_)
    first
      | refine O_loadP 0 (reads_box 1) rfl rfl rfl rfl rfl rfl ?_
      | refine O_loadP 1 (reads_box 1) rfl rfl rfl rfl rfl rfl ?_
      | refine O_loadP 2 (reads_box 1) rfl rfl rfl rfl rfl rfl ?_
      | refine O_loadP 3 (reads_box 1) rfl rfl rfl rfl rfl rfl ?_
      | refine O_loadP 4 (reads_box 1) rfl rfl rfl rfl rfl rfl ?_
    refine O_le _ (Le.frVec 2 (fun i => Wt.c (S.ws.getD i default)) rfl (fun i hi => rfl)) ?_
    refine O_le _ (Le.slotA 0 57 rfl rfl) ?_
    repeat (first | refine sc rfl ?_ | refine so rfl ?_ | refine sb rfl ?_)
    exact ⟨_, [], _, rfl, .refl _, rfl, rfl, rfl⟩
theorem OfB_c (l : List Rw) (hl : l.length ≤ 1759218604440) (hb : ∀ x, x ∈ l → x.note.body.length ≤ 9223372036854775807) : FnP Tryz.prog 16 [SL 8 Rw.c l] (· = SL 7 Wt.c (runB l).ws) :=
  ((OfB_A l hl hb).toP).mono (fun r ⟨cs, h⟩ => h.1)
end Go.Proofs

/- The law's own functions: awake, alike. -/
set_option linter.unusedSimpArgs false
set_option linter.unusedVariables false
set_option maxRecDepth 100000
namespace Go.Proofs
open Go.Sy Go.Lib

theorem awake46_c : FnP Tryz.prog 12 [] (· = B true) := by
  refine FnP.intro Tryz.tabOK Tryz.wide_ Tryz.func12 rfl (by decide) rfl (fun X => ?_)
  repeat (first | refine sc rfl ?_ | refine so rfl ?_ | refine sb rfl ?_)
  refine O_call (BRound_c 1040) (by rfl) (by rfl) (by rfl) (by rfl) (fun r hr => ?_)
  subst hr
  rw [show roundF 1040 = 130 by decide]
  repeat (first | refine sc rfl ?_ | refine so rfl ?_ | refine sb rfl ?_)
  refine O_le _ (Le.vecrow (k := 4) 2 (fun i => INTc (([1040, 1040] : List Int).getD i default)) rfl rfl (fun i hi => ?_)) ?_
  · have : i = 0 ∨ i = 1 := by have : i < 2 := hi; omega
    rcases this with rfl | rfl <;> rfl
  refine O_le _ (Le.freezeL (l := ([1040, 1040] : List Int)) (cells := INTc) 4 rfl rfl) ?_
  repeat (first | refine sc rfl ?_ | refine so rfl ?_ | refine sb rfl ?_)
  refine O_call (Most_c 16 1040 [1040, 1040] (by simp)) (by rfl) (by rfl) (by rfl) (by rfl) (fun r hr => ?_)
  subst hr
  rw [show mostF 16 1040 [1040, 1040] = 780 by decide]
  repeat (first | refine sc rfl ?_ | refine so rfl ?_ | refine sb rfl ?_)
  exact ⟨_, rfl, rfl, rfl⟩
theorem ours_c (x : Wt) : FnP Tryz.prog 14 [.agg (Wt.c x)] (· = .agg (Wt.c x)) := BOurs_w x x rfl
theorem note_c (x : Nte) : FnP Tryz.prog 13 [.agg (Nte.c x)] (· = .agg (Nte.c x)) := BNote_w x x rfl
def wtV (x : Wt) : Array Value := #[.int .i64 x.fat, .int .i64 x.owner, .int .i64 x.cost, .int .i64 x.turns, .int .i64 x.most, .bool x.served, .bool x.flet]
theorem rep_wt (x : Wt) (e : Env) (ys : List Value) (h : RepL e (Wt.c x) ys) : ys = (wtV x).toList := by
  simp only [Wt.c, RepL, Rep] at h
  obtain ⟨z1, t1, rfl, rfl, _, z2, t2, rfl, rfl, _, z3, t3, rfl, rfl, _, z4, t4, rfl, rfl, _, z5, t5, rfl, rfl, _, z6, t6, rfl, rfl, _, z7, t7, rfl, rfl, _, rfl⟩ := h
  rfl
theorem eq_wt (x : Wt) (w : World) : (Op.equalIn 10000 37 (.agg (wtV x)) (.agg (wtV x))).run Tryz.prog w = .ok true w := by
  rw [run_equalIn_struct w 9999 37 _ _ Tryz.underlying37 Tryz.stoodInHeld37]
  unfold Program.fieldsOf
  rw [Tryz.underlying37]
  have p0 : (part 3 (wtV x) 0).run Tryz.prog w = .ok (.int .i64 x.fat) w := by simp [part, isAgg, run_underlying Tryz.underlying3, wtV]
  have p1 : (part 3 (wtV x) 1).run Tryz.prog w = .ok (.int .i64 x.owner) w := by simp [part, isAgg, run_underlying Tryz.underlying3, wtV]
  have p2 : (part 3 (wtV x) 2).run Tryz.prog w = .ok (.int .i64 x.cost) w := by simp [part, isAgg, run_underlying Tryz.underlying3, wtV]
  have p3 : (part 3 (wtV x) 3).run Tryz.prog w = .ok (.int .i64 x.turns) w := by simp [part, isAgg, run_underlying Tryz.underlying3, wtV]
  have p4 : (part 3 (wtV x) 4).run Tryz.prog w = .ok (.int .i64 x.most) w := by simp [part, isAgg, run_underlying Tryz.underlying3, wtV]
  have p5 : (part 4 (wtV x) 5).run Tryz.prog w = .ok (.bool x.served) w := by simp [part, isAgg, run_underlying Tryz.underlying4, wtV]
  have p6 : (part 4 (wtV x) 6).run Tryz.prog w = .ok (.bool x.flet) w := by simp [part, isAgg, run_underlying Tryz.underlying4, wtV]
  have e0 : ∀ k, (Op.equalIn 9999 3 (.int .i64 k) (.int .i64 k)).run Tryz.prog w = .ok true w := fun k => by rw [run_equalIn_int w 9998 3 .i64 .i64 _ _ Tryz.underlying3]; simp
  have e2 : ∀ b, (Op.equalIn 9999 4 (.bool b) (.bool b)).run Tryz.prog w = .ok true w := fun b => by rw [run_equalIn_bool' w 9998 4 _ _ Tryz.underlying4]; simp
  simp only [Op.eqFields]
  rw [if_pos (by decide), if_pos (by decide), if_pos (by decide), if_pos (by decide), if_pos (by decide), if_pos (by decide), if_pos (by decide)]
  simp [Sem.run_bind, p0, p1, p2, p3, p4, p5, p6, e0, e2]
theorem alike_c (a : List Wt) (ha : a.length ≤ 9223372036854775807) : FnP Tryz.prog 15 [SL 7 Wt.c a, SL 7 Wt.c a] (· = B true) := by
  refine FnP.intro Tryz.tabOK Tryz.wide_ Tryz.func15 rfl (by decide) rfl (fun X => ?_)
  repeat (first | refine sc rfl ?_ | refine so rfl ?_ | refine sb rfl ?_)
  refine C_false rfl (by simp) ?_
  repeat (first | refine sc rfl ?_ | refine so rfl ?_ | refine sb rfl ?_)
  refine C_loop (fun i : Nat => ⟨[(0, SL 7 Wt.c a), (1, SL 7 Wt.c a), (5, I64 (i : Nat))], []⟩) (fun i => i ≤ a.length) (fun i => a.length - i) 0 (Nat.zero_le _) (Le.sub [] ⟨rfl, rfl, rfl, trivial⟩ rfl) ?_
  intro i hi
  repeat (first | refine sc rfl ?_ | refine so rfl ?_ | refine sb rfl ?_)
  refine C_if rfl (fun m1 => ?_) (fun m1 => ?_) <;> simp only [decide_eq_true_eq, decide_eq_false_iff_not, Bool.not_eq_true', Bool.not_eq_false', beq_iff_eq, beq_eq_false_iff_ne, bne_iff_ne, ne_eq, bne_eq_false_iff_eq, Decidable.not_not] at m1
  · have hil : i < a.length := by omega
    repeat (first | refine sc rfl ?_ | refine so rfl ?_ | refine sb rfl ?_)
    refine C_drawD rfl (by kernel_rfl) ?_
    repeat (first | refine sd rfl ?_ | refine sdb rfl ?_ | refine sds rfl ?_)
    refine ⟨by omega, ?_⟩
    rw [Int.toNat_natCast]
    repeat (first | refine sd rfl ?_ | refine sdb rfl ?_ | refine sds rfl ?_)
    refine ⟨by omega, ?_⟩
    rw [Int.toNat_natCast]
    repeat (first | refine sd rfl ?_ | refine sdb rfl ?_ | refine sds rfl ?_)
    refine D_call (ours_c (a.getD i default)) rfl rfl rfl rfl ?_
    refine D_X (B false) (X_aggC (us := wtV (a.getD i default)) (vs := wtV (a.getD i default)) (b := true) (op := .neq) (fun e ys h => rep_wt _ e ys h) (fun e ys h => rep_wt _ e ys h) (fun w => eq_wt _ w) Tryz.eqGuardType37 (.inr rfl) rfl rfl rfl rfl) ?_
    repeat (first | refine sd rfl ?_ | refine sdb rfl ?_ | refine sds rfl ?_)
    repeat (first | refine sc rfl ?_ | refine so rfl ?_ | refine sb rfl ?_)
    refine C_false rfl rfl ?_
    repeat (first | refine sc rfl ?_ | refine so rfl ?_ | refine sb rfl ?_)
    rw [w64 (x := (i : Int) + 1) (by omega) (by omega)]
    exact ⟨i + 1, hil, by omega, Le.sub [] ⟨rfl, rfl, rfl, trivial⟩ rfl⟩
  · repeat (first | refine sc rfl ?_ | refine so rfl ?_ | refine sb rfl ?_)
    exact ⟨_, rfl, rfl, rfl⟩
end Go.Proofs

/- Late: both say the same. -/
set_option linter.unusedSimpArgs false
set_option linter.unusedVariables false
namespace Go.Proofs
open Go.Sy Go.Lib

def isLate (x : Wt) : Bool := !x.flet && (decide (x.most < x.turns) || (decide (x.turns = x.most) && !x.served))
def lateFrom (l : List Wt) : Nat → Nat → List Int
  | _, 0 => []
  | i, n + 1 => if isLate (l.getD i default) = true then (i : Int) :: lateFrom l (i + 1) n else lateFrom l (i + 1) n
theorem LateB_step (l : List Wt) (i : Nat) (acc : List Int) (hi : i < l.length) (ha : acc.length < 10000000000000) (hl : l.length ≤ 9223372036854775806) :
    LateB_L1 l ((i : Int), acc) = some (.inl (((i + 1 : Nat) : Int), if isLate (l.getD i default) = true then acc ++ [(i : Int)] else acc)) := by
  unfold LateB_L1
  rw [decide_eq_true (show ((i : Int), acc).1 < (l.length : Int) by show (i : Int) < _; omega)]
  simp only [cond_true, Int.toNat_natCast]
  rw [chk_pos (by omega), chk_pos ha, w64 (x := (i : Int) + 1) (by omega) (by omega)]
  obtain ⟨x, hx⟩ : ∃ x, l.getD i default = x := ⟨_, rfl⟩
  simp only [hx]
  obtain ⟨a, b, c, t, m, s, f⟩ := x
  unfold isLate
  simp only []
  by_cases h1 : m < t
  · cases f <;> cases s <;> simp [h1]
  · by_cases h2 : t = m
    · subst h2
      cases f <;> cases s <;> simp
    · have e : (t == m) = false := by simp [h2]
      cases f <;> cases s <;> simp [h1, h2, e]
theorem LateR_step (l : List Wt) (i : Nat) (acc : List Int) (hi : i < l.length) (ha : acc.length < 10000000000000) (hl : l.length ≤ 9223372036854775806) :
    LateR_L1 l ((i : Int), acc) = some (.inl (((i + 1 : Nat) : Int), if isLate (l.getD i default) = true then acc ++ [(i : Int)] else acc)) := by
  unfold LateR_L1
  rw [decide_eq_true (show ((i : Int), acc).1 < (l.length : Int) by show (i : Int) < _; omega)]
  simp only [cond_true, Int.toNat_natCast]
  rw [chk_pos (by omega), chk_pos ha, w64 (x := (i : Int) + 1) (by omega) (by omega)]
  obtain ⟨x, hx⟩ : ∃ x, l.getD i default = x := ⟨_, rfl⟩
  simp only [hx]
  obtain ⟨a, b, c, t, m, s, f⟩ := x
  unfold isLate
  simp only []
  by_cases h1 : m < t
  · cases f <;> cases s <;> simp [h1]
  · by_cases h2 : t = m
    · subst h2
      cases f <;> cases s <;> simp
    · have h3 : ¬ m ≤ t := by omega
      cases f <;> cases s <;> simp [h1, h2, h3]
theorem LateB_run (l : List Wt) (hl : l.length ≤ 9999999999999) : ∀ (n i : Nat) (acc : List Int), i + n = l.length → acc.length ≤ i → Iter (LateB_L1 l) ((i : Int), acc) = some (acc ++ lateFrom l i n)
  | 0, i, acc, h, ha => by
    have hs : LateB_L1 l ((i : Int), acc) = some (.inr acc) := by
      unfold LateB_L1
      rw [decide_eq_false (show ¬((i : Int), acc).1 < (l.length : Int) by show ¬(i : Int) < _; omega)]
      rfl
    rw [Iter_end hs]; simp [lateFrom]
  | n + 1, i, acc, h, ha => by
    have hs := LateB_step l i acc (by omega) (by omega) (by omega)
    rw [Iter_next hs, LateB_run l hl n (i + 1) _ (by omega) (by split; (· simp only [List.length_append, List.length_singleton]; omega); (· omega))]
    unfold lateFrom
    split
    · rw [List.append_assoc]; cases n <;> rfl
    · cases n <;> rfl
theorem LateR_run (l : List Wt) (hl : l.length ≤ 9999999999999) : ∀ (n i : Nat) (acc : List Int), i + n = l.length → acc.length ≤ i → Iter (LateR_L1 l) ((i : Int), acc) = some (acc ++ lateFrom l i n)
  | 0, i, acc, h, ha => by
    have hs : LateR_L1 l ((i : Int), acc) = some (.inr acc) := by
      unfold LateR_L1
      rw [decide_eq_false (show ¬((i : Int), acc).1 < (l.length : Int) by show ¬(i : Int) < _; omega)]
      rfl
    rw [Iter_end hs]; simp [lateFrom]
  | n + 1, i, acc, h, ha => by
    have hs := LateR_step l i acc (by omega) (by omega) (by omega)
    rw [Iter_next hs, LateR_run l hl n (i + 1) _ (by omega) (by split; (· simp only [List.length_append, List.length_singleton]; omega); (· omega))]
    unfold lateFrom
    split
    · rw [List.append_assoc]; cases n <;> rfl
    · cases n <;> rfl
def lateF (l : List Wt) : List Int := lateFrom l 0 l.length
theorem LateB_eq (l : List Wt) (hl : l.length ≤ 9999999999999) : LateB_F l = some (lateF l) := by
  unfold LateB_F
  have h := LateB_run l hl l.length 0 [] (by omega) (Nat.le_refl _)
  rw [show (((0 : Nat) : Int), ([] : List Int)) = ((0 : Int), ([] : List Int)) from rfl] at h
  rw [h]; rfl
theorem LateR_eq (l : List Wt) (hl : l.length ≤ 9999999999999) : LateR_F l = some (lateF l) := by
  unfold LateR_F
  have h := LateR_run l hl l.length 0 [] (by omega) (Nat.le_refl _)
  rw [show (((0 : Nat) : Int), ([] : List Int)) = ((0 : Int), ([] : List Int)) from rfl] at h
  rw [h]; rfl
theorem lateB_c (l : List Wt) (hl : l.length ≤ 9999999999999) : FnP Tryz.prog 19 [SL 7 Wt.c l] (· = SL 1 INTc (lateF l)) := LateB_w l _ (LateB_eq l hl)
theorem lateR_c (l : List Wt) (hl : l.length ≤ 9999999999999) : FnP Tryz.prog 20 [SL 7 Wt.c l] (· = SL 1 INTc (lateF l)) := LateR_w l _ (LateR_eq l hl)
theorem IntsR_run (a : List Int) (hl : a.length ≤ 9223372036854775806) : ∀ (n i : Nat), i + n = a.length → Iter (IntsR_L2 a a) (i : Int) = some (.inr ())
  | 0, i, h => by
    refine Iter_end ?_
    unfold IntsR_L2
    rw [decide_eq_false (show ¬(i : Int) < (a.length : Int) by omega)]
    rfl
  | n + 1, i, h => by
    have hs : IntsR_L2 a a (i : Int) = some (.inl ((i + 1 : Nat) : Int)) := by
      unfold IntsR_L2
      rw [decide_eq_true (show (i : Int) < (a.length : Int) by omega)]
      simp only [cond_true, Int.toNat_natCast]
      rw [chk_pos (by omega), chk_pos (by omega), w64 (x := (i : Int) + 1) (by omega) (by omega)]
      simp
    rw [Iter_next hs]
    exact IntsR_run a hl n (i + 1) (by omega)
theorem ints_c (a : List Int) (hl : a.length ≤ 9223372036854775806) : FnP Tryz.prog 18 [SL 1 INTc a, SL 1 INTc a] (· = B true) := IntsR_w a a true (by
  unfold IntsR_F
  rw [show ((a.length : Int) != (a.length : Int)) = false by simp]
  have h := IntsR_run a hl a.length 0 (by omega)
  rw [show (((0 : Nat) : Int)) = (0 : Int) from rfl] at h
  rw [h]; rfl)
theorem lateFrom_len (l : List Wt) : ∀ (n i : Nat), (lateFrom l i n).length ≤ n
  | 0, i => Nat.le_refl _
  | n + 1, i => by
    unfold lateFrom
    have := lateFrom_len l n (i + 1)
    split <;> simp <;> omega
end Go.Proofs

/- The law of the bound: the walk. -/
set_option linter.unusedSimpArgs false
set_option linter.unusedVariables false
set_option maxRecDepth 100000
namespace Go.Proofs
open Go.Sy Go.Lib

theorem law3_c (hpl : ∀ l : List Rw, l.length ≤ 400 → (runB l).ws = (runR l).os.map (·.w)) (l : List Rw) (hb : ∀ x, x ∈ l → x.note.body.length ≤ 9223372036854775807) (w : List Wt) (hw : w.length ≤ 2932031007402) (hl : l.length ≤ 9223372036854775807) :
    FnP Tryz.prog 3 [SL 8 Rw.c l, SL 7 Wt.c w] (· = B true) := by
  refine FnP.intro Tryz.tabOK Tryz.wide_ Tryz.func3 rfl (by decide) rfl (fun X => ?_)
  repeat (first | refine sc rfl ?_ | refine so rfl ?_ | refine sb rfl ?_)
  refine C_if rfl (fun m0 => ?_) (fun m0 => ?_) <;> simp only [decide_eq_true_eq, decide_eq_false_iff_not, Bool.not_eq_true', Bool.not_eq_false', beq_iff_eq, beq_eq_false_iff_ne, bne_iff_ne, ne_eq, bne_eq_false_iff_eq, Decidable.not_not] at m0
  · repeat (first | refine sc rfl ?_ | refine so rfl ?_ | refine sb rfl ?_)
    refine O_call awake46_c (by rfl) (by rfl) (by rfl) (by rfl) (fun r hr => ?_)
    subst hr
    repeat (first | refine sc rfl ?_ | refine so rfl ?_ | refine sb rfl ?_)
    exact ⟨_, rfl, rfl, rfl⟩
  have hl4 : l.length ≤ 400 := by omega
  repeat (first | refine sc rfl ?_ | refine so rfl ?_ | refine sb rfl ?_)
  refine C_le _ (Le.addVec 34 8 (fun i => Rw.c (([] : List Rw).getD i default))) ?_
  refine C_loop (fun q : Nat × Value => ⟨[(0, SL 8 Rw.c l), (1, SL 7 Wt.c w), (5, .v q.2), (6, I64 (q.1 : Nat))], [.abs (vecA q.2 34 8 (l.take q.1).length (fun i => Rw.c ((l.take q.1).getD i default)))]⟩)
    (fun q => q.1 ≤ l.length ∧ isSl q.2) (fun q => l.length - q.1) (0, .slice none 0 0) ⟨Nat.zero_le _, _, _, _, rfl⟩ (Le.pick [0] ⟨rfl, rfl, rfl, rfl, trivial⟩ rfl) ?_
  rintro ⟨j, h⟩ ⟨hj, hisl⟩
  simp only [] at hj hisl
  repeat (first | refine sc rfl ?_ | refine so rfl ?_ | refine sb rfl ?_)
  refine C_if rfl (fun m1 => ?_) (fun m1 => ?_) <;> simp only [decide_eq_true_eq, decide_eq_false_iff_not, Bool.not_eq_true', Bool.not_eq_false', beq_iff_eq, beq_eq_false_iff_ne, bne_iff_ne, ne_eq, bne_eq_false_iff_eq, Decidable.not_not] at m1
  · have hjl : j < l.length := by omega
    have hg : l.getD j default = l[j] := by simp [List.getD_eq_getElem?_getD, List.getElem?_eq_getElem hjl]
    have htk : l.take (j + 1) = l.take j ++ [l[j]] := (List.take_append_getElem hjl).symm
    obtain ⟨x, hx⟩ : ∃ x, l[j] = x := ⟨_, rfl⟩
    obtain ⟨L, hL⟩ : ∃ L, l.take j = L := ⟨_, rfl⟩
    have hLl : L.length ≤ 400 := by rw [← hL, List.length_take]; omega
    rw [hx] at hg htk
    rw [hL] at htk ⊢
    repeat (first | refine sc rfl ?_ | refine so rfl ?_ | refine sb rfl ?_)
    refine C_drawU 20 19 rfl (by kernel_rfl) (by kernel_rfl) (by kernel_rfl) ?_
    repeat (first | refine sd rfl ?_ | refine sdb rfl ?_ | refine sds rfl ?_)
    refine ⟨by omega, ?_⟩
    simp only [Int.toNat_natCast, hg]
    repeat (first | refine sd rfl ?_ | refine sdb rfl ?_ | refine sds rfl ?_)
    refine ⟨by omega, ?_⟩
    simp only [Int.toNat_natCast, hg]
    repeat (first | refine sd rfl ?_ | refine sdb rfl ?_ | refine sds rfl ?_)
    refine ⟨by omega, ?_⟩
    simp only [Int.toNat_natCast, hg]
    repeat (first | refine sd rfl ?_ | refine sdb rfl ?_ | refine sds rfl ?_)
    refine D_call (note_c x.note) rfl rfl rfl rfl ?_
    repeat (first | refine sd rfl ?_ | refine sdb rfl ?_ | refine sds rfl ?_)
    refine O_appendV 0 (m2 := 1) (m3 := (L ++ [x]).length) (row3 := fun q => Rw.c ((L ++ [x]).getD q default)) rfl rfl rfl rfl rfl rfl (fun q hq => ?_) rfl (by show (L.length + 1) * 80 ≤ 140737488355328; omega) (by show L.length + 1 ≤ maxLen; simp only [maxLen]; omega) (by simp) (fun q hq => ?_) (fun v' hv' => ?_)
    · have h0 : q = 0 := by have : q < 1 := hq; omega
      subst h0; rfl
    · rw [getD_snoc L x q hq]
      unfold appRow
      by_cases hqk : q < L.length
      · rw [if_pos hqk, if_pos hqk]
      · rw [if_neg hqk, if_neg hqk]
        have : q = L.length := by simp at hq; omega
        subst this
        rw [Nat.sub_self]; rfl
    obtain ⟨g9, cc9, rfl⟩ := hv'.resolve_left (fun h => by simp at h)
    repeat (first | refine sc rfl ?_ | refine so rfl ?_ | refine sb rfl ?_)
    rw [w64 (x := (j : Int) + 1) (by omega) (by omega)]
    refine ⟨(j + 1, HD g9 (L ++ [x]).length cc9), ⟨by simp only []; omega, _, _, _, rfl⟩, by simp only []; omega, ?_⟩
    simp only []
    rw [htk]
    exact Le.pick [0] ⟨rfl, rfl, rfl, rfl, trivial⟩ rfl
  · obtain rfl : j = l.length := by omega
    rw [List.take_length]
    refine C_le _ (Le.frVec 0 (fun i => Rw.c (l.getD i default)) rfl (fun i hi => rfl)) ?_
    refine C_le _ (Le.slotA 0 5 rfl rfl) ?_
    repeat (first | refine sc rfl ?_ | refine so rfl ?_ | refine sb rfl ?_)
    refine C_le _ (Le.addVec 37 7 (fun i => Wt.c (([] : List Wt).getD i default))) ?_
    refine C_loop (fun q : Nat × Value => ⟨[(0, SL 8 Rw.c l), (1, SL 7 Wt.c w), (5, SL 8 Rw.c l), (7, .v q.2), (8, I64 (q.1 : Nat))], [.abs (vecA q.2 37 7 (w.take q.1).length (fun i => Wt.c ((w.take q.1).getD i default)))]⟩)
      (fun q => q.1 ≤ w.length ∧ isSl q.2) (fun q => w.length - q.1) (0, .slice none 0 0) ⟨Nat.zero_le _, _, _, _, rfl⟩ (Le.pick [0] ⟨rfl, rfl, rfl, rfl, rfl, trivial⟩ rfl) ?_
    rintro ⟨j, h2⟩ ⟨hj2, hisl2⟩
    simp only [] at hj2 hisl2
    repeat (first | refine sc rfl ?_ | refine so rfl ?_ | refine sb rfl ?_)
    refine C_if rfl (fun m2 => ?_) (fun m2 => ?_) <;> simp only [decide_eq_true_eq, decide_eq_false_iff_not, Bool.not_eq_true', Bool.not_eq_false', beq_iff_eq, beq_eq_false_iff_ne, bne_iff_ne, ne_eq, bne_eq_false_iff_eq, Decidable.not_not] at m2
    · have hjl : j < w.length := by omega
      have hg : w.getD j default = w[j] := by simp [List.getD_eq_getElem?_getD, List.getElem?_eq_getElem hjl]
      have htk : w.take (j + 1) = w.take j ++ [w[j]] := (List.take_append_getElem hjl).symm
      obtain ⟨x, hx⟩ : ∃ x, w[j] = x := ⟨_, rfl⟩
      obtain ⟨L, hL⟩ : ∃ L, w.take j = L := ⟨_, rfl⟩
      have hLl : L.length < w.length := by rw [← hL, List.length_take]; omega
      rw [hx] at hg htk
      rw [hL] at htk ⊢
      repeat (first | refine sc rfl ?_ | refine so rfl ?_ | refine sb rfl ?_)
      refine ⟨by omega, ?_⟩
      simp only [Int.toNat_natCast, hg]
      repeat (first | refine sc rfl ?_ | refine so rfl ?_ | refine sb rfl ?_)
      refine O_call (ours_c x) (by rfl) (by rfl) (by rfl) (by rfl) (fun r hr => ?_)
      subst hr
      repeat (first | refine sc rfl ?_ | refine so rfl ?_ | refine sb rfl ?_)
      refine O_le _ (Le.freeze 51 rfl rfl) ?_
      refine O_appendV 0 (m2 := 1) (m3 := (L ++ [x]).length) (row3 := fun q => Wt.c ((L ++ [x]).getD q default)) rfl rfl rfl rfl rfl rfl (fun q hq => ?_) rfl (by show (L.length + 1) * 48 ≤ 140737488355328; omega) (by show L.length + 1 ≤ maxLen; simp only [maxLen]; omega) (by simp) (fun q hq => ?_) (fun v' hv' => ?_)
      · have h0 : q = 0 := by have : q < 1 := hq; omega
        subst h0; rfl
      · rw [getD_snoc L x q hq]
        unfold appRow
        by_cases hqk : q < L.length
        · rw [if_pos hqk, if_pos hqk]
        · rw [if_neg hqk, if_neg hqk]
          have : q = L.length := by simp at hq; omega
          subst this
          rw [Nat.sub_self]; rfl
      obtain ⟨g9, cc9, rfl⟩ := hv'.resolve_left (fun h => by simp at h)
      repeat (first | refine sc rfl ?_ | refine so rfl ?_ | refine sb rfl ?_)
      rw [w64 (x := (j : Int) + 1) (by omega) (by omega)]
      refine ⟨(j + 1, HD g9 (L ++ [x]).length cc9), ⟨by simp only []; omega, _, _, _, rfl⟩, by simp only []; omega, ?_⟩
      simp only []
      rw [htk]
      exact Le.pick [0] ⟨rfl, rfl, rfl, rfl, rfl, trivial⟩ rfl
    · obtain rfl : j = w.length := by omega
      rw [List.take_length]
      refine C_le _ (Le.frVec 0 (fun i => Wt.c (w.getD i default)) rfl (fun i hi => rfl)) ?_
      refine C_le _ (Le.slotA 0 7 rfl rfl) ?_
      have hq := hpl l hl4
      have hlen : ((runR l).os.map (·.w)).length ≤ 9223372036854775807 := by
        have := (runR_ok l 0 ⟨⟨List.replicate 9 default⟩, []⟩ (by simp) (Nat.le_refl _)).2
        rw [List.length_map]
        unfold runR
        omega
      repeat (first | refine sc rfl ?_ | refine so rfl ?_ | refine sb rfl ?_)
      refine O_call (OfB_c l (by omega) hb) (by rfl) (by rfl) (by rfl) (by rfl) (fun r hr => ?_)
      subst hr
      rw [hq]
      repeat (first | refine sc rfl ?_ | refine so rfl ?_ | refine sb rfl ?_)
      refine O_call (OfR_c l hl4 hb) (by rfl) (by rfl) (by rfl) (by rfl) (fun r hr => ?_)
      subst hr
      repeat (first | refine sc rfl ?_ | refine so rfl ?_ | refine sb rfl ?_)
      refine O_call (alike_c _ hlen) (by rfl) (by rfl) (by rfl) (by rfl) (fun r hr => ?_)
      subst hr
      repeat (first | refine sc rfl ?_ | refine so rfl ?_ | refine sb rfl ?_)
      refine O_call (lateB_c w (by omega)) (by rfl) (by rfl) (by rfl) (by rfl) (fun r hr => ?_)
      subst hr
      repeat (first | refine sc rfl ?_ | refine so rfl ?_ | refine sb rfl ?_)
      refine O_call (lateR_c w (by omega)) (by rfl) (by rfl) (by rfl) (by rfl) (fun r hr => ?_)
      subst hr
      repeat (first | refine sc rfl ?_ | refine so rfl ?_ | refine sb rfl ?_)
      have hll : (lateF w).length ≤ w.length := lateFrom_len w _ _
      refine O_call (ints_c (lateF w) (by omega)) (by rfl) (by rfl) (by rfl) (by rfl) (fun r hr => ?_)
      subst hr
      repeat (first | refine sc rfl ?_ | refine so rfl ?_ | refine sb rfl ?_)
      refine O_call awake46_c (by rfl) (by rfl) (by rfl) (by rfl) (fun r hr => ?_)
      subst hr
      repeat (first | refine sc rfl ?_ | refine so rfl ?_ | refine sb rfl ?_)
      exact ⟨_, rfl, rfl, rfl⟩
end Go.Proofs

/- The plain law of the bound: the two books. -/
set_option linter.unusedSimpArgs false
set_option linter.unusedVariables false
namespace Go.Proofs
open Go.Sy Go.Lib

structure BkRel (m : List (Int × At)) (k : Bk) : Prop where
  k9 : k.l.length = 9
  es : BkOK m
  z : (k.l.getD 0 default).lives = false
  lk : ∀ w : Nat, 1 ≤ w → w ≤ 8 → lookT (w : Int) m = if (k.l.getD w default).lives = true then some ((k.l.getD w default).conf, (k.l.getD w default).rests) else none
theorem rOfF_at (k : Bk) (w : Nat) (h : w ≤ 8) : rOfF k (w : Int) = k.l.getD w default := by
  unfold rOfF; rw [if_neg (by omega)]; rfl
theorem bkCheck_rel {es : List (Int × At)} {k : Bk} (h : BkRel es k) (o : Ord) : bkCheckF es o = rCheckF k o := by
  unfold bkCheckF rCheckF
  by_cases h0 : formF o ≠ 0
  · rw [if_pos h0, if_pos h0]
  rw [if_neg h0, if_neg h0]
  have hf : ¬(o.op < 1 ∨ 6 < o.op ∨ o.owner < 1 ∨ 8 < o.owner) := fun hh => h0 (by rw [formF_bad hh]; decide)
  obtain ⟨w, hw⟩ : ∃ w : Nat, o.owner = (w : Int) := ⟨o.owner.toNat, by omega⟩
  rw [hw, rOfF_at k w (by omega), h.lk w (by omega) (by omega)]
  obtain ⟨t, ht⟩ : ∃ t, k.l.getD w default = t := ⟨_, rfl⟩
  rw [ht]
  by_cases h1 : o.op = 1
  · cases hl : t.lives <;> simp [h1]
  · cases hl : t.lives <;> simp [h1]
theorem lookT_updT (k j : Int) (x : At) : ∀ es : List (Int × At), lookT j (updT k x es) = if k = j then some x else lookT j es
  | [] => by simp [updT, lookT]
  | (i, y) :: r => by
    simp only [updT]
    by_cases h : i = k
    · subst h
      rw [if_pos rfl]
      simp only [lookT]
      by_cases h2 : i = j
      · rw [if_pos h2, if_pos h2]
      · rw [if_neg h2, if_neg h2, if_neg h2]
    · rw [if_neg h]
      simp only [lookT]
      rw [lookT_updT k j x r]
      by_cases h2 : i = j
      · rw [if_pos h2, if_pos h2, if_neg (fun h3 => h (h2.trans h3.symm))]
      · rw [if_neg h2, if_neg h2]
theorem lookT_none {j : Int} : ∀ {es : List (Int × At)}, j ∉ es.map (·.1) → lookT j es = none
  | [], _ => rfl
  | (i, y) :: r, h => by
    simp only [List.map_cons, List.mem_cons, not_or] at h
    simp only [lookT]
    rw [if_neg (fun e => h.1 e.symm)]
    exact lookT_none h.2
theorem lookT_delT (k j : Int) : ∀ es : List (Int × At), (es.map (·.1)).Nodup → lookT j (delT k es) = if k = j then none else lookT j es
  | [], _ => by simp [delT, lookT]
  | (i, y) :: r, hn => by
    simp only [List.map_cons, List.nodup_cons] at hn
    simp only [delT]
    by_cases h : i = k
    · subst h
      rw [if_pos rfl]
      by_cases h2 : i = j
      · subst h2; rw [if_pos rfl]; exact lookT_none hn.1
      · rw [if_neg h2]; simp only [lookT]; rw [if_neg h2]
    · rw [if_neg h]
      simp only [lookT]
      rw [lookT_delT k j r hn.2]
      by_cases h2 : i = j
      · rw [if_pos h2, if_pos h2, if_neg (fun h3 => h (h2.trans h3.symm))]
      · rw [if_neg h2, if_neg h2]
theorem getD_setT (l : List Tn) (w j : Nat) (x : Tn) (h : j < l.length) : (l.set w x).getD j default = if j = w then x else l.getD j default := by
  simp only [List.getD_eq_getElem?_getD, List.getElem?_set]
  by_cases hij : w = j
  · subst hij; simp [h]
  · rw [if_neg hij, if_neg (fun h => hij h.symm)]
theorem bkDo_rel {es : List (Int × At)} {k : Bk} (h : BkRel es k) (o : Ord) : BkRel (bkDoF es o).1 (rDoF k o).1 := by
  have hes := h.es.doF o
  have hk9 : (rDoF k o).1.l.length = 9 := by rw [← h.k9]; exact rDoF_len k o
  unfold bkDoF rDoF at *
  rw [bkCheck_rel h] at *
  by_cases hc : rCheckF k o ≠ 0
  · rw [if_pos hc, if_pos hc]; exact h
  rw [if_neg hc] at hes hk9 ⊢
  rw [if_neg hc]
  have hf : ¬(o.op < 1 ∨ 6 < o.op ∨ o.owner < 1 ∨ 8 < o.owner) := fun hh => hc (by unfold rCheckF; rw [if_pos (by rw [formF_bad hh]; decide)]; decide)
  obtain ⟨w, hw⟩ : ∃ w : Nat, o.owner = (w : Int) := ⟨o.owner.toNat, by omega⟩
  have hw18 : 1 ≤ w ∧ w ≤ 8 := by omega
  have hlv : o.op ≠ 1 → (k.l.getD w default).lives = true := fun h1 => by
    refine Classical.byContradiction (fun h2 => hc ?_)
    unfold rCheckF
    have h3 : (k.l.getD w default).lives = false := by simpa using h2
    rw [hw, rOfF_at k w (by omega), h3]
    by_cases h0 : formF o ≠ 0
    · rw [if_pos h0]; decide
    · rw [if_neg h0]; simp [h1]
  rw [hw, h.lk w (by omega) (by omega)] at hes
  rw [hw, rOfF_at k w (by omega), Int.toNat_natCast] at hk9
  rw [hw, rOfF_at k w (by omega), h.lk w (by omega) (by omega), Int.toNat_natCast]
  obtain ⟨t, ht⟩ : ∃ t, k.l.getD w default = t := ⟨_, rfl⟩
  rw [ht] at hes hk9 hlv ⊢
  refine ⟨hk9, hes, ?_, ?_⟩
  · show ((k.l.set w (rDoT o t)).getD 0 default).lives = false
    rw [getD_setT _ _ _ _ (by rw [h.k9]; omega), if_neg (by omega)]
    exact h.z
  · intro j hj1 hj8
    show lookT (j : Int) _ = if ((k.l.set w (rDoT o t)).getD j default).lives = true then some (((k.l.set w (rDoT o t)).getD j default).conf, ((k.l.set w (rDoT o t)).getD j default).rests) else none
    rw [getD_setT _ _ _ _ (by rw [h.k9]; omega)]
    by_cases h4 : o.op = 4
    · rw [if_pos h4]
      show lookT (j : Int) (delT (w : Int) es) = _
      rw [lookT_delT _ _ _ h.es.1]
      by_cases hj : j = w
      · subst hj
        rw [if_pos rfl, if_pos rfl]
        have : rDoT o t = default := by unfold rDoT; rw [if_neg (by omega), if_neg (by omega), if_neg (by omega), if_pos h4]
        rw [this]; rfl
      · rw [if_neg (by omega), if_neg hj]
        exact h.lk j hj1 hj8
    · rw [if_neg h4]
      show lookT (j : Int) (updT (w : Int) _ es) = _
      rw [lookT_updT]
      by_cases hj : j = w
      · subst hj
        rw [if_pos rfl, if_pos rfl]
        by_cases h1 : o.op = 1
        · unfold doT rDoT
          rw [if_pos h1, if_pos h1]; rfl
        · have hl := hlv h1
          rw [if_pos hl]
          unfold doT rDoT
          rw [if_neg h1, if_neg h1]
          by_cases h2 : o.op = 2
          · rw [if_pos (Or.inl h2), if_pos h2]; simp [hl, h2]
          · by_cases h3 : o.op = 3
            · rw [if_pos (Or.inr h3), if_neg h2, if_pos h3]; simp [hl, h3]
            · rw [if_neg (by omega), if_neg h2, if_neg h3, if_neg h4]
              by_cases h6 : o.op = 6
              · rw [if_pos h6, if_pos h6]; simp [hl]
              · rw [if_neg h6, if_neg h6]; simp [hl]
      · rw [if_neg (by omega), if_neg hj]
        exact h.lk j hj1 hj8
end Go.Proofs

/- The plain law of the bound: who lives. -/
set_option linter.unusedSimpArgs false
set_option linter.unusedVariables false
namespace Go.Proofs
open Go.Sy Go.Lib

theorem mem_keys (j : Int) : ∀ es : List (Int × At), j ∈ es.map (·.1) ↔ (lookT j es).isSome = true
  | [] => by simp [lookT]
  | (i, y) :: r => by
    simp only [List.map_cons, List.mem_cons, lookT]
    by_cases h : i = j
    · rw [if_pos h]; simp [h]
    · rw [if_neg h, ← mem_keys j r]
      exact ⟨fun hh => hh.resolve_left (fun e => h e.symm), .inr⟩
theorem all_rel {es : List (Int × At)} {k : Bk} (h : BkRel es k) : bkAllF es = rAllF k := by
  have hp : (es.map (·.1)).Perm (rAllF k) := by
    refine (List.perm_ext_iff_of_nodup h.es.1 ?_).2 (fun x => ?_)
    · unfold rAllF
      refine List.pairwise_map.2 ((List.nodup_range.filter _).imp ?_)
      intro a b hne e
      exact hne (by omega)
    · rw [mem_keys]
      unfold rAllF
      simp only [List.mem_map, List.mem_filter, List.mem_range, h.k9]
      constructor
      · intro hs
        have hm := (mem_keys x es).2 hs
        have hb := h.es.keys x hm
        refine ⟨x.toNat, ⟨by omega, ?_⟩, by omega⟩
        have hl := h.lk x.toNat (by omega) (by omega)
        rw [show ((x.toNat : Nat) : Int) = x by omega] at hl
        rw [hl] at hs
        split at hs
        · rename_i hh; exact hh
        · cases hs
      · rintro ⟨i, ⟨hi, hl⟩, rfl⟩
        have h0 : i ≠ 0 := fun e => by subst e; rw [h.z] at hl; cases hl
        rw [h.lk i (by omega) (by omega), if_pos hl]; rfl
  unfold bkAllF
  have e1 : (es.map (·.1)).mergeSort (fun x y => decide (x ≤ y)) = (rAllF k).mergeSort (fun x y => decide (x ≤ y)) := mergeSort_of_perm_i hp
  rw [e1]
  refine List.mergeSort_of_pairwise ?_
  unfold rAllF
  refine List.pairwise_map.2 ((List.pairwise_lt_range.filter _).imp ?_)
  intro a b hab
  exact decide_eq_true (by omega)
end Go.Proofs
