/- Contracts of blank: one, by. -/
import Derived.Test.YtgmdpfoccnalnaaGreatE13
import Derived.JoinedOf
import Derived.HandedShaped
import Derived.Test.YtgmdpfoccnalnaaGreatRows
set_option linter.unusedSimpArgs false
set_option linter.unusedVariables false
set_option maxRecDepth 100000
namespace Go.Proofs
open Go.Sy Go.Lib

theorem union_A (b : Nat) (l : List Dcl) (R : List Fld) (hR : R.length ≤ 1000) (d : Nat) (hd : d ≤ 1000) (g : Ty → Val × Bool)
    (hby : ∀ f, f ∈ R → FnA Tryz.prog 132 [MK b, .agg (Ty.c f.ty), I64 (d : Nat)] [dscS b l] (BR b l (g f.ty))) :
    FnA Tryz.prog 205 [MK b, SL 5 Fld.c R, I64 ((d + 1 : Nat) : Int)] [dscS b l] (BR b l (firF g R)) := by
  obtain ⟨q, hq⟩ : ∃ q, firF g R = q := ⟨_, rfl⟩
  rw [hq]
  refine FnA.intro Tryz.tabOK Tryz.wide_ Tryz.func205 rfl (by decide) rfl (fun X => ?_)
  repeat (first | refine sc rfl ?_ | refine so rfl ?_ | refine sb rfl ?_)
  refine C_loop (fun i : Nat => ⟨[(0, MK b), (2, I64 ((d + 1 : Nat) : Int)), (6, .bp 6 0), (12, SL 5 Fld.c R), (13, I64 (R.length : Nat)), (14, I64 (i : Nat))],
      [.box 6 70 zC, .abs (dscS b l)]⟩)
    (fun i => i ≤ R.length ∧ firF g (R.drop i) = q) (fun i => R.length - i) 0 ⟨Nat.zero_le _, hq⟩ (Le.pick [0, 0] ⟨rfl, rfl, rfl, rfl, rfl, rfl, trivial⟩ rfl) ?_
  rintro i ⟨hi, hF⟩
  repeat (first | refine sc rfl ?_ | refine so rfl ?_ | refine sb rfl ?_)
  refine C_if rfl (fun m1 => ?_) (fun m1 => ?_) <;> simp only [decide_eq_true_eq, decide_eq_false_iff_not, Bool.not_eq_true', Bool.not_eq_false', beq_iff_eq, beq_eq_false_iff_ne, bne_iff_ne, ne_eq, bne_eq_false_iff_eq, Decidable.not_not] at m1
  · have hil : i < R.length := by omega
    have hmem := mem_getDf hil
    have hdrop : R.drop i = R.getD i default :: R.drop (i + 1) := by rw [List.drop_eq_getElem_cons hil, getD_at hil]
    rw [hdrop] at hF
    simp only [firF] at hF
    repeat (first | refine sc rfl ?_ | refine so rfl ?_ | refine sb rfl ?_)
    refine ⟨by omega, ?_⟩
    rw [Int.toNat_natCast]
    repeat (first | refine sc rfl ?_ | refine so rfl ?_ | refine sb rfl ?_)
    rw [w64 (x := ((d + 1 : Nat) : Int) - 1) (by omega) (by omega), show (((d + 1 : Nat) : Int) - 1) = ((d : Nat) : Int) by omega]
    refine O_callA [2] (hby (R.getD i default) hmem) (by rfl) (by rfl) (by rfl) (by rfl) (by rfl) ?_
    rintro r cs' ⟨rfl, rfl⟩
    obtain ⟨y, hy⟩ : ∃ y, g (R.getD i default).ty = y := ⟨_, rfl⟩
    rw [hy] at hF ⊢
    obtain ⟨w, ok⟩ := y
    cases ok with
    | false =>
      rw [if_neg (fun h => by cases h)] at hF
      repeat (first | refine sc rfl ?_ | refine so rfl ?_ | refine sb rfl ?_)
      refine C_false rfl rfl ?_
      repeat (first | refine sc rfl ?_ | refine so rfl ?_ | refine sb rfl ?_)
      rw [w64 (x := (i : Int) + 1) (by omega) (by omega)]
      exact ⟨i + 1, ⟨hil, hF⟩, by omega, Le.pick [3, 1] ⟨rfl, rfl, rfl, rfl, rfl, rfl, trivial⟩ rfl⟩
    | true =>
      rw [if_pos rfl] at hF
      repeat (first | refine sc rfl ?_ | refine so rfl ?_ | refine sb rfl ?_)
      refine C_true rfl rfl ?_
      have e1 : ∀ j, j < 1 → chunkRow 1 [I64 (R.getD i default).tag] j = INTc ([(R.getD i default).tag].getD j default) := fun j hj => by
        obtain rfl : j = 0 := by omega
        rfl
      have e2 : ∀ j, j < 1 → chunkRow 5 (Val.c w) j = Val.rows [w] j := fun j hj => by
        obtain rfl : j = 0 := by omega
        rw [Val.rows_eq [w] 0 (by simp)]
        rfl
      repeat (first | refine O_le _ (Le.freeze 30 rfl rfl) ?_ | refine O_le _ (Le.freeze 32 rfl rfl) ?_ | refine O_le _ (Le.one 30 (x := .sl 1 1 (chunkRow 1 [I64 (R.getD i default).tag])) (SL 1 INTc [(R.getD i default).tag]) rfl (.row e1)) ?_ | refine O_le _ (Le.one 32 (x := .sl 1 5 (chunkRow 5 (Val.c w))) (.sl 1 5 (Val.rows [w])) rfl (.row e2)) ?_ | refine sc rfl ?_ | refine so rfl ?_ | refine sb rfl ?_)
      exact ⟨_, [_], _, rfl, pickA_perm (is := [2]) (As := [_]) rfl, rfl, by rw [← hF]; rfl, rfl⟩
  · obtain rfl : i = R.length := by omega
    rw [List.drop_length] at hF
    repeat (first | refine O_le _ (Le.agg 35 (Val.c zV) rfl (.cons .refl (.cons .refl (.cons .refl (.cons .nil (.cons .nil .nil)))))) ?_ | refine sc rfl ?_ | refine so rfl ?_ | refine sb rfl ?_)
    first
      | exact ⟨_, [_], _, rfl, pickA_perm (is := [0]) (As := [_]) rfl, rfl, by rw [← hF]; rfl, rfl⟩
      | exact ⟨_, [_], _, rfl, pickA_perm (is := [1]) (As := [_]) rfl, rfl, by rw [← hF]; rfl, rfl⟩
      | exact ⟨_, [_], _, rfl, pickA_perm (is := [2]) (As := [_]) rfl, rfl, by rw [← hF]; rfl, rfl⟩
      | exact ⟨_, [_], _, rfl, pickA_perm (is := [3]) (As := [_]) rfl, rfl, by rw [← hF]; rfl, rfl⟩
      | exact ⟨_, [_], _, rfl, pickA_perm (is := [4]) (As := [_]) rfl, rfl, by rw [← hF]; rfl, rfl⟩

theorem rowsU_ne {l : List Dcl} (hW : WellL l) (hex : ∃ Rs, RowsOK l Rs) {nm : List UInt8} (hk : kindL l nm = 3) : 0 < (rowsU l nm).length := by
  have hne : ∃ f, f ∈ fldsL l nm := by
    unfold fldsL
    unfold kindL at hk
    cases hf : fndL nm l with
    | none => rw [hf] at hk; exact absurd (show (0 : Int) = 3 from hk) (by decide)
    | some j =>
      rw [hf] at hk
      have hd := (hW j (fndL_lt hf)).some_ (.inr hk)
      exact List.exists_mem_of_ne_nil _ hd
  obtain ⟨f, hf⟩ := hne
  have := (rowsU_mem hW hex).2 hf
  exact List.length_pos_of_mem this

theorem by_A (b : Nat) (l : List Dcl) (hP : Prep l) (hW : WellL l) : ∀ (d : Nat), d ≤ 1000 → ∀ (m : Nat) (t : Ty), SizeOf.sizeOf t ≤ m → FewT t →
    FnA Tryz.prog 132 [MK b, .agg (Ty.c t), I64 (d : Nat)] [dscS b l] (fun r cs' => BR b l (byF l d t) r cs' ∧ (1 ≤ d → t.kind = 6 → ∃ Rs, RowsOK l Rs))
  | 0, _, _, t, _, _ => by
    refine FnA.intro Tryz.tabOK Tryz.wide_ Tryz.func132 rfl (by decide) rfl (fun X => ?_)
    repeat (first | refine sc rfl ?_ | refine so rfl ?_ | refine sb rfl ?_)
    refine C_true rfl rfl ?_
    repeat (first | refine O_le _ (Le.agg 11 (Val.c zV) rfl (.cons .refl (.cons .refl (.cons .refl (.cons .nil (.cons .nil .nil)))))) ?_ | refine sc rfl ?_ | refine so rfl ?_ | refine sb rfl ?_)
    first
      | exact ⟨_, [_], _, rfl, pickA_perm (is := [0]) (As := [_]) rfl, rfl, ⟨rfl, rfl⟩, fun h => absurd h (by decide)⟩
      | exact ⟨_, [_], _, rfl, pickA_perm (is := [1]) (As := [_]) rfl, rfl, ⟨rfl, rfl⟩, fun h => absurd h (by decide)⟩
      | exact ⟨_, [_], _, rfl, pickA_perm (is := [2]) (As := [_]) rfl, rfl, ⟨rfl, rfl⟩, fun h => absurd h (by decide)⟩
      | exact ⟨_, [_], _, rfl, pickA_perm (is := [3]) (As := [_]) rfl, rfl, ⟨rfl, rfl⟩, fun h => absurd h (by decide)⟩
      | exact ⟨_, [_], _, rfl, pickA_perm (is := [4]) (As := [_]) rfl, rfl, ⟨rfl, rfl⟩, fun h => absurd h (by decide)⟩
  | d + 1, hd, 0, t, hm, _ => by cases t; simp at hm
  | d + 1, hd, m + 1, t, hm, ⟨ht1, ht2⟩ => by
    refine FnA.intro Tryz.tabOK Tryz.wide_ Tryz.func132 rfl (by decide) rfl (fun X => ?_)
    repeat (first | refine sc rfl ?_ | refine so rfl ?_ | refine sb rfl ?_)
    refine C_false rfl (decide_eq_false (by omega)) ?_
    repeat (first | refine sc rfl ?_ | refine so rfl ?_ | refine sb rfl ?_)
    refine C_if rfl (fun k6 => ?_) (fun k6 => ?_) <;> simp only [decide_eq_true_eq, decide_eq_false_iff_not, Bool.not_eq_true', Bool.not_eq_false', beq_iff_eq, beq_eq_false_iff_ne, bne_iff_ne, ne_eq, bne_eq_false_iff_eq, Decidable.not_not] at k6
    · repeat (first | refine sc rfl ?_ | refine so rfl ?_ | refine sb rfl ?_)
      first
        | refine O_callA [0] (plain_A b l t k6 (d + 1) hd (namF l (byF l d)) (fun h => (by_A b l hP hW (d + 1) hd m (t.of.getD 0 default) (by have := of_lt (t := t) (i := 0) h; omega) (ht2 0 h)).mono (fun r c h => h.1))) (by rfl) (by rfl) (by rfl) (by rfl) (by rfl) ?_
        | refine O_callA [1] (plain_A b l t k6 (d + 1) hd (namF l (byF l d)) (fun h => (by_A b l hP hW (d + 1) hd m (t.of.getD 0 default) (by have := of_lt (t := t) (i := 0) h; omega) (ht2 0 h)).mono (fun r c h => h.1))) (by rfl) (by rfl) (by rfl) (by rfl) (by rfl) ?_
        | refine O_callA [2] (plain_A b l t k6 (d + 1) hd (namF l (byF l d)) (fun h => (by_A b l hP hW (d + 1) hd m (t.of.getD 0 default) (by have := of_lt (t := t) (i := 0) h; omega) (ht2 0 h)).mono (fun r c h => h.1))) (by rfl) (by rfl) (by rfl) (by rfl) (by rfl) ?_
        | refine O_callA [3] (plain_A b l t k6 (d + 1) hd (namF l (byF l d)) (fun h => (by_A b l hP hW (d + 1) hd m (t.of.getD 0 default) (by have := of_lt (t := t) (i := 0) h; omega) (ht2 0 h)).mono (fun r c h => h.1))) (by rfl) (by rfl) (by rfl) (by rfl) (by rfl) ?_
        | refine O_callA [4] (plain_A b l t k6 (d + 1) hd (namF l (byF l d)) (fun h => (by_A b l hP hW (d + 1) hd m (t.of.getD 0 default) (by have := of_lt (t := t) (i := 0) h; omega) (ht2 0 h)).mono (fun r c h => h.1))) (by rfl) (by rfl) (by rfl) (by rfl) (by rfl) ?_
      rintro r cs' ⟨rfl, rfl⟩
      repeat (first | refine sc rfl ?_ | refine so rfl ?_ | refine sb rfl ?_)
      first
        | exact ⟨_, [_], _, rfl, pickA_perm (is := [0]) (As := [_]) rfl, rfl, ⟨rfl, rfl⟩, fun _ h => absurd h k6⟩
        | exact ⟨_, [_], _, rfl, pickA_perm (is := [1]) (As := [_]) rfl, rfl, ⟨rfl, rfl⟩, fun _ h => absurd h k6⟩
        | exact ⟨_, [_], _, rfl, pickA_perm (is := [2]) (As := [_]) rfl, rfl, ⟨rfl, rfl⟩, fun _ h => absurd h k6⟩
        | exact ⟨_, [_], _, rfl, pickA_perm (is := [3]) (As := [_]) rfl, rfl, ⟨rfl, rfl⟩, fun _ h => absurd h k6⟩
        | exact ⟨_, [_], _, rfl, pickA_perm (is := [4]) (As := [_]) rfl, rfl, ⟨rfl, rfl⟩, fun _ h => absurd h k6⟩
    have hbF : byF l (d + 1) t = namF l (byF l d) t.name := by
      simp only [byF]
      rw [plF_eq, if_pos k6]
    obtain ⟨q, hq⟩ : ∃ q, namF l (byF l d) t.name = q := ⟨_, rfl⟩
    rw [hbF, hq]
    unfold namF at hq
    repeat (first | refine sc rfl ?_ | refine so rfl ?_ | refine sb rfl ?_)
    refine C_le _ (Le.freezebox 4 rfl rfl rfl) ?_
    refine C_drawT 20 6 rfl (by kernel_rfl) (by kernel_rfl) ?_
    repeat (first | refine sd rfl ?_ | refine sdb rfl ?_ | refine sds rfl ?_)
    repeat (first | refine sc rfl ?_ | refine so rfl ?_ | refine sb rfl ?_)
    first
      | refine O_callA [0] (DRows_X b l hP hW t.name) (by rfl) (by rfl) (by rfl) (by rfl) (by rfl) ?_
      | refine O_callA [1] (DRows_X b l hP hW t.name) (by rfl) (by rfl) (by rfl) (by rfl) (by rfl) ?_
      | refine O_callA [2] (DRows_X b l hP hW t.name) (by rfl) (by rfl) (by rfl) (by rfl) (by rfl) ?_
      | refine O_callA [3] (DRows_X b l hP hW t.name) (by rfl) (by rfl) (by rfl) (by rfl) (by rfl) ?_
      | refine O_callA [4] (DRows_X b l hP hW t.name) (by rfl) (by rfl) (by rfl) (by rfl) (by rfl) ?_
    rintro r cs' ⟨⟨rfl, hex⟩, rfl⟩
    have hfew := fewU (nm := t.name) hP hW hex
    repeat (first | refine sc rfl ?_ | refine so rfl ?_ | refine sb rfl ?_)
    refine C_drawT 20 6 rfl (by kernel_rfl) (by kernel_rfl) ?_
    repeat (first | refine sd rfl ?_ | refine sdb rfl ?_ | refine sds rfl ?_)
    repeat (first | refine sc rfl ?_ | refine so rfl ?_ | refine sb rfl ?_)
    first
      | refine O_callA [0] (DKind_S b l hP t.name) (by rfl) (by rfl) (by rfl) (by rfl) (by rfl) ?_
      | refine O_callA [1] (DKind_S b l hP t.name) (by rfl) (by rfl) (by rfl) (by rfl) (by rfl) ?_
      | refine O_callA [2] (DKind_S b l hP t.name) (by rfl) (by rfl) (by rfl) (by rfl) (by rfl) ?_
      | refine O_callA [3] (DKind_S b l hP t.name) (by rfl) (by rfl) (by rfl) (by rfl) (by rfl) ?_
      | refine O_callA [4] (DKind_S b l hP t.name) (by rfl) (by rfl) (by rfl) (by rfl) (by rfl) ?_
    rintro r cs' ⟨rfl, rfl⟩
    repeat (first | refine sc rfl ?_ | refine so rfl ?_ | refine sb rfl ?_)
    refine C_if rfl (fun k3 => ?_) (fun k3 => ?_) <;> simp only [decide_eq_true_eq, decide_eq_false_iff_not, Bool.not_eq_true', Bool.not_eq_false', beq_iff_eq, beq_eq_false_iff_ne, bne_iff_ne, ne_eq, bne_eq_false_iff_eq, Decidable.not_not] at k3
    · have hne := rowsU_ne hW hex k3
      repeat (first | refine sc rfl ?_ | refine so rfl ?_ | refine sb rfl ?_)
      refine ⟨by omega, ?_⟩
      repeat (first | refine O_le _ (Le.agg 41 (Val.c ⟨6, ((rowsU l t.name).getD 0 default).tag, [], [], []⟩) rfl (.cons .refl (.cons .refl (.cons .refl (.cons .nil (.cons .nil .nil)))))) ?_ | refine sc rfl ?_ | refine so rfl ?_ | refine sb rfl ?_)
      first
        | exact ⟨_, [_], _, rfl, pickA_perm (is := [0]) (As := [_]) rfl, rfl, ⟨by rw [← hq, if_pos k3]; rfl, rfl⟩, fun _ _ => hex⟩
        | exact ⟨_, [_], _, rfl, pickA_perm (is := [1]) (As := [_]) rfl, rfl, ⟨by rw [← hq, if_pos k3]; rfl, rfl⟩, fun _ _ => hex⟩
        | exact ⟨_, [_], _, rfl, pickA_perm (is := [2]) (As := [_]) rfl, rfl, ⟨by rw [← hq, if_pos k3]; rfl, rfl⟩, fun _ _ => hex⟩
        | exact ⟨_, [_], _, rfl, pickA_perm (is := [3]) (As := [_]) rfl, rfl, ⟨by rw [← hq, if_pos k3]; rfl, rfl⟩, fun _ _ => hex⟩
        | exact ⟨_, [_], _, rfl, pickA_perm (is := [4]) (As := [_]) rfl, rfl, ⟨by rw [← hq, if_pos k3]; rfl, rfl⟩, fun _ _ => hex⟩
    repeat (first | refine sc rfl ?_ | refine so rfl ?_ | refine sb rfl ?_)
    refine C_if rfl (fun k1 => ?_) (fun k1 => ?_) <;> simp only [decide_eq_true_eq, decide_eq_false_iff_not, Bool.not_eq_true', Bool.not_eq_false', beq_iff_eq, beq_eq_false_iff_ne, bne_iff_ne, ne_eq, bne_eq_false_iff_eq, Decidable.not_not] at k1
    · repeat (first | refine sc rfl ?_ | refine so rfl ?_ | refine sb rfl ?_)
      first
        | refine O_callA [0] (fields_A b l (rowsU l t.name) hfew.1 d (by omega) (byF l d) (fun f hf => (by_A b l hP hW d (by omega) _ f.ty (Nat.le_refl _) (hfew.2 f hf)).mono (fun r c h => h.1))) (by rfl) (by rfl) (by rfl) (by rfl) (by rfl) ?_
        | refine O_callA [1] (fields_A b l (rowsU l t.name) hfew.1 d (by omega) (byF l d) (fun f hf => (by_A b l hP hW d (by omega) _ f.ty (Nat.le_refl _) (hfew.2 f hf)).mono (fun r c h => h.1))) (by rfl) (by rfl) (by rfl) (by rfl) (by rfl) ?_
        | refine O_callA [2] (fields_A b l (rowsU l t.name) hfew.1 d (by omega) (byF l d) (fun f hf => (by_A b l hP hW d (by omega) _ f.ty (Nat.le_refl _) (hfew.2 f hf)).mono (fun r c h => h.1))) (by rfl) (by rfl) (by rfl) (by rfl) (by rfl) ?_
        | refine O_callA [3] (fields_A b l (rowsU l t.name) hfew.1 d (by omega) (byF l d) (fun f hf => (by_A b l hP hW d (by omega) _ f.ty (Nat.le_refl _) (hfew.2 f hf)).mono (fun r c h => h.1))) (by rfl) (by rfl) (by rfl) (by rfl) (by rfl) ?_
        | refine O_callA [4] (fields_A b l (rowsU l t.name) hfew.1 d (by omega) (byF l d) (fun f hf => (by_A b l hP hW d (by omega) _ f.ty (Nat.le_refl _) (hfew.2 f hf)).mono (fun r c h => h.1))) (by rfl) (by rfl) (by rfl) (by rfl) (by rfl) ?_
      rintro r cs' ⟨rfl, rfl⟩
      repeat (first | refine sc rfl ?_ | refine so rfl ?_ | refine sb rfl ?_)
      first
        | exact ⟨_, [_], _, rfl, pickA_perm (is := [0]) (As := [_]) rfl, rfl, ⟨by rw [← hq, if_neg k3, if_pos k1]; rfl, rfl⟩, fun _ _ => hex⟩
        | exact ⟨_, [_], _, rfl, pickA_perm (is := [1]) (As := [_]) rfl, rfl, ⟨by rw [← hq, if_neg k3, if_pos k1]; rfl, rfl⟩, fun _ _ => hex⟩
        | exact ⟨_, [_], _, rfl, pickA_perm (is := [2]) (As := [_]) rfl, rfl, ⟨by rw [← hq, if_neg k3, if_pos k1]; rfl, rfl⟩, fun _ _ => hex⟩
        | exact ⟨_, [_], _, rfl, pickA_perm (is := [3]) (As := [_]) rfl, rfl, ⟨by rw [← hq, if_neg k3, if_pos k1]; rfl, rfl⟩, fun _ _ => hex⟩
        | exact ⟨_, [_], _, rfl, pickA_perm (is := [4]) (As := [_]) rfl, rfl, ⟨by rw [← hq, if_neg k3, if_pos k1]; rfl, rfl⟩, fun _ _ => hex⟩
    repeat (first | refine sc rfl ?_ | refine so rfl ?_ | refine sb rfl ?_)
    refine C_if rfl (fun k2 => ?_) (fun k2 => ?_) <;> simp only [decide_eq_true_eq, decide_eq_false_iff_not, Bool.not_eq_true', Bool.not_eq_false', beq_iff_eq, beq_eq_false_iff_ne, bne_iff_ne, ne_eq, bne_eq_false_iff_eq, Decidable.not_not] at k2
    · repeat (first | refine sc rfl ?_ | refine so rfl ?_ | refine sb rfl ?_)
      first
        | refine O_callA [0] (union_A b l (rowsU l t.name) hfew.1 d (by omega) (byF l d) (fun f hf => (by_A b l hP hW d (by omega) _ f.ty (Nat.le_refl _) (hfew.2 f hf)).mono (fun r c h => h.1))) (by rfl) (by rfl) (by rfl) (by rfl) (by rfl) ?_
        | refine O_callA [1] (union_A b l (rowsU l t.name) hfew.1 d (by omega) (byF l d) (fun f hf => (by_A b l hP hW d (by omega) _ f.ty (Nat.le_refl _) (hfew.2 f hf)).mono (fun r c h => h.1))) (by rfl) (by rfl) (by rfl) (by rfl) (by rfl) ?_
        | refine O_callA [2] (union_A b l (rowsU l t.name) hfew.1 d (by omega) (byF l d) (fun f hf => (by_A b l hP hW d (by omega) _ f.ty (Nat.le_refl _) (hfew.2 f hf)).mono (fun r c h => h.1))) (by rfl) (by rfl) (by rfl) (by rfl) (by rfl) ?_
        | refine O_callA [3] (union_A b l (rowsU l t.name) hfew.1 d (by omega) (byF l d) (fun f hf => (by_A b l hP hW d (by omega) _ f.ty (Nat.le_refl _) (hfew.2 f hf)).mono (fun r c h => h.1))) (by rfl) (by rfl) (by rfl) (by rfl) (by rfl) ?_
        | refine O_callA [4] (union_A b l (rowsU l t.name) hfew.1 d (by omega) (byF l d) (fun f hf => (by_A b l hP hW d (by omega) _ f.ty (Nat.le_refl _) (hfew.2 f hf)).mono (fun r c h => h.1))) (by rfl) (by rfl) (by rfl) (by rfl) (by rfl) ?_
      rintro r cs' ⟨rfl, rfl⟩
      repeat (first | refine sc rfl ?_ | refine so rfl ?_ | refine sb rfl ?_)
      first
        | exact ⟨_, [_], _, rfl, pickA_perm (is := [0]) (As := [_]) rfl, rfl, ⟨by rw [← hq, if_neg k3, if_neg k1, if_pos k2]; rfl, rfl⟩, fun _ _ => hex⟩
        | exact ⟨_, [_], _, rfl, pickA_perm (is := [1]) (As := [_]) rfl, rfl, ⟨by rw [← hq, if_neg k3, if_neg k1, if_pos k2]; rfl, rfl⟩, fun _ _ => hex⟩
        | exact ⟨_, [_], _, rfl, pickA_perm (is := [2]) (As := [_]) rfl, rfl, ⟨by rw [← hq, if_neg k3, if_neg k1, if_pos k2]; rfl, rfl⟩, fun _ _ => hex⟩
        | exact ⟨_, [_], _, rfl, pickA_perm (is := [3]) (As := [_]) rfl, rfl, ⟨by rw [← hq, if_neg k3, if_neg k1, if_pos k2]; rfl, rfl⟩, fun _ _ => hex⟩
        | exact ⟨_, [_], _, rfl, pickA_perm (is := [4]) (As := [_]) rfl, rfl, ⟨by rw [← hq, if_neg k3, if_neg k1, if_pos k2]; rfl, rfl⟩, fun _ _ => hex⟩
    repeat (first | refine O_le _ (Le.agg 58 (Val.c zV) rfl (.cons .refl (.cons .refl (.cons .refl (.cons .nil (.cons .nil .nil)))))) ?_ | refine sc rfl ?_ | refine so rfl ?_ | refine sb rfl ?_)
    first
      | exact ⟨_, [_], _, rfl, pickA_perm (is := [0]) (As := [_]) rfl, rfl, ⟨by rw [← hq, if_neg k3, if_neg k1, if_neg k2]; rfl, rfl⟩, fun _ _ => hex⟩
      | exact ⟨_, [_], _, rfl, pickA_perm (is := [1]) (As := [_]) rfl, rfl, ⟨by rw [← hq, if_neg k3, if_neg k1, if_neg k2]; rfl, rfl⟩, fun _ _ => hex⟩
      | exact ⟨_, [_], _, rfl, pickA_perm (is := [2]) (As := [_]) rfl, rfl, ⟨by rw [← hq, if_neg k3, if_neg k1, if_neg k2]; rfl, rfl⟩, fun _ _ => hex⟩
      | exact ⟨_, [_], _, rfl, pickA_perm (is := [3]) (As := [_]) rfl, rfl, ⟨by rw [← hq, if_neg k3, if_neg k1, if_neg k2]; rfl, rfl⟩, fun _ _ => hex⟩
      | exact ⟨_, [_], _, rfl, pickA_perm (is := [4]) (As := [_]) rfl, rfl, ⟨by rw [← hq, if_neg k3, if_neg k1, if_neg k2]; rfl, rfl⟩, fun _ _ => hex⟩
end Go.Proofs

/- Contracts of blank: Type, Struct; the schema of declarations. -/
set_option linter.unusedSimpArgs false
set_option linter.unusedVariables false
set_option maxRecDepth 100000
namespace Go.Proofs
open Go.Sy Go.Lib

theorem typG_step (l : List Dcl) (t : Ty) (k n : Nat) : typG l t (k + 1) n = if (byF l (n + 1) t).2 = true then ((byF l (n + 1) t).1, ((n + 1 : Nat) : Int)) else typG l t k (n + 1) := rfl

theorem BType_A (b : Nat) (l : List Dcl) (hP : Prep l) (hW : WellL l) (t : Ty) (ht : FewT t) : FnA Tryz.prog 83 [PT b 0, .agg (Ty.c t)] [dscS b l]
    (fun r cs' => (r = .tup [.agg (Val.c (typG l t 8 0).1), I64 (typG l t 8 0).2] ∧ cs' = [dscS b l]) ∧ (t.kind = 6 → ∃ Rs, RowsOK l Rs)) := by
  obtain ⟨q, hq⟩ : ∃ q, typG l t 8 0 = q := ⟨_, rfl⟩
  rw [hq]
  refine FnA.intro Tryz.tabOK Tryz.wide_ Tryz.func83 rfl (by decide) rfl (fun X => ?_)
  repeat (first | refine sc rfl ?_ | refine so rfl ?_ | refine sb rfl ?_)
  refine C_le _ (Le.freezebox 6 rfl rfl rfl) ?_
  refine C_loop (fun i : Nat => ⟨[(0, PT b 0), (3, .bp 3 0), (4, .bp 4 0), (6, MK b), (13, I64 (i : Nat))], [.box 3 63 (Ty.c t), .box 4 70 zC, .abs (dscS b l)]⟩)
    (fun i => i ≤ 8 ∧ typG l t (8 - i) i = q ∧ (0 < i → t.kind = 6 → ∃ Rs, RowsOK l Rs)) (fun i => 8 - i) 0 ⟨Nat.zero_le _, hq, fun h => absurd h (by decide)⟩ (Le.pick [1, 0, 0] ⟨rfl, rfl, rfl, rfl, rfl, trivial⟩ rfl) ?_
  rintro i ⟨hi, hF, hx⟩
  repeat (first | refine sc rfl ?_ | refine so rfl ?_ | refine sb rfl ?_)
  refine C_if rfl (fun m1 => ?_) (fun m1 => ?_) <;> simp only [decide_eq_true_eq, decide_eq_false_iff_not, Bool.not_eq_true', Bool.not_eq_false', beq_iff_eq, beq_eq_false_iff_ne, bne_iff_ne, ne_eq, bne_eq_false_iff_eq, Decidable.not_not] at m1
  · have hil : i < 8 := by omega
    rw [show 8 - i = (8 - (i + 1)) + 1 by omega, typG_step] at hF
    repeat (first | refine sc rfl ?_ | refine so rfl ?_ | refine sb rfl ?_)
    rw [w64 (x := (i : Int) + 1) (by omega) (by omega), show ((i : Int) + 1) = ((i + 1 : Nat) : Int) by omega]
    first
      | refine O_callA [0] (by_A b l hP hW (i + 1) (by omega) _ t (Nat.le_refl _) ht) (by rfl) (by rfl) (by rfl) (by rfl) (by rfl) ?_
      | refine O_callA [1] (by_A b l hP hW (i + 1) (by omega) _ t (Nat.le_refl _) ht) (by rfl) (by rfl) (by rfl) (by rfl) (by rfl) ?_
      | refine O_callA [2] (by_A b l hP hW (i + 1) (by omega) _ t (Nat.le_refl _) ht) (by rfl) (by rfl) (by rfl) (by rfl) (by rfl) ?_
      | refine O_callA [3] (by_A b l hP hW (i + 1) (by omega) _ t (Nat.le_refl _) ht) (by rfl) (by rfl) (by rfl) (by rfl) (by rfl) ?_
      | refine O_callA [4] (by_A b l hP hW (i + 1) (by omega) _ t (Nat.le_refl _) ht) (by rfl) (by rfl) (by rfl) (by rfl) (by rfl) ?_
    rintro r cs' ⟨⟨rfl, rfl⟩, hex⟩
    have hx' : t.kind = 6 → ∃ Rs, RowsOK l Rs := hex (by omega)
    obtain ⟨y, hy⟩ : ∃ y, byF l (i + 1) t = y := ⟨_, rfl⟩
    rw [hy] at hF ⊢
    obtain ⟨w, ok⟩ := y
    cases ok with
    | true =>
      rw [if_pos rfl] at hF
      repeat (first | refine sc rfl ?_ | refine so rfl ?_ | refine sb rfl ?_)
      refine C_true rfl rfl ?_
      repeat (first | refine sc rfl ?_ | refine so rfl ?_ | refine sb rfl ?_)
      rw [w64 (x := (i : Int) + 1) (by omega) (by omega)]
      repeat (first | refine sc rfl ?_ | refine so rfl ?_ | refine sb rfl ?_)
      first
        | exact ⟨_, [_], _, rfl, pickA_perm (is := [0]) (As := [_]) rfl, rfl, ⟨by rw [← hF]; rfl, rfl⟩, hx'⟩
        | exact ⟨_, [_], _, rfl, pickA_perm (is := [1]) (As := [_]) rfl, rfl, ⟨by rw [← hF]; rfl, rfl⟩, hx'⟩
        | exact ⟨_, [_], _, rfl, pickA_perm (is := [2]) (As := [_]) rfl, rfl, ⟨by rw [← hF]; rfl, rfl⟩, hx'⟩
        | exact ⟨_, [_], _, rfl, pickA_perm (is := [3]) (As := [_]) rfl, rfl, ⟨by rw [← hF]; rfl, rfl⟩, hx'⟩
        | exact ⟨_, [_], _, rfl, pickA_perm (is := [4]) (As := [_]) rfl, rfl, ⟨by rw [← hF]; rfl, rfl⟩, hx'⟩
    | false =>
      rw [if_neg (fun h => by cases h)] at hF
      repeat (first | refine sc rfl ?_ | refine so rfl ?_ | refine sb rfl ?_)
      refine C_false rfl rfl ?_
      repeat (first | refine sc rfl ?_ | refine so rfl ?_ | refine sb rfl ?_)
      rw [w64 (x := (i : Int) + 1) (by omega) (by omega)]
      exact ⟨i + 1, ⟨hil, hF, fun _ => hx'⟩, by omega, Le.pick [2, 2, 1] ⟨rfl, rfl, rfl, rfl, rfl, trivial⟩ rfl⟩
  · obtain rfl : i = 8 := by omega
    repeat (first | refine O_le _ (Le.agg 29 (Val.c zV) rfl (.cons .refl (.cons .refl (.cons .refl (.cons .nil (.cons .nil .nil)))))) ?_ | refine sc rfl ?_ | refine so rfl ?_ | refine sb rfl ?_)
    first
      | exact ⟨_, [_], _, rfl, pickA_perm (is := [0]) (As := [_]) rfl, rfl, ⟨by rw [← hF]; rfl, rfl⟩, hx (by decide)⟩
      | exact ⟨_, [_], _, rfl, pickA_perm (is := [1]) (As := [_]) rfl, rfl, ⟨by rw [← hF]; rfl, rfl⟩, hx (by decide)⟩
      | exact ⟨_, [_], _, rfl, pickA_perm (is := [2]) (As := [_]) rfl, rfl, ⟨by rw [← hF]; rfl, rfl⟩, hx (by decide)⟩
      | exact ⟨_, [_], _, rfl, pickA_perm (is := [3]) (As := [_]) rfl, rfl, ⟨by rw [← hF]; rfl, rfl⟩, hx (by decide)⟩
      | exact ⟨_, [_], _, rfl, pickA_perm (is := [4]) (As := [_]) rfl, rfl, ⟨by rw [← hF]; rfl, rfl⟩, hx (by decide)⟩

theorem BStruct_A (b : Nat) (l : List Dcl) (hP : Prep l) (hW : WellL l) (nm : List UInt8) : FnA Tryz.prog 32 [PT b 0, .s nm] [dscS b l]
    (fun r cs' => (r = .tup [.agg (Val.c (strF l nm).1), I64 (strF l nm).2] ∧ cs' = [dscS b l]) ∧ (kindL l nm = 1 → ∃ Rs, RowsOK l Rs)) := by
  obtain ⟨q, hq⟩ : ∃ q, strF l nm = q := ⟨_, rfl⟩
  rw [hq]
  unfold strF at hq
  refine FnA.intro Tryz.tabOK Tryz.wide_ Tryz.func32 rfl (by decide) rfl (fun X => ?_)
  repeat (first | refine sc rfl ?_ | refine so rfl ?_ | refine sb rfl ?_)
  first
    | refine O_callA [0] (DKind_S b l hP nm) (by rfl) (by rfl) (by rfl) (by rfl) (by rfl) ?_
    | refine O_callA [1] (DKind_S b l hP nm) (by rfl) (by rfl) (by rfl) (by rfl) (by rfl) ?_
    | refine O_callA [2] (DKind_S b l hP nm) (by rfl) (by rfl) (by rfl) (by rfl) (by rfl) ?_
    | refine O_callA [3] (DKind_S b l hP nm) (by rfl) (by rfl) (by rfl) (by rfl) (by rfl) ?_
    | refine O_callA [4] (DKind_S b l hP nm) (by rfl) (by rfl) (by rfl) (by rfl) (by rfl) ?_
  rintro r cs' ⟨rfl, rfl⟩
  repeat (first | refine sc rfl ?_ | refine so rfl ?_ | refine sb rfl ?_)
  refine C_if rfl (fun c => ?_) (fun c => ?_) <;> simp only [decide_eq_true_eq, decide_eq_false_iff_not, Bool.not_eq_true', Bool.not_eq_false', beq_iff_eq, beq_eq_false_iff_ne, bne_iff_ne, ne_eq, bne_eq_false_iff_eq, Decidable.not_not] at c
  · rw [if_neg c] at hq
    repeat (first | refine O_le _ (Le.agg 10 (Val.c zV) rfl (.cons .refl (.cons .refl (.cons .refl (.cons .nil (.cons .nil .nil)))))) ?_ | refine sc rfl ?_ | refine so rfl ?_ | refine sb rfl ?_)
    first
      | exact ⟨_, [_], _, rfl, pickA_perm (is := [0]) (As := [_]) rfl, rfl, ⟨by rw [← hq]; rfl, rfl⟩, fun h => absurd h c⟩
      | exact ⟨_, [_], _, rfl, pickA_perm (is := [1]) (As := [_]) rfl, rfl, ⟨by rw [← hq]; rfl, rfl⟩, fun h => absurd h c⟩
      | exact ⟨_, [_], _, rfl, pickA_perm (is := [2]) (As := [_]) rfl, rfl, ⟨by rw [← hq]; rfl, rfl⟩, fun h => absurd h c⟩
      | exact ⟨_, [_], _, rfl, pickA_perm (is := [3]) (As := [_]) rfl, rfl, ⟨by rw [← hq]; rfl, rfl⟩, fun h => absurd h c⟩
      | exact ⟨_, [_], _, rfl, pickA_perm (is := [4]) (As := [_]) rfl, rfl, ⟨by rw [← hq]; rfl, rfl⟩, fun h => absurd h c⟩
  · rw [if_pos c] at hq
    repeat (first | refine O_le _ (Le.agg 13 (Ty.c ⟨6, nm, []⟩) rfl (.cons .refl (.cons .refl (.cons .nil .nil)))) ?_ | refine sc rfl ?_ | refine so rfl ?_ | refine sb rfl ?_)
    first
      | refine O_callA [0] (BType_A b l hP hW ⟨6, nm, []⟩ ⟨Nat.zero_le _, fun i hi => absurd hi (Nat.not_lt_zero _)⟩) (by rfl) (by rfl) (by rfl) (by rfl) (by rfl) ?_
      | refine O_callA [1] (BType_A b l hP hW ⟨6, nm, []⟩ ⟨Nat.zero_le _, fun i hi => absurd hi (Nat.not_lt_zero _)⟩) (by rfl) (by rfl) (by rfl) (by rfl) (by rfl) ?_
      | refine O_callA [2] (BType_A b l hP hW ⟨6, nm, []⟩ ⟨Nat.zero_le _, fun i hi => absurd hi (Nat.not_lt_zero _)⟩) (by rfl) (by rfl) (by rfl) (by rfl) (by rfl) ?_
      | refine O_callA [3] (BType_A b l hP hW ⟨6, nm, []⟩ ⟨Nat.zero_le _, fun i hi => absurd hi (Nat.not_lt_zero _)⟩) (by rfl) (by rfl) (by rfl) (by rfl) (by rfl) ?_
      | refine O_callA [4] (BType_A b l hP hW ⟨6, nm, []⟩ ⟨Nat.zero_le _, fun i hi => absurd hi (Nat.not_lt_zero _)⟩) (by rfl) (by rfl) (by rfl) (by rfl) (by rfl) ?_
    rintro r cs' ⟨⟨rfl, rfl⟩, hex⟩
    rw [hq]
    repeat (first | refine sc rfl ?_ | refine so rfl ?_ | refine sb rfl ?_)
    first
      | exact ⟨_, [_], _, rfl, pickA_perm (is := [0]) (As := [_]) rfl, rfl, ⟨rfl, rfl⟩, fun _ => hex rfl⟩
      | exact ⟨_, [_], _, rfl, pickA_perm (is := [1]) (As := [_]) rfl, rfl, ⟨rfl, rfl⟩, fun _ => hex rfl⟩
      | exact ⟨_, [_], _, rfl, pickA_perm (is := [2]) (As := [_]) rfl, rfl, ⟨rfl, rfl⟩, fun _ => hex rfl⟩
      | exact ⟨_, [_], _, rfl, pickA_perm (is := [3]) (As := [_]) rfl, rfl, ⟨rfl, rfl⟩, fun _ => hex rfl⟩
      | exact ⟨_, [_], _, rfl, pickA_perm (is := [4]) (As := [_]) rfl, rfl, ⟨rfl, rfl⟩, fun _ => hex rfl⟩
end Go.Proofs

/- The example of chapter 19; the law BlankLeast. -/
set_option linter.unusedSimpArgs false
set_option linter.unusedVariables false
set_option maxRecDepth 100000
namespace Go.Proofs
open Go.Sy Go.Lib

theorem Of_B (l : List Dcl) (hl : FewL l) : FnA Tryz.prog 24 [SL 5 Dcl.c l] [] (fun r cs' => (∃ f : Flt, r = .tup [.v (.pointer none), .agg (Flt.c f)] ∧ f.err ≠ 0 ∧ cs' = []) ∨
    (∃ b, r = .tup [PT b 0, .agg (Flt.c ⟨0, 0⟩)] ∧ (WellL l ∧ FinL l) ∧ cs' = [boxA b 165 [SL 5 Dcl.c l, .v (.int .u32 0), .v (.int .i32 0), .v (.int .u32 0), .v (.pointer none), .v (.map none)]])) := by
  refine FnA.intro Tryz.tabOK Tryz.wide_ Tryz.func24 rfl (by decide) rfl (fun X => ?_)
  repeat (first | refine sc rfl ?_ | refine so rfl ?_ | refine sb rfl ?_)
  refine O_call (Check_c l hl.toFew) (by rfl) (by rfl) (by rfl) (by rfl) (fun r hr => ?_)
  obtain ⟨f, rfl, hf, hf2⟩ := hr
  repeat (first | refine sc rfl ?_ | refine so rfl ?_ | refine sb rfl ?_)
  refine C_if rfl (fun m1 => ?_) (fun m1 => ?_) <;> simp only [decide_eq_true_eq, decide_eq_false_iff_not, Bool.not_eq_true', Bool.not_eq_false', beq_iff_eq, beq_eq_false_iff_ne, bne_iff_ne, ne_eq, bne_eq_false_iff_eq, Decidable.not_not] at m1
  · repeat (first | refine sc rfl ?_ | refine so rfl ?_ | refine sb rfl ?_)
    refine C_drawU 20 2 rfl (by kernel_rfl) (by kernel_rfl) (by kernel_rfl) ?_
    repeat (first | refine sd rfl ?_ | refine sdb rfl ?_ | refine sds rfl ?_)
    repeat (first | refine sc rfl ?_ | refine so rfl ?_ | refine sb rfl ?_)
    exact ⟨_, [], _, rfl, .refl _, rfl, .inl ⟨f, rfl, m1, rfl⟩⟩
  · repeat (first | refine sc rfl ?_ | refine so rfl ?_ | refine sb rfl ?_)
    refine O_call (decls_c l hl) (by rfl) (by rfl) (by rfl) (by rfl) (fun r hr => ?_)
    subst hr
    iterate 6 (first | refine sc rfl ?_ | refine so rfl ?_ | refine sb rfl ?_)
    refine C_absb 2 rfl rfl rfl (fun b => ?_)
    repeat (first | refine sc rfl ?_ | refine so rfl ?_ | refine sb rfl ?_)
    exact ⟨_, [_], _, rfl, .refl _, rfl, .inr ⟨b, rfl, hf.1 m1, rfl⟩⟩

theorem MadeZ_A (l : List Dcl) (hl : FewL l) : FnA Tryz.prog 30 [SL 5 Dcl.c l] [] (fun r cs' => (r = .tup [.v (.pointer none), .v (.slice none 0 0)] ∧ cs' = []) ∨
    (∃ b, r = .tup [PT b 0, SL 5 Dcl.c l] ∧ (WellL l ∧ FinL l) ∧ cs' = [dscS b l])) := by
  refine FnA.intro Tryz.tabOK Tryz.wide_ Tryz.func30 rfl (by decide) rfl (fun X => ?_)
  repeat (first | refine sc rfl ?_ | refine so rfl ?_ | refine sb rfl ?_)
  refine O_callA [] (Of_B l hl) (by rfl) (by rfl) (by rfl) (by rfl) (by rfl) ?_
  rintro r cs' (⟨f, rfl, hn, rfl⟩ | ⟨b, rfl, hW, rfl⟩)
  · repeat (first | refine sc rfl ?_ | refine so rfl ?_ | refine sb rfl ?_)
    refine C_true rfl (by simpa using hn) ?_
    repeat (first | refine sc rfl ?_ | refine so rfl ?_ | refine sb rfl ?_)
    exact ⟨_, [], _, rfl, .refl _, rfl, .inl ⟨rfl, rfl⟩⟩
  · refine O_le _ (Le.absPerm (As := [dsc b l none]) (As' := [dscS b l]) (pickA_perm (is := [0]) rfl) (.refl _) (fun G w h A hA => ?_)) ?_
    · simp only [List.mem_singleton] at hA
      subst hA
      exact ⟨none, (fun _ h => by cases h), h _ (by simp)⟩
    repeat (first | refine sc rfl ?_ | refine so rfl ?_ | refine sb rfl ?_)
    refine C_false rfl rfl ?_
    repeat (first | refine sc rfl ?_ | refine so rfl ?_ | refine sb rfl ?_)
    first
      | exact ⟨_, [_], _, rfl, pickA_perm (is := [0]) (As := [_]) rfl, rfl, .inr ⟨b, rfl, hW, rfl⟩⟩
      | exact ⟨_, [_], _, rfl, pickA_perm (is := [1]) (As := [_]) rfl, rfl, .inr ⟨b, rfl, hW, rfl⟩⟩
      | exact ⟨_, [_], _, rfl, pickA_perm (is := [2]) (As := [_]) rfl, rfl, .inr ⟨b, rfl, hW, rfl⟩⟩
      | exact ⟨_, [_], _, rfl, pickA_perm (is := [3]) (As := [_]) rfl, rfl, .inr ⟨b, rfl, hW, rfl⟩⟩
      | exact ⟨_, [_], _, rfl, pickA_perm (is := [4]) (As := [_]) rfl, rfl, .inr ⟨b, rfl, hW, rfl⟩⟩

def tx4 : List UInt8 := [115, 116, 114, 117, 99, 116, 32, 80, 32, 123, 32, 49, 32, 97, 58, 32, 116, 101, 120, 116, 59, 32, 50, 32, 98, 58, 32, 80, 63, 59, 32, 125]
def hA : Fld := ⟨1, [97], ⟨4, [], []⟩⟩
def hB : Fld := ⟨2, [98], ⟨9, [], [⟨6, [80], []⟩]⟩⟩
def sc4 : List Dcl := [⟨1, [80], [hA, hB], [], 0⟩]
theorem par4 : parseF tx4 = (sc4, 0, 0) := by rfl
theorem fewL4 : FewL sc4 := by
  have h := parse_fewL (s := tx4) (by rw [par4])
  rw [par4] at h; exact h
theorem tyOK96 : TyOK sc4 false ⟨9, [], [⟨6, [80], []⟩]⟩ := by
  refine .mk rfl (fun _ => rfl) (fun h => absurd h (by decide)) (fun _ => rfl) (fun h => absurd h (by decide)) (fun i hi => ?_)
  obtain rfl : i = 0 := by have : i < 1 := hi; omega
  exact .mk rfl (fun h => absurd rfl h) (fun _ => .inl (by decide)) (fun h => absurd h (by decide)) (fun h => absurd h (by decide)) (fun i hi => absurd hi (Nat.not_lt_zero _))
theorem well4 : WellL sc4 := fun i hi => by
  obtain rfl : i = 0 := by have : i < 1 := hi; omega
  have hm : ∀ f : Fld, f ∈ [hA, hB] → f = hA ∨ f = hB := fun f hf => by simpa using hf
  refine ⟨rfl, .inl rfl, ⟨fun f hf => ?_, fun f hf _ => ?_⟩, ⟨(fun m hm => by cases hm), (fun m hm => by cases hm)⟩, by decide, by decide, fun h => by rcases h with h | h <;> exact absurd h (by decide)⟩
  · rcases hm f hf with rfl | rfl <;> decide
  · rcases hm f hf with rfl | rfl
    · exact ⟨tyOK0 _ _ (.inr rfl), by decide⟩
    · exact ⟨tyOK96, fun h => absurd h (by decide)⟩
theorem fin4 : FinL sc4 := fun i hi => by
  obtain rfl : i = 0 := by have : i < 1 := hi; omega
  decide
theorem prep4 : Prep sc4 := by
  have h := parse_prep (s := tx4) (by rw [par4]) (by rw [par4]; exact well4)
  rw [par4] at h; exact h
theorem rows4 : RowsOK sc4 [[hA, hB]] := ⟨rfl, fun i hi => by
  obtain rfl : i = 0 := by have : i < 1 := hi; omega
  show SrtOf [hA, hB] [hA, hB]
  refine ⟨rfl, PermOn.refl _ _ _, fun i j _ hij hj => ?_⟩
  have hj' : j < 2 := hj
  rcases j with _ | _ | j
  · obtain rfl : i = 0 := by omega
    decide
  · have hi' : i < 2 := by omega
    rcases i with _ | _ | i
    · decide
    · decide
    · omega
  · omega⟩
theorem rowsU4 : rowsU sc4 [80] = [hA, hB] := by rw [← rowsU_eq well4 rows4]; rfl

theorem strF4 : strF sc4 [80] = (⟨9, 0, [], [1], [⟨4, 0, [], [], []⟩]⟩, 2) := by
  have hk : kindL sc4 [80] = 1 := by decide
  rw [strF, if_pos hk, show (8 : Nat) = 6 + 1 + 1 from rfl, typG_step, typG_step]
  have h1 : byF sc4 1 ⟨6, [80], []⟩ = (zV, false) := by
    simp only [byF]
    rw [plF_eq, if_pos rfl, namF, hk, rowsU4]
    rfl
  have h2 : byF sc4 2 ⟨6, [80], []⟩ = (⟨9, 0, [], [1], [⟨4, 0, [], [], []⟩]⟩, true) := by
    have h3 : byF sc4 1 ⟨4, [], []⟩ = (⟨4, 0, [], [], []⟩, true) := by
      simp only [byF]; rfl
    rw [byF, plF_eq, if_pos rfl, namF, hk, rowsU4, if_neg (by decide), if_pos rfl]
    simp only [fldF, hA, hB, h3]
    rfl
  rw [h1, h2]
  rfl

theorem awake19_A (m : Int) : FnA Tryz.prog 29 [] [glbA m] (fun r cs' => r = B true ∧ cs' = [glbA m]) := by
  refine FnA.intro Tryz.tabOK Tryz.wide_ Tryz.func29 rfl (by decide) rfl (fun X => ?_)
  repeat (first | refine sc rfl ?_ | refine so rfl ?_ | refine sb rfl ?_)
  refine O_callA [0] (Read_A m tx4 sc4 (.inl par4) fewL4 ⟨well4, fin4⟩) (by rfl) (by rfl) (by rfl) (by rfl) (by rfl) ?_
  rintro r cs' ⟨b1, rfl, rfl⟩
  repeat (first | refine sc rfl ?_ | refine so rfl ?_ | refine sb rfl ?_)
  first
    | refine O_callA [0] (BStruct_A b1 sc4 prep4 well4 [80]) (by rfl) (by rfl) (by rfl) (by rfl) (by rfl) ?_
    | refine O_callA [1] (BStruct_A b1 sc4 prep4 well4 [80]) (by rfl) (by rfl) (by rfl) (by rfl) (by rfl) ?_
    | refine O_callA [2] (BStruct_A b1 sc4 prep4 well4 [80]) (by rfl) (by rfl) (by rfl) (by rfl) (by rfl) ?_
    | refine O_callA [3] (BStruct_A b1 sc4 prep4 well4 [80]) (by rfl) (by rfl) (by rfl) (by rfl) (by rfl) ?_
    | refine O_callA [4] (BStruct_A b1 sc4 prep4 well4 [80]) (by rfl) (by rfl) (by rfl) (by rfl) (by rfl) ?_
  rintro r cs' ⟨⟨rfl, rfl⟩, _⟩
  rw [strF4]
  repeat (first | refine O_le _ (Le.one 24 (SL 5 Val.c [⟨4, 0, [], [], []⟩]) rfl (.row (Val.rows_eq _))) ?_ | refine sc rfl ?_ | refine so rfl ?_ | refine sb rfl ?_)
  refine ⟨by decide, ?_⟩
  repeat (first | refine sc rfl ?_ | refine so rfl ?_ | refine sb rfl ?_)
  first
    | exact ⟨_, [_], _, rfl, pickA_perm (is := [0]) (As := [_]) rfl, rfl, rfl, rfl⟩
    | exact ⟨_, [_], _, rfl, pickA_perm (is := [1]) (As := [_]) rfl, rfl, rfl, rfl⟩
    | exact ⟨_, [_], _, rfl, pickA_perm (is := [2]) (As := [_]) rfl, rfl, rfl, rfl⟩
    | exact ⟨_, [_], _, rfl, pickA_perm (is := [3]) (As := [_]) rfl, rfl, rfl, rfl⟩
    | exact ⟨_, [_], _, rfl, pickA_perm (is := [4]) (As := [_]) rfl, rfl, rfl, rfl⟩

theorem blankLeast_A (m : Int) (l : List Dcl) (nm : List UInt8) (v : Val) : FnA Tryz.prog 5 [SL 5 Dcl.c l, .s nm, .agg (Val.c v)] [glbA m] (fun r cs' => r = B true ∧ cs' = [glbA m]) := by
  refine FnA.intro Tryz.tabOK Tryz.wide_ Tryz.func5 rfl (by decide) rfl (fun X => ?_)
  repeat (first | refine sc rfl ?_ | refine so rfl ?_ | refine sb rfl ?_)
  refine O_call (Great_c l) (by rfl) (by rfl) (by rfl) (by rfl) (fun r hr => ?_)
  obtain ⟨g, rfl, hg⟩ := hr
  repeat (first | refine sc rfl ?_ | refine so rfl ?_ | refine sb rfl ?_)
  have aw := awake19_A m
  cases g with
  | true =>
    repeat (first | refine sc rfl ?_ | refine so rfl ?_ | refine sb rfl ?_)
    refine C_true rfl rfl ?_
    repeat (first | refine sc rfl ?_ | refine so rfl ?_ | refine sb rfl ?_)
    first
      | refine O_callA [0] (aw) (by rfl) (by rfl) (by rfl) (by rfl) (by rfl) ?_
      | refine O_callA [1] (aw) (by rfl) (by rfl) (by rfl) (by rfl) (by rfl) ?_
      | refine O_callA [2] (aw) (by rfl) (by rfl) (by rfl) (by rfl) (by rfl) ?_
      | refine O_callA [3] (aw) (by rfl) (by rfl) (by rfl) (by rfl) (by rfl) ?_
      | refine O_callA [4] (aw) (by rfl) (by rfl) (by rfl) (by rfl) (by rfl) ?_
    rintro r cs' ⟨rfl, rfl⟩
    repeat (first | refine sc rfl ?_ | refine so rfl ?_ | refine sb rfl ?_)
    first
      | exact ⟨_, [_], _, rfl, pickA_perm (is := [0]) (As := [_]) rfl, rfl, rfl, rfl⟩
      | exact ⟨_, [_], _, rfl, pickA_perm (is := [1]) (As := [_]) rfl, rfl, rfl, rfl⟩
      | exact ⟨_, [_], _, rfl, pickA_perm (is := [2]) (As := [_]) rfl, rfl, rfl, rfl⟩
      | exact ⟨_, [_], _, rfl, pickA_perm (is := [3]) (As := [_]) rfl, rfl, rfl, rfl⟩
      | exact ⟨_, [_], _, rfl, pickA_perm (is := [4]) (As := [_]) rfl, rfl, rfl, rfl⟩
  | false =>
    have hL := hg rfl
    repeat (first | refine sc rfl ?_ | refine so rfl ?_ | refine sb rfl ?_)
    refine O_call (Great15_c _ v (Nat.le_refl _) 0 (by decide)) (by rfl) (by rfl) (by rfl) (by rfl) (fun r hr => ?_)
    subst hr
    repeat (first | refine sc rfl ?_ | refine so rfl ?_ | refine sb rfl ?_)
    cases hb : greatF v 0 with
    | true =>
      refine C_true rfl rfl ?_
      repeat (first | refine sc rfl ?_ | refine so rfl ?_ | refine sb rfl ?_)
      first
        | refine O_callA [0] (aw) (by rfl) (by rfl) (by rfl) (by rfl) (by rfl) ?_
        | refine O_callA [1] (aw) (by rfl) (by rfl) (by rfl) (by rfl) (by rfl) ?_
        | refine O_callA [2] (aw) (by rfl) (by rfl) (by rfl) (by rfl) (by rfl) ?_
        | refine O_callA [3] (aw) (by rfl) (by rfl) (by rfl) (by rfl) (by rfl) ?_
        | refine O_callA [4] (aw) (by rfl) (by rfl) (by rfl) (by rfl) (by rfl) ?_
      rintro r cs' ⟨rfl, rfl⟩
      repeat (first | refine sc rfl ?_ | refine so rfl ?_ | refine sb rfl ?_)
      first
        | exact ⟨_, [_], _, rfl, pickA_perm (is := [0]) (As := [_]) rfl, rfl, rfl, rfl⟩
        | exact ⟨_, [_], _, rfl, pickA_perm (is := [1]) (As := [_]) rfl, rfl, rfl, rfl⟩
        | exact ⟨_, [_], _, rfl, pickA_perm (is := [2]) (As := [_]) rfl, rfl, rfl, rfl⟩
        | exact ⟨_, [_], _, rfl, pickA_perm (is := [3]) (As := [_]) rfl, rfl, rfl, rfl⟩
        | exact ⟨_, [_], _, rfl, pickA_perm (is := [4]) (As := [_]) rfl, rfl, rfl, rfl⟩
    | false =>
      obtain ⟨hv, hd⟩ := greatF_few _ v 0 (Nat.le_refl _) hb
      refine C_false rfl rfl ?_
      repeat (first | refine sc rfl ?_ | refine so rfl ?_ | refine sb rfl ?_)
      refine O_callA [] (MadeZ_A l hL.1) (by rfl) (by rfl) (by rfl) (by rfl) (by rfl) ?_
      rintro r cs' (⟨rfl, rfl⟩ | ⟨b, rfl, hW, rfl⟩)
      · repeat (first | refine sc rfl ?_ | refine so rfl ?_ | refine sb rfl ?_)
        refine O_le _ (Le.conv 23 (y := SL 5 Dcl.c []) rfl (fun e v h => by simp only [Rep] at h ⊢; exact repI_nil (by simpa only [RepI] using h))) ?_
        refine O_call (Struct16_c [] ⟨Nat.zero_le _, fun i hi => absurd hi (Nat.not_lt_zero _)⟩ (fun i hi => absurd hi (Nat.not_lt_zero _)) nm v hv (by omega)) (by rfl) (by rfl) (by rfl) (by rfl) (fun r hr => ?_)
        obtain ⟨e, rfl, he⟩ := hr
        repeat (first | refine sc rfl ?_ | refine so rfl ?_ | refine sb rfl ?_)
        refine C_true rfl (by
          simp only [bne_iff_ne, ne_eq]
          intro h
          exact absurd (he h).1 (by show ¬((0 : Int) = 1); decide)) ?_
        repeat (first | refine sc rfl ?_ | refine so rfl ?_ | refine sb rfl ?_)
        first
          | refine O_callA [0] (aw) (by rfl) (by rfl) (by rfl) (by rfl) (by rfl) ?_
          | refine O_callA [1] (aw) (by rfl) (by rfl) (by rfl) (by rfl) (by rfl) ?_
          | refine O_callA [2] (aw) (by rfl) (by rfl) (by rfl) (by rfl) (by rfl) ?_
          | refine O_callA [3] (aw) (by rfl) (by rfl) (by rfl) (by rfl) (by rfl) ?_
          | refine O_callA [4] (aw) (by rfl) (by rfl) (by rfl) (by rfl) (by rfl) ?_
        rintro r cs' ⟨rfl, rfl⟩
        repeat (first | refine sc rfl ?_ | refine so rfl ?_ | refine sb rfl ?_)
        first
          | exact ⟨_, [_], _, rfl, pickA_perm (is := [0]) (As := [_]) rfl, rfl, rfl, rfl⟩
          | exact ⟨_, [_], _, rfl, pickA_perm (is := [1]) (As := [_]) rfl, rfl, rfl, rfl⟩
          | exact ⟨_, [_], _, rfl, pickA_perm (is := [2]) (As := [_]) rfl, rfl, rfl, rfl⟩
          | exact ⟨_, [_], _, rfl, pickA_perm (is := [3]) (As := [_]) rfl, rfl, rfl, rfl⟩
          | exact ⟨_, [_], _, rfl, pickA_perm (is := [4]) (As := [_]) rfl, rfl, rfl, rfl⟩
      · repeat (first | refine sc rfl ?_ | refine so rfl ?_ | refine sb rfl ?_)
        refine O_call (Struct16_c l hL.1 hW.1 nm v hv (by omega)) (by rfl) (by rfl) (by rfl) (by rfl) (fun r hr => ?_)
        obtain ⟨e, rfl, he⟩ := hr
        repeat (first | refine sc rfl ?_ | refine so rfl ?_ | refine sb rfl ?_)
        refine C_if rfl (fun m1 => ?_) (fun m1 => ?_) <;> simp only [decide_eq_true_eq, decide_eq_false_iff_not, Bool.not_eq_true', Bool.not_eq_false', beq_iff_eq, beq_eq_false_iff_ne, bne_iff_ne, ne_eq, bne_eq_false_iff_eq, Decidable.not_not] at m1
        · repeat (first | refine sc rfl ?_ | refine so rfl ?_ | refine sb rfl ?_)
          first
            | refine O_callA [0] (aw) (by rfl) (by rfl) (by rfl) (by rfl) (by rfl) ?_
            | refine O_callA [1] (aw) (by rfl) (by rfl) (by rfl) (by rfl) (by rfl) ?_
            | refine O_callA [2] (aw) (by rfl) (by rfl) (by rfl) (by rfl) (by rfl) ?_
            | refine O_callA [3] (aw) (by rfl) (by rfl) (by rfl) (by rfl) (by rfl) ?_
            | refine O_callA [4] (aw) (by rfl) (by rfl) (by rfl) (by rfl) (by rfl) ?_
          rintro r cs' ⟨rfl, rfl⟩
          repeat (first | refine sc rfl ?_ | refine so rfl ?_ | refine sb rfl ?_)
          first
            | exact ⟨_, [_], _, rfl, pickA_perm (is := [0]) (As := [_]) rfl, rfl, rfl, rfl⟩
            | exact ⟨_, [_], _, rfl, pickA_perm (is := [1]) (As := [_]) rfl, rfl, rfl, rfl⟩
            | exact ⟨_, [_], _, rfl, pickA_perm (is := [2]) (As := [_]) rfl, rfl, rfl, rfl⟩
            | exact ⟨_, [_], _, rfl, pickA_perm (is := [3]) (As := [_]) rfl, rfl, rfl, rfl⟩
            | exact ⟨_, [_], _, rfl, pickA_perm (is := [4]) (As := [_]) rfl, rfl, rfl, rfl⟩
        · obtain ⟨hk, hI, hd8⟩ := he m1
          have hP : Prep l := ⟨hL.1, fun i hi => by have := hL.2 i hi; omega, fun i hi => (hW.1 i hi).at_⟩
          repeat (first | refine sc rfl ?_ | refine so rfl ?_ | refine sb rfl ?_)
          first
            | refine O_callA [0] (BStruct_A b l hP hW.1 nm) (by rfl) (by rfl) (by rfl) (by rfl) (by rfl) ?_
            | refine O_callA [1] (BStruct_A b l hP hW.1 nm) (by rfl) (by rfl) (by rfl) (by rfl) (by rfl) ?_
            | refine O_callA [2] (BStruct_A b l hP hW.1 nm) (by rfl) (by rfl) (by rfl) (by rfl) (by rfl) ?_
            | refine O_callA [3] (BStruct_A b l hP hW.1 nm) (by rfl) (by rfl) (by rfl) (by rfl) (by rfl) ?_
            | refine O_callA [4] (BStruct_A b l hP hW.1 nm) (by rfl) (by rfl) (by rfl) (by rfl) (by rfl) ?_
          rintro r cs' ⟨⟨rfl, rfl⟩, hex⟩
          have hle := strF_le hW.1 (hex hk) hk hI hd8
          obtain ⟨q, hq⟩ : ∃ q, strF l nm = q := ⟨_, rfl⟩
          rw [hq] at hle ⊢
          obtain ⟨w, n⟩ := q
          simp only [] at hle
          repeat (first | refine sc rfl ?_ | refine so rfl ?_ | refine sb rfl ?_)
          refine O_true 37 rfl (decide_eq_true hle.1) ?_
          repeat (first | refine sc rfl ?_ | refine so rfl ?_ | refine sb rfl ?_)
          refine O_call (Deep_c _ v (Nat.le_refl _) hv (by omega)) (by rfl) (by rfl) (by rfl) (by rfl) (fun r hr => ?_)
          subst hr
          repeat (first | refine sc rfl ?_ | refine so rfl ?_ | refine sb rfl ?_)
          refine O_true 43 rfl (decide_eq_true hle.2) ?_
          repeat (first | refine sc rfl ?_ | refine so rfl ?_ | refine sb rfl ?_)
          first
            | refine O_callA [0] (aw) (by rfl) (by rfl) (by rfl) (by rfl) (by rfl) ?_
            | refine O_callA [1] (aw) (by rfl) (by rfl) (by rfl) (by rfl) (by rfl) ?_
            | refine O_callA [2] (aw) (by rfl) (by rfl) (by rfl) (by rfl) (by rfl) ?_
            | refine O_callA [3] (aw) (by rfl) (by rfl) (by rfl) (by rfl) (by rfl) ?_
            | refine O_callA [4] (aw) (by rfl) (by rfl) (by rfl) (by rfl) (by rfl) ?_
          rintro r cs' ⟨rfl, rfl⟩
          repeat (first | refine sc rfl ?_ | refine so rfl ?_ | refine sb rfl ?_)
          first
            | exact ⟨_, [_], _, rfl, pickA_perm (is := [0]) (As := [_]) rfl, rfl, rfl, rfl⟩
            | exact ⟨_, [_], _, rfl, pickA_perm (is := [1]) (As := [_]) rfl, rfl, rfl, rfl⟩
            | exact ⟨_, [_], _, rfl, pickA_perm (is := [2]) (As := [_]) rfl, rfl, rfl, rfl⟩
            | exact ⟨_, [_], _, rfl, pickA_perm (is := [3]) (As := [_]) rfl, rfl, rfl, rfl⟩
            | exact ⟨_, [_], _, rfl, pickA_perm (is := [4]) (As := [_]) rfl, rfl, rfl, rfl⟩
end Go.Proofs

/- The closed facts of the row, limb by limb. -/
set_option maxRecDepth 100000
namespace Go.Proofs.YtgmdpfoccnalnaaGreat.blankLeastDone
open Go.ChangeShapes Go.WideShapes

theorem fact1 : Rows.blankLeastRow.wf (OpenSpec.ofChange Rows.blankLeastSpec) = true := by kernel_rfl
theorem fact2 : laidOutB Tryz.prog = true := by kernel_rfl
theorem fact3 : mapsRowed Tryz.prog = true := by kernel_rfl
theorem fact4 : Tryz.f5.params.all (Program.readableRec Tryz.prog ·) = true := by kernel_rfl
theorem fact5 : namedTie Tryz.prog Rows.blankLeastRow.named Rows.blankLeastSpec.vars = true := by kernel_rfl
theorem fact6 : (Rows.blankLeastRow.stops == []) = true := by kernel_rfl
theorem fact7 : (Tryz.prog.stops == []) = true := by kernel_rfl
theorem fact8 : (Rows.blankLeastRow.knobs == []) = true := by kernel_rfl
theorem fact9 : (Tryz.prog.stopKnobs == []) = true := by kernel_rfl
theorem fact10 : (Rows.blankLeastRow.inPlace == Tryz.prog.inPlace 5) = true := by kernel_rfl
theorem fact11 : (Rows.blankLeastRow.unfollowed == Tryz.prog.unfollowed 5) = true := by kernel_rfl
theorem fact12 : (Rows.blankLeastRow.recurses == Tryz.prog.recurses 5) = true := by kernel_rfl
theorem fact13 : (Rows.blankLeastRow.named == Tryz.prog.varsNamed 5) = true := by kernel_rfl
theorem fact14 : (Rows.blankLeastRow.maps == (Tryz.f5.params.toList ++ Rows.blankLeastSpec.plain.varTypes Tryz.prog).any (Program.mapsRec Tryz.prog ·)) = true := by kernel_rfl
theorem fact15 : (Rows.blankLeastRow.ifaces == (Tryz.f5.params.toList ++ Rows.blankLeastSpec.plain.varTypes Tryz.prog).any (Program.ifacesRec Tryz.prog ·)) = true := by kernel_rfl
theorem fact16 : (Rows.blankLeastRow.mapsOut == Program.mapsAmong Tryz.prog Tryz.f5.resultTypes.toList) = true := by kernel_rfl
theorem fact17 : (Rows.blankLeastRow.loops == (Tryz.f5.params.toList ++ Rows.blankLeastSpec.plain.varTypes Tryz.prog).any (Program.loopsFrom Tryz.prog ·)) = true := by kernel_rfl
theorem fact18 : (Rows.blankLeastRow.wideKeys == (Tryz.f5.params.toList ++ Rows.blankLeastSpec.plain.varTypes Tryz.prog ++ Tryz.f5.resultTypes.toList).any (Program.wideKeysFrom Tryz.prog ·)) = true := by kernel_rfl
theorem fact19 : Rows.blankLeastSpec.vars.all (Program.varReadable Tryz.prog ·) = true := by kernel_rfl
theorem fact20 : Tryz.f5.resultTypes.all (fun t => Program.readableRec Tryz.prog t && decide (t < Tryz.prog.types.size)) = true := by kernel_rfl
theorem fact21 : (Rows.blankLeastRow.ifacesOut == Tryz.f5.resultTypes.toList.any (Program.ifacesRec Tryz.prog ·)) = true := by kernel_rfl
theorem fact22 : (Rows.blankLeastRow.loopsOut == Tryz.f5.resultTypes.toList.any (Program.loopsFrom Tryz.prog ·)) = true := by kernel_rfl
theorem fact23 : (Rows.blankLeastRow.plainKeys == Tryz.prog.plainKeys) = true := by kernel_rfl
theorem fact24 : Rows.blankLeastRow.shortTexts.isNone = true := by kernel_rfl
theorem fact25 : Tryz.prog.stopsHeard = true := by kernel_rfl
theorem fact26 : Tryz.prog.mayEnter = true := by kernel_rfl
theorem fact27 : (Rows.blankLeastRow.lifted == Tryz.prog.liftsFinal) = true := by kernel_rfl
theorem fact28 : (Program.make Tryz.prog == some Rows.blankLeastRow.make) = true := by kernel_rfl
theorem fact30 : (Rows.blankLeastRow.pinned == Rows.blankLeastRow.pinnedBy) = true := by kernel_rfl
theorem fact31 : (Rows.blankLeastRow.veiled == (Tryz.f5.params.toList ++ Rows.blankLeastSpec.plain.varTypes Tryz.prog ++ Tryz.f5.resultTypes.toList).any (Program.veiledRec Tryz.prog ·)) = true := by kernel_rfl
theorem fact32 : Rows.blankLeastRow.veiledFits Tryz.prog Tryz.f5.params.toList (Tryz.f5.params.toList ++ Rows.blankLeastSpec.plain.varTypes Tryz.prog ++ Tryz.f5.resultTypes.toList) = true := by kernel_rfl
theorem facts : joinedFacts Tryz.prog 5 Tryz.f5 Rows.blankLeastSpec Rows.blankLeastRow = true := by
  unfold joinedFacts
  simp only [Bool.and_eq_true]
  exact ⟨⟨⟨⟨⟨⟨⟨⟨⟨⟨⟨⟨⟨⟨⟨⟨⟨⟨⟨⟨⟨⟨⟨⟨⟨⟨⟨⟨⟨⟨⟨fact1, fact2⟩, fact3⟩, fact4⟩, fact5⟩, fact6⟩, fact7⟩, fact8⟩, fact9⟩, fact10⟩, fact11⟩, fact12⟩, fact13⟩, fact14⟩, fact15⟩, fact16⟩, fact17⟩, fact18⟩, fact19⟩, fact20⟩, fact21⟩, fact22⟩, fact23⟩, fact24⟩, fact25⟩, fact26⟩, fact27⟩, fact28⟩, (by kernel_rfl)⟩, fact30⟩, fact31⟩, fact32⟩
end Go.Proofs.YtgmdpfoccnalnaaGreat.blankLeastDone
