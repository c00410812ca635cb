/- Contracts of the library's sorting: merging. -/
import Derived.Test.YtgmdpfoccnalnaaGreatE7
import Derived.Test.YtgmdpfoccnalnaaGreatE5
import Derived.Tactics
import Derived.Tactics2
import Derived.RegionTactic
import Derived.RegionCalls
import Derived.Shelf.Small.Strs
import Derived.Shelf.Strings.Search3
import Derived.Ground.Names2Prog
import Derived.Test.YtgmdpfoccnalnaaGreatProg
set_option linter.unusedSimpArgs false
set_option linter.unusedVariables false
set_option maxRecDepth 100000
namespace Go.Proofs
open Go.Sy Go.Lib

theorem mid_wrap {i j : Nat} (h : i + j ≤ 4000) : IntKind.i64.wrap ((IntKind.u64.wrap (IntKind.i64.wrap ((i : Int) + (j : Int)))).fdiv (2 ^ min (1 : Int).toNat IntKind.u64.bits)) = (((i + j) / 2 : Nat) : Int) := by
  rw [w64 (x := (i : Int) + (j : Int)) (by omega) (by omega)]
  have hu : IntKind.u64.wrap ((i : Int) + (j : Int)) = (i : Int) + (j : Int) := by
    rw [IntKind.wrap_u64]; omega
  rw [hu]
  have e1 : ((2 : Int) ^ min (1 : Int).toNat IntKind.u64.bits) = 2 := by decide
  rw [e1, Int.fdiv_eq_ediv_of_nonneg _ (by decide), w64 (by omega) (by omega)]
  omega

def PY : Pl := ⟨[[], [], [], [], [], [], [], [], [], [], [], [], [], [], [], [9, 13], [], [9, 13, 15]], [15, 17], [], []⟩

theorem swp_left {α : Type} (f : Nat → α) (a k : Nat) (h : a ≤ k) : swp (rot f a (a + 1) (k + 1)) k (k + 1) = rot f a (a + 1) (k + 1 + 1) := by
  funext x
  unfold swp rot
  repeat' split
  all_goals first
    | rfl
    | (congr 1; omega)
    | (exfalso; omega)
theorem swp_right {α : Type} (f : Nat → α) (m k : Nat) (h : k ≤ m) (h0 : 0 < k) : swp (rot f k m (m + 1)) k (k - 1) = rot f (k - 1) m (m + 1) := by
  funext x
  unfold swp rot
  repeat' split
  all_goals first
    | rfl
    | (congr 1; omega)
    | (exfalso; omega)
theorem rot_none {α : Type} (f : Nat → α) (a m : Nat) : rot f a m m = f := by
  funext x
  unfold rot
  repeat' split
  all_goals first
    | rfl
    | (congr 1; omega)
    | (exfalso; omega)
theorem rot_none2 {α : Type} (f : Nat → α) (m e : Nat) : rot f m m e = f := by
  funext x
  unfold rot
  repeat' split
  all_goals first
    | rfl
    | (congr 1; omega)
    | (exfalso; omega)

theorem symMerge_A (g n cc : Nat) (hn : n ≤ 1000) : ∀ (N a m b : Nat) (f : Nat → Fld), b - a ≤ N → a < m → m < b → b ≤ n → Srt f a m → Srt f m b →
    FnA Tryz.prog 256 [.v (HD g n cc), I64 (a : Nat), I64 (m : Nat), I64 (b : Nat), cmpV] [arA g n cc f] (fun r cs' => r = .tup [] ∧ ∃ f', cs' = [arA g n cc f'] ∧ PermOn a b f f' ∧ Srt f' a b)
  | 0, a, m, b, f, hN, h1, h2, hb, s1, s2 => by omega
  | N + 1, a, m, b, f, hN, h1, h2, hb, s1, s2 => by
    refine FnA.intro Tryz.tabOK Tryz.wide_ Tryz.func256 rfl (by decide) rfl (fun X => ?_)
    have hcmp : ∀ x y : Fld, _ := fun x y => CmpF_c x y
    repeat (first|refine sc rfl ?_|refine so rfl ?_|refine sb rfl ?_)
    rw [w64 (x := (m : Int) - (a : Int)) (by omega) (by omega)]
    refine C_if rfl (fun m1 => ?_) (fun m1 => ?_) <;> simp only [pL] at m1
    · obtain rfl : m = a + 1 := by omega
      repeat (first|refine sc rfl ?_|refine so rfl ?_|refine sb rfl ?_)
      refine C_loop (fun q : Nat × Nat => ⟨[(0, .v (HD g n cc)), (1, I64 (a : Nat)), (4, cmpV), (10, I64 (q.1 : Nat)), (11, I64 (q.2 : Nat))], [.abs (arA g n cc f)]⟩)
        (fun q => a + 1 ≤ q.1 ∧ q.1 ≤ q.2 ∧ q.2 ≤ b ∧ (q.1 = a + 1 ∨ (f (q.1 - 1)).tag < (f a).tag) ∧ (q.2 = b ∨ (f a).tag ≤ (f q.2).tag)) (fun q => q.2 - q.1) (a + 1, b) ⟨Nat.le_refl _, by simp only []; omega, Nat.le_refl _, .inl rfl, .inl rfl⟩ (Le.pick [0] ⟨rfl, rfl, rfl, rfl, rfl, trivial⟩ rfl) ?_
      rintro ⟨i, j⟩ ⟨hi, hij, hj, f1, f2⟩
      simp only [] at hi hij hj f1 f2
      repeat (first|refine sc rfl ?_|refine so rfl ?_|refine sb rfl ?_)
      refine C_if rfl (fun m2 => ?_) (fun m2 => ?_) <;> simp only [pL] at m2
      · repeat (first|refine sc rfl ?_|refine so rfl ?_|refine sb rfl ?_)
        refine ⟨by decide, ?_⟩
        repeat (first|refine sc rfl ?_|refine so rfl ?_|refine sb rfl ?_)
        rw [mid_wrap (i := i) (j := j) (by omega)]
        have hc1 : i ≤ (i + j) / 2 := by omega
        have hc2 : (i + j) / 2 < j := by omega
        generalize (i + j) / 2 = c at hc1 hc2 ⊢
        refine C_drawD rfl (by kernel_rfl) ?_
        refine sd rfl ?_
        refine sd rfl ?_
        refine sd rfl ?_
        refine sd rfl ⟨by omega, ?_⟩
        rw [Int.toNat_natCast]
        refine D_X (.agg (Fld.c (f (c)))) (X_loadP 0 (reads_vec (q := c) (j := 0) (by omega) (by omega)) rfl rfl rfl rfl rfl rfl) ?_
        refine sd rfl ?_
        refine sd rfl ?_
        refine sd rfl ⟨by omega, ?_⟩
        rw [Int.toNat_natCast]
        refine D_X (.agg (Fld.c (f (a)))) (X_loadP 0 (reads_vec (q := a) (j := 0) (by omega) (by omega)) rfl rfl rfl rfl rfl rfl) ?_
        refine D_callV (isClo_func 125) rfl (hcmp _ _) rfl rfl rfl rfl rfl ?_
        repeat (first|refine sd rfl ?_|refine sdb rfl ?_|refine sds rfl ?_)
        repeat (first|refine sc rfl ?_|refine so rfl ?_|refine sb rfl ?_)
        refine C_if rfl (fun m3 => ?_) (fun m3 => ?_) <;> rw [cmp_lt] at m3 <;> simp only [pL] at m3
        · repeat (first|refine sc rfl ?_|refine so rfl ?_|refine sb rfl ?_)
          rw [w64 (x := (c : Int) + 1) (by omega) (by omega)]
          refine ⟨(c + 1, j), ⟨by simp only []; omega, by simp only []; omega, by simp only []; omega, .inr ?_, f2⟩, by simp only []; omega, Le.pick [0] ⟨rfl, rfl, rfl, rfl, rfl, trivial⟩ rfl⟩
          simp only [Nat.add_sub_cancel]; exact m3
        · repeat (first|refine sc rfl ?_|refine so rfl ?_|refine sb rfl ?_)
          refine ⟨(i, c), ⟨by simp only []; omega, by simp only []; omega, by simp only []; omega, f1, .inr ?_⟩, by simp only []; omega, Le.pick [0] ⟨rfl, rfl, rfl, rfl, rfl, trivial⟩ rfl⟩
          simp only []; omega
      · obtain rfl : i = j := by omega
        repeat (first|refine sc rfl ?_|refine so rfl ?_|refine sb rfl ?_)
        refine C_loop (fun k : Nat => ⟨[(0, .v (HD g n cc)), (10, I64 (i : Nat)), (13, I64 (k : Nat))], [.abs (arA g n cc (rot f a (a + 1) (k + 1)))]⟩) (fun k => a ≤ k ∧ k + 1 ≤ i) (fun k => i - k) a ⟨Nat.le_refl _, hi⟩ ?_ ?_
        · rw [rot_none]
          exact Le.pick [0] ⟨rfl, rfl, rfl, trivial⟩ rfl
        rintro k ⟨hk1, hk2⟩
        repeat (first|refine sc rfl ?_|refine so rfl ?_|refine sb rfl ?_)
        rw [w64 (x := (i : Int) - 1) (by omega) (by omega)]
        refine C_if rfl (fun m3 => ?_) (fun m3 => ?_) <;> simp only [pL] at m3
        · have hsw := swp_left f a k hk1
          repeat (first|refine sc rfl ?_|refine so rfl ?_|refine sb rfl ?_)
          refine C_drawX PY (fun ph => match ph with
            | 0 => [.abs (arA g n cc (rot f a (a + 1) (k + 1)))]
            | 1 => [.abs (arA g n cc (fun x => if x = k then (rot f a (a + 1) (k + 1)) (k + 1) else (rot f a (a + 1) (k + 1)) x))]
            | _ => [.abs (arA g n cc (rot f a (a + 1) (k + 1 + 1)))]) rfl (by kernel_rfl) (by decide) rfl ?_
          refine sx rfl ⟨trivial, ?_⟩
          refine sx rfl ⟨trivial, ?_⟩
          refine sx rfl ⟨trivial, ?_⟩
          refine sx rfl ⟨trivial, ?_⟩
          refine sx rfl ⟨trivial, ?_⟩
          rw [w64 (x := (k : Int) + 1) (by omega) (by omega), show (k : Int) + 1 = ((k + 1 : Nat) : Int) by omega]
          refine sx rfl ⟨trivial, ?_⟩
          refine sx rfl ⟨trivial, ?_⟩
          refine sx rfl ⟨trivial, ?_⟩
          rw [w64 (x := (k : Int) + 1) (by omega) (by omega), show (k : Int) + 1 = ((k + 1 : Nat) : Int) by omega]
          refine sx rfl ⟨by omega, ?_⟩
          rw [Int.toNat_natCast]
          refine SXr (.agg (Fld.c ((rot f a (a + 1) (k + 1)) (k + 1)))) 0 rfl rfl rfl rfl (X_loadP 0 (reads_vec (q := k + 1) (j := 0) (by omega) (by omega)) rfl rfl rfl rfl rfl rfl) ?_
          refine sx rfl ⟨trivial, ?_⟩
          refine sx rfl ⟨trivial, ?_⟩
          refine sx rfl ⟨by omega, ?_⟩
          rw [Int.toNat_natCast]
          refine SXr (.agg (Fld.c ((rot f a (a + 1) (k + 1)) (k)))) 0 rfl rfl rfl rfl (X_loadP 0 (reads_vec (q := k) (j := 0) (by omega) (by omega)) rfl rfl rfl rfl rfl rfl) ?_
          refine sx rfl ⟨by omega, ?_⟩
          rw [Int.toNat_natCast]
          refine SXw .bad 0 rfl rfl rfl rfl (X_storeV 0 (k) (row' := fun x => Fld.c (if x = k then (rot f a (a + 1) (k + 1)) (k + 1) else (rot f a (a + 1) (k + 1)) x)) rfl rfl rfl (by omega) rfl rfl rfl (by omega) rfl (fun x hx => ?_)) ?_
          · by_cases hx2 : x = k
            · rw [if_pos hx2, if_pos hx2]
            · rw [if_neg hx2, if_neg hx2]
          refine sx rfl ⟨by omega, ?_⟩
          rw [Int.toNat_natCast]
          refine SXw .bad 1 rfl rfl rfl rfl (X_storeV 0 (k + 1) (row' := fun x => Fld.c ((rot f a (a + 1) (k + 1 + 1)) x)) rfl rfl rfl (by omega) rfl rfl rfl (by omega) rfl (fun x hx => ?_)) ?_
          · rw [← hsw]
            unfold swp
            by_cases hx1 : x = k + 1
            · rw [if_pos hx1, if_pos hx1]
            · rw [if_neg hx1, if_neg hx1]
          refine sx rfl ?_
          repeat (first|refine sc rfl ?_|refine so rfl ?_|refine sb rfl ?_)
          rw [w64 (x := (k : Int) + 1) (by omega) (by omega)]
          refine ⟨k + 1, ⟨by omega, by omega⟩, by omega, Le.pick [0] ⟨rfl, rfl, rfl, trivial⟩ rfl⟩
        · obtain rfl : k + 1 = i := by omega
          repeat (first|refine sc rfl ?_|refine so rfl ?_|refine sb rfl ?_)
          exact ⟨_, [_], _, rfl, .refl _, rfl, rfl, _, rfl, (rot_perm f (by omega) hi).mono (Nat.le_refl _) hj, cut_left hi hj s2 f1 f2⟩
    repeat (first|refine sc rfl ?_|refine so rfl ?_|refine sb rfl ?_)
    rw [w64 (x := (b : Int) - (m : Int)) (by omega) (by omega)]
    refine C_if rfl (fun m2 => ?_) (fun m2 => ?_) <;> simp only [pL] at m2
    · obtain rfl : b = m + 1 := by omega
      repeat (first|refine sc rfl ?_|refine so rfl ?_|refine sb rfl ?_)
      refine C_loop (fun q : Nat × Nat => ⟨[(0, .v (HD g n cc)), (2, I64 (m : Nat)), (4, cmpV), (14, I64 (q.1 : Nat)), (15, I64 (q.2 : Nat))], [.abs (arA g n cc f)]⟩)
        (fun q => a ≤ q.1 ∧ q.1 ≤ q.2 ∧ q.2 ≤ m ∧ (q.1 = a ∨ (f (q.1 - 1)).tag ≤ (f m).tag) ∧ (q.2 = m ∨ (f m).tag < (f q.2).tag)) (fun q => q.2 - q.1) (a, m) ⟨Nat.le_refl _, by simp only []; omega, Nat.le_refl _, .inl rfl, .inl rfl⟩ (Le.pick [0] ⟨rfl, rfl, rfl, rfl, rfl, trivial⟩ rfl) ?_
      rintro ⟨i, j⟩ ⟨hi, hij, hj, f1, f2⟩
      simp only [] at hi hij hj f1 f2
      repeat (first|refine sc rfl ?_|refine so rfl ?_|refine sb rfl ?_)
      refine C_if rfl (fun m3 => ?_) (fun m3 => ?_) <;> simp only [pL] at m3
      · repeat (first|refine sc rfl ?_|refine so rfl ?_|refine sb rfl ?_)
        refine ⟨by decide, ?_⟩
        repeat (first|refine sc rfl ?_|refine so rfl ?_|refine sb rfl ?_)
        rw [mid_wrap (i := i) (j := j) (by omega)]
        have hc1 : i ≤ (i + j) / 2 := by omega
        have hc2 : (i + j) / 2 < j := by omega
        generalize (i + j) / 2 = c at hc1 hc2 ⊢
        refine C_drawD rfl (by kernel_rfl) ?_
        refine sd rfl ?_
        refine sd rfl ?_
        refine sd rfl ?_
        refine sd rfl ⟨by omega, ?_⟩
        rw [Int.toNat_natCast]
        refine D_X (.agg (Fld.c (f (m)))) (X_loadP 0 (reads_vec (q := m) (j := 0) (by omega) (by omega)) rfl rfl rfl rfl rfl rfl) ?_
        refine sd rfl ?_
        refine sd rfl ?_
        refine sd rfl ⟨by omega, ?_⟩
        rw [Int.toNat_natCast]
        refine D_X (.agg (Fld.c (f (c)))) (X_loadP 0 (reads_vec (q := c) (j := 0) (by omega) (by omega)) rfl rfl rfl rfl rfl rfl) ?_
        refine D_callV (isClo_func 125) rfl (hcmp _ _) rfl rfl rfl rfl rfl ?_
        repeat (first|refine sd rfl ?_|refine sdb rfl ?_|refine sds rfl ?_)
        repeat (first|refine sc rfl ?_|refine so rfl ?_|refine sb rfl ?_)
        refine C_if rfl (fun m4 => ?_) (fun m4 => ?_) <;> rw [cmp_lt] at m4 <;> simp only [pL] at m4
        · repeat (first|refine sc rfl ?_|refine so rfl ?_|refine sb rfl ?_)
          rw [w64 (x := (c : Int) + 1) (by omega) (by omega)]
          refine ⟨(c + 1, j), ⟨by simp only []; omega, by simp only []; omega, by simp only []; omega, .inr ?_, f2⟩, by simp only []; omega, Le.pick [0] ⟨rfl, rfl, rfl, rfl, rfl, trivial⟩ rfl⟩
          simp only [Nat.add_sub_cancel]; omega
        · repeat (first|refine sc rfl ?_|refine so rfl ?_|refine sb rfl ?_)
          refine ⟨(i, c), ⟨by simp only []; omega, by simp only []; omega, by simp only []; omega, f1, .inr ?_⟩, by simp only []; omega, Le.pick [0] ⟨rfl, rfl, rfl, rfl, rfl, trivial⟩ rfl⟩
          simp only []; exact m4
      · obtain rfl : i = j := by omega
        repeat (first|refine sc rfl ?_|refine so rfl ?_|refine sb rfl ?_)
        refine C_loop (fun k : Nat => ⟨[(0, .v (HD g n cc)), (14, I64 (i : Nat)), (17, I64 (k : Nat))], [.abs (arA g n cc (rot f k m (m + 1)))]⟩) (fun k => i ≤ k ∧ k ≤ m) (fun k => k) m ⟨hj, Nat.le_refl _⟩ ?_ ?_
        · rw [rot_none2]
          exact Le.pick [0] ⟨rfl, rfl, rfl, trivial⟩ rfl
        rintro k ⟨hk1, hk2⟩
        repeat (first|refine sc rfl ?_|refine so rfl ?_|refine sb rfl ?_)
        refine C_if rfl (fun m4 => ?_) (fun m4 => ?_) <;> simp only [pL] at m4
        · have hsw := swp_right f m k hk2 (by omega)
          repeat (first|refine sc rfl ?_|refine so rfl ?_|refine sb rfl ?_)
          refine C_drawX PY (fun ph => match ph with
            | 0 => [.abs (arA g n cc (rot f k m (m + 1)))]
            | 1 => [.abs (arA g n cc (fun x => if x = k then (rot f k m (m + 1)) (k - 1) else (rot f k m (m + 1)) x))]
            | _ => [.abs (arA g n cc (rot f (k - 1) m (m + 1)))]) rfl (by kernel_rfl) (by decide) rfl ?_
          refine sx rfl ⟨trivial, ?_⟩
          refine sx rfl ⟨trivial, ?_⟩
          refine sx rfl ⟨trivial, ?_⟩
          refine sx rfl ⟨trivial, ?_⟩
          refine sx rfl ⟨trivial, ?_⟩
          rw [w64 (x := (k : Int) - 1) (by omega) (by omega), show (k : Int) - 1 = ((k - 1 : Nat) : Int) by omega]
          refine sx rfl ⟨trivial, ?_⟩
          refine sx rfl ⟨trivial, ?_⟩
          refine sx rfl ⟨trivial, ?_⟩
          rw [w64 (x := (k : Int) - 1) (by omega) (by omega), show (k : Int) - 1 = ((k - 1 : Nat) : Int) by omega]
          refine sx rfl ⟨by omega, ?_⟩
          rw [Int.toNat_natCast]
          refine SXr (.agg (Fld.c ((rot f k m (m + 1)) (k - 1)))) 0 rfl rfl rfl rfl (X_loadP 0 (reads_vec (q := k - 1) (j := 0) (by omega) (by omega)) rfl rfl rfl rfl rfl rfl) ?_
          refine sx rfl ⟨trivial, ?_⟩
          refine sx rfl ⟨trivial, ?_⟩
          refine sx rfl ⟨by omega, ?_⟩
          rw [Int.toNat_natCast]
          refine SXr (.agg (Fld.c ((rot f k m (m + 1)) (k)))) 0 rfl rfl rfl rfl (X_loadP 0 (reads_vec (q := k) (j := 0) (by omega) (by omega)) rfl rfl rfl rfl rfl rfl) ?_
          refine sx rfl ⟨by omega, ?_⟩
          rw [Int.toNat_natCast]
          refine SXw .bad 0 rfl rfl rfl rfl (X_storeV 0 (k) (row' := fun x => Fld.c (if x = k then (rot f k m (m + 1)) (k - 1) else (rot f k m (m + 1)) x)) rfl rfl rfl (by omega) rfl rfl rfl (by omega) rfl (fun x hx => ?_)) ?_
          · by_cases hx2 : x = k
            · rw [if_pos hx2, if_pos hx2]
            · rw [if_neg hx2, if_neg hx2]
          refine sx rfl ⟨by omega, ?_⟩
          rw [Int.toNat_natCast]
          refine SXw .bad 1 rfl rfl rfl rfl (X_storeV 0 (k - 1) (row' := fun x => Fld.c ((rot f (k - 1) m (m + 1)) x)) rfl rfl rfl (by omega) rfl rfl rfl (by omega) rfl (fun x hx => ?_)) ?_
          · rw [← hsw]
            unfold swp
            by_cases hx1 : x = k - 1
            · rw [if_pos hx1, if_pos hx1]
            · rw [if_neg hx1, if_neg hx1]
          refine sx rfl ?_
          repeat (first|refine sc rfl ?_|refine so rfl ?_|refine sb rfl ?_)
          rw [w64 (x := (k : Int) - 1) (by omega) (by omega), show (k : Int) - 1 = ((k - 1 : Nat) : Int) by omega]
          refine ⟨k - 1, ⟨by omega, by omega⟩, by omega, Le.pick [0] ⟨rfl, rfl, rfl, trivial⟩ rfl⟩
        · obtain rfl : k = i := by omega
          repeat (first|refine sc rfl ?_|refine so rfl ?_|refine sb rfl ?_)
          exact ⟨_, [_], _, rfl, .refl _, rfl, rfl, _, rfl, (rot_perm f hj (by omega)).mono hi (Nat.le_refl _), cut_right hi hj s1 f1 f2⟩
    repeat (first|refine sc rfl ?_|refine so rfl ?_|refine sb rfl ?_)
    refine ⟨by decide, ?_⟩
    repeat (first|refine sc rfl ?_|refine so rfl ?_|refine sb rfl ?_)
    rw [mid_wrap (i := a) (j := b) (by omega)]
    generalize hmid : (a + b) / 2 = mid
    rw [w64 (x := (mid : Int) + (m : Int)) (by omega) (by omega), show (mid : Int) + (m : Int) = ((mid + m : Nat) : Int) by omega]
    generalize hnn : mid + m = nn
    refine C_joinE (fun q : Nat × Nat => ⟨[(0, .v (HD g n cc)), (1, I64 (a : Nat)), (2, I64 (m : Nat)), (3, I64 (b : Nat)), (4, cmpV), (18, I64 (mid : Nat)), (19, I64 (nn : Nat)), (20, I64 (q.1 : Nat)), (21, I64 (q.2 : Nat))], [.abs (arA g n cc f)]⟩)
      (fun q => a ≤ q.1 ∧ nn ≤ q.1 + b ∧ q.1 ≤ q.2 ∧ q.2 ≤ m ∧ q.2 + m ≤ nn ∧ (q.1 = a ∨ q.1 + b = nn) ∧ (q.2 = m ∨ q.2 + m = nn)) ?_ (fun q s hI hle => C_le _ hle ?_)
    · refine C_if rfl (fun m3 => ?_) (fun m3 => ?_) <;> simp only [pL] at m3
      · repeat (first|refine sc rfl ?_|refine so rfl ?_|refine sb rfl ?_)
        rw [w64 (x := (nn : Int) - (b : Int)) (by omega) (by omega), show (nn : Int) - (b : Int) = ((nn - b : Nat) : Int) by omega]
        exact ⟨(nn - b, mid), ⟨by simp only []; omega, by simp only []; omega, by simp only []; omega, by simp only []; omega, by simp only []; omega, .inr (by simp only []; omega), .inr (by simp only []; omega)⟩, Le.pick [0] ⟨rfl, rfl, rfl, rfl, rfl, rfl, rfl, rfl, rfl, trivial⟩ rfl⟩
      · repeat (first|refine sc rfl ?_|refine so rfl ?_|refine sb rfl ?_)
        exact ⟨(a, m), ⟨by simp only []; omega, by simp only []; omega, by simp only []; omega, by simp only []; omega, by simp only []; omega, .inl rfl, .inl rfl⟩, Le.pick [0] ⟨rfl, rfl, rfl, rfl, rfl, rfl, rfl, rfl, rfl, trivial⟩ rfl⟩
    obtain ⟨lo, hi⟩ := q
    obtain ⟨q1, q2, q3, q4, q5, q6, q7⟩ := hI
    simp only [] at q1 q2 q3 q4 q5 q6 q7
    repeat (first|refine sc rfl ?_|refine so rfl ?_|refine sb rfl ?_)
    rw [w64 (x := (nn : Int) - 1) (by omega) (by omega), show (nn : Int) - 1 = ((nn - 1 : Nat) : Int) by omega]
    refine C_loop (fun q : Nat × Nat => ⟨[(0, .v (HD g n cc)), (1, I64 (a : Nat)), (2, I64 (m : Nat)), (3, I64 (b : Nat)), (4, cmpV), (18, I64 (mid : Nat)), (19, I64 (nn : Nat)), (20, I64 (q.1 : Nat)), (21, I64 (q.2 : Nat)), (22, I64 ((nn - 1 : Nat) : Int))], [.abs (arA g n cc f)]⟩)
      (fun q => lo ≤ q.1 ∧ q.1 ≤ q.2 ∧ q.2 ≤ hi ∧ (q.1 = lo ∨ (f (q.1 - 1)).tag ≤ (f (nn - q.1)).tag) ∧ (q.2 = hi ∨ (f (nn - 1 - q.2)).tag < (f q.2).tag)) (fun q => q.2 - q.1) (lo, hi) ⟨Nat.le_refl _, q3, Nat.le_refl _, .inl rfl, .inl rfl⟩ (Le.pick [0] ⟨rfl, rfl, rfl, rfl, rfl, rfl, rfl, rfl, rfl, rfl, trivial⟩ rfl) ?_
    rintro ⟨i, j⟩ ⟨hi1, hij, hj, f1, f2⟩
    simp only [] at hi1 hij hj f1 f2
    repeat (first|refine sc rfl ?_|refine so rfl ?_|refine sb rfl ?_)
    refine C_if rfl (fun m3 => ?_) (fun m3 => ?_) <;> simp only [pL] at m3
    · repeat (first|refine sc rfl ?_|refine so rfl ?_|refine sb rfl ?_)
      refine ⟨by decide, ?_⟩
      repeat (first|refine sc rfl ?_|refine so rfl ?_|refine sb rfl ?_)
      rw [mid_wrap (i := i) (j := j) (by omega)]
      have hc1 : i ≤ (i + j) / 2 := by omega
      have hc2 : (i + j) / 2 < j := by omega
      generalize (i + j) / 2 = c at hc1 hc2 ⊢
      refine C_drawD rfl (by kernel_rfl) ?_
      refine sd rfl ?_
      refine sd rfl ?_
      refine sd rfl ?_
      refine sd rfl ?_
      refine sd rfl ?_
      rw [w64 (x := ((nn - 1 : Nat) : Int) - (c : Int)) (by omega) (by omega), show ((nn - 1 : Nat) : Int) - (c : Int) = ((nn - 1 - c : Nat) : Int) by omega]
      refine sd rfl ⟨by omega, ?_⟩
      rw [Int.toNat_natCast]
      refine D_X (.agg (Fld.c (f (nn - 1 - c)))) (X_loadP 0 (reads_vec (q := nn - 1 - c) (j := 0) (by omega) (by omega)) rfl rfl rfl rfl rfl rfl) ?_
      refine sd rfl ?_
      refine sd rfl ?_
      refine sd rfl ⟨by omega, ?_⟩
      rw [Int.toNat_natCast]
      refine D_X (.agg (Fld.c (f (c)))) (X_loadP 0 (reads_vec (q := c) (j := 0) (by omega) (by omega)) rfl rfl rfl rfl rfl rfl) ?_
      refine D_callV (isClo_func 125) rfl (hcmp _ _) rfl rfl rfl rfl rfl ?_
      repeat (first|refine sd rfl ?_|refine sdb rfl ?_|refine sds rfl ?_)
      repeat (first|refine sc rfl ?_|refine so rfl ?_|refine sb rfl ?_)
      refine C_if rfl (fun m4 => ?_) (fun m4 => ?_) <;> rw [cmp_lt] at m4 <;> simp only [pL] at m4
      · repeat (first|refine sc rfl ?_|refine so rfl ?_|refine sb rfl ?_)
        rw [w64 (x := (c : Int) + 1) (by omega) (by omega)]
        refine ⟨(c + 1, j), ⟨by simp only []; omega, by simp only []; omega, by simp only []; omega, .inr ?_, f2⟩, by simp only []; omega, Le.pick [0] ⟨rfl, rfl, rfl, rfl, rfl, rfl, rfl, rfl, rfl, rfl, trivial⟩ rfl⟩
        simp only [Nat.add_sub_cancel]
        rw [show nn - (c + 1) = nn - 1 - c by omega]; omega
      · repeat (first|refine sc rfl ?_|refine so rfl ?_|refine sb rfl ?_)
        refine ⟨(i, c), ⟨by simp only []; omega, by simp only []; omega, by simp only []; omega, f1, .inr ?_⟩, by simp only []; omega, Le.pick [0] ⟨rfl, rfl, rfl, rfl, rfl, rfl, rfl, rfl, rfl, rfl, trivial⟩ rfl⟩
        simp only []; exact m4
    · obtain rfl : i = j := by omega
      iterate 9 (first|refine sc rfl ?_|refine so rfl ?_|refine sb rfl ?_)
      rw [w64 (x := (nn : Int) - (i : Int)) (by omega) (by omega), show (nn : Int) - (i : Int) = ((nn - i : Nat) : Int) by omega]
      have hC : Cut f a m b i (nn - i) := cut_mid s1 s2 (by rw [hmid]; exact hnn.symm) q1 q2 hi1 hj q4 q5 q6 q7 f1 f2
      have hsm : i + (nn - i - m) = mid := by omega
      have hL := hC.left
      have hR := hC.right
      have hX := hC.cross
      rw [hsm] at hL hR hX
      generalize he : nn - i = e at *
      refine C_joinE (fun _ : Unit => ⟨[(0, .v (HD g n cc)), (1, I64 (a : Nat)), (2, I64 (m : Nat)), (3, I64 (b : Nat)), (4, cmpV), (18, I64 (mid : Nat)), (20, I64 (i : Nat)), (24, I64 (e : Nat))], [.abs (arA g n cc (rot f i m e))]⟩) (fun _ => True) ?_ (fun _ s _ hle => C_le _ hle ?_)
      · repeat (first|refine sc rfl ?_|refine so rfl ?_|refine sb rfl ?_)
        refine O_case 181 rfl (fun c1 => ?_) (fun c1 => ?_) <;> simp only [pL] at c1
        · repeat (first|refine sc rfl ?_|refine so rfl ?_|refine sb rfl ?_)
          refine C_if rfl (fun c2 => ?_) (fun c2 => ?_) <;> simp only [pL] at c2
          · have hA := rotate_A g n cc f i m e (by omega) (by omega) (by omega) hn
            repeat (first|refine sc rfl ?_|refine so rfl ?_|refine sb rfl ?_)
            refine O_callA [0] hA (by rfl) (by rfl) (by rfl) (by rfl) (by rfl) ?_
            rintro r cs' ⟨rfl, rfl⟩
            repeat (first|refine sc rfl ?_|refine so rfl ?_|refine sb rfl ?_)
            exact ⟨(), trivial, Le.pick [0] ⟨rfl, rfl, rfl, rfl, rfl, rfl, rfl, rfl, trivial⟩ rfl⟩
          · repeat (first|refine sc rfl ?_|refine so rfl ?_|refine sb rfl ?_)
            have hem : e = m := by omega
            have hr : rot f i m e = f := by rw [hem]; exact rot_none f i m
            refine ⟨(), trivial, ?_⟩
            rw [hr]
            exact Le.pick [0] ⟨rfl, rfl, rfl, rfl, rfl, rfl, rfl, rfl, trivial⟩ rfl
        · repeat (first|refine sc rfl ?_|refine so rfl ?_|refine sb rfl ?_)
          refine C_false rfl rfl ?_
          repeat (first|refine sc rfl ?_|refine so rfl ?_|refine sb rfl ?_)
          have him : i = m := by omega
          have hr : rot f i m e = f := by rw [him]; exact rot_none2 f m e
          refine ⟨(), trivial, ?_⟩
          rw [hr]
          exact Le.pick [0] ⟨rfl, rfl, rfl, rfl, rfl, rfl, rfl, rfl, trivial⟩ rfl
      have hP1 : PermOn a b f (rot f i m e) := (rot_perm f hC.sm hC.me).mono hC.ax hC.eb
      have hae := hC.ax
      have hme := hC.me
      have heb := hC.eb
      generalize hg1 : rot f i m e = g1 at *
      refine sc rfl ?_
      refine C_joinE (fun g2 : Nat → Fld => ⟨[(0, .v (HD g n cc)), (3, I64 (b : Nat)), (4, cmpV), (18, I64 (mid : Nat)), (24, I64 (e : Nat))], [.abs (arA g n cc g2)]⟩) (fun g2 => PermOn a mid g1 g2 ∧ Srt g2 a mid) ?_ (fun g2 s hI hle => C_le _ hle ?_)
      · repeat (first|refine sc rfl ?_|refine so rfl ?_|refine sb rfl ?_)
        refine O_case 195 rfl (fun c1 => ?_) (fun c1 => ?_) <;> simp only [pL] at c1
        · repeat (first|refine sc rfl ?_|refine so rfl ?_|refine sb rfl ?_)
          refine C_if rfl (fun c2 => ?_) (fun c2 => ?_) <;> simp only [pL] at c2
          · have hA := symMerge_A g n cc hn N a i mid g1 (by omega) (by omega) (by omega) (by omega) hL.1 hL.2
            repeat (first|refine sc rfl ?_|refine so rfl ?_|refine sb rfl ?_)
            refine O_callA [0] hA (by rfl) (by rfl) (by rfl) (by rfl) (by rfl) ?_
            rintro r cs' ⟨rfl, f', rfl, p1, p2⟩
            repeat (first|refine sc rfl ?_|refine so rfl ?_|refine sb rfl ?_)
            exact ⟨f', ⟨p1, p2⟩, Le.pick [0] ⟨rfl, rfl, rfl, rfl, rfl, trivial⟩ rfl⟩
          · repeat (first|refine sc rfl ?_|refine so rfl ?_|refine sb rfl ?_)
            refine ⟨g1, ⟨.refl _ _ _, ?_⟩, Le.pick [0] ⟨rfl, rfl, rfl, rfl, rfl, trivial⟩ rfl⟩
            have : i = mid := by omega
            rw [this] at hL; exact hL.1
        · repeat (first|refine sc rfl ?_|refine so rfl ?_|refine sb rfl ?_)
          refine C_false rfl rfl ?_
          repeat (first|refine sc rfl ?_|refine so rfl ?_|refine sb rfl ?_)
          refine ⟨g1, ⟨.refl _ _ _, ?_⟩, Le.pick [0] ⟨rfl, rfl, rfl, rfl, rfl, trivial⟩ rfl⟩
          have : i = a := by omega
          rw [this] at hL; exact hL.2
      obtain ⟨p1, t1⟩ := hI
      have hr1 : Srt g2 mid e := hR.1.congr (fun x hx hy => p1.out (by omega))
      have hr2 : Srt g2 e b := hR.2.congr (fun x hx hy => p1.out (by omega))
      have hfin : ∀ g3, PermOn mid b g2 g3 → Srt g3 mid b → PermOn a b f g3 ∧ Srt g3 a b := fun g3 p2 t2 => by
        obtain ⟨u1, u2⟩ := halves (a := a) (c := mid) (b := b) (by omega) (by omega) hX p1 t1 p2 t2
        exact ⟨hP1.trans u2, u1⟩
      repeat (first|refine sc rfl ?_|refine so rfl ?_|refine sb rfl ?_)
      refine O_case 209 rfl (fun c1 => ?_) (fun c1 => ?_) <;> simp only [pL] at c1
      · repeat (first|refine sc rfl ?_|refine so rfl ?_|refine sb rfl ?_)
        refine C_if rfl (fun c2 => ?_) (fun c2 => ?_) <;> simp only [pL] at c2
        · have hA := symMerge_A g n cc hn N mid e b g2 (by omega) (by omega) (by omega) hb hr1 hr2
          repeat (first|refine sc rfl ?_|refine so rfl ?_|refine sb rfl ?_)
          refine O_callA [0] hA (by rfl) (by rfl) (by rfl) (by rfl) (by rfl) ?_
          rintro r cs' ⟨rfl, f', rfl, p2, t2⟩
          repeat (first|refine sc rfl ?_|refine so rfl ?_|refine sb rfl ?_)
          exact ⟨_, [_], _, rfl, .refl _, rfl, rfl, f', rfl, hfin f' p2 t2⟩
        · repeat (first|refine sc rfl ?_|refine so rfl ?_|refine sb rfl ?_)
          refine ⟨_, [_], _, rfl, .refl _, rfl, rfl, g2, rfl, hfin g2 (.refl _ _ _) ?_⟩
          have : e = b := by omega
          rw [this] at hr1; exact hr1
      · repeat (first|refine sc rfl ?_|refine so rfl ?_|refine sb rfl ?_)
        refine C_false rfl rfl ?_
        repeat (first|refine sc rfl ?_|refine so rfl ?_|refine sb rfl ?_)
        refine ⟨_, [_], _, rfl, .refl _, rfl, rfl, g2, rfl, hfin g2 (.refl _ _ _) ?_⟩
        have : e = mid := by omega
        rw [this] at hr2; exact hr2
end Go.Proofs

namespace Go.Proofs
open Go.Sy Go.Lib

structure Ins (f : Nat → Fld) (a j i : Nat) : Prop where
  l : Srt f a j
  r : Srt f j (i + 1)
  x : ∀ p q, a ≤ p → p < j → j < q → q ≤ i → (f p).tag ≤ (f q).tag

theorem ins_start {f : Nat → Fld} {a i : Nat} (h : Srt f a i) : Ins f a i i := ⟨h, fun p q h1 h2 h3 => by
  have : p = q := by omega
  subst this; exact Int.le_refl _, fun p q _ _ h1 h2 => by omega⟩
theorem ins_done {f : Nat → Fld} {a j i : Nat} (h : Ins f a j i) (h1 : a ≤ j) (h2 : j ≤ i) (hd : j = a ∨ (f (j - 1)).tag ≤ (f j).tag) : Srt f a (i + 1) := by
  refine Srt.join (m := j) h.l h.r (fun p q hp hpj hjq hqi => ?_)
  rcases Nat.eq_or_lt_of_le hjq with e | e
  · subst e
    rcases hd with hd | hd
    · omega
    · have := h.l p (j - 1) hp (by omega) (by omega); omega
  · exact h.x p q hp hpj e (by omega)
theorem ins_step {f : Nat → Fld} {a j i : Nat} (h : Ins f a j i) (h1 : a < j) (h2 : j ≤ i) (hlt : (f j).tag < (f (j - 1)).tag) : Ins (swp f j (j - 1)) a (j - 1) i := by
  have e0 : ∀ p, p < j - 1 → swp f j (j - 1) p = f p := fun p hp => by unfold swp; rw [if_neg (by omega), if_neg (by omega)]
  have e1 : swp f j (j - 1) (j - 1) = f j := by unfold swp; rw [if_pos rfl]
  have e2 : swp f j (j - 1) j = f (j - 1) := by unfold swp; rw [if_neg (by omega), if_pos rfl]
  have e3 : ∀ p, j < p → swp f j (j - 1) p = f p := fun p hp => by unfold swp; rw [if_neg (by omega), if_neg (by omega)]
  refine ⟨fun p q hp hpq hq => ?_, fun p q hp hpq hq => ?_, fun p q hp hpj hjq hqi => ?_⟩
  · rw [e0 p (by omega), e0 q hq]; exact h.l p q hp hpq (by omega)
  · by_cases c1 : p = j - 1
    · subst c1
      rw [e1]
      by_cases c2 : q = j - 1
      · subst c2; rw [e1]; exact Int.le_refl _
      · by_cases c3 : q = j
        · rw [c3, e2]; omega
        · rw [e3 q (by omega)]; exact h.r j q (Nat.le_refl _) (by omega) hq
    · by_cases c2 : p = j
      · rw [c2, e2]
        by_cases c3 : q = j
        · rw [c3, e2]; exact Int.le_refl _
        · rw [e3 q (by omega)]; exact h.x (j - 1) q (by omega) (by omega) (by omega) (by omega)
      · rw [e3 p (by omega), e3 q (by omega)]; exact h.r p q (by omega) hpq hq
  · rw [e0 p hpj]
    by_cases c1 : q = j
    · rw [c1, e2]; exact h.l p (j - 1) hp (by omega) (by omega)
    · rw [e3 q (by omega)]; exact h.x p q hp (by omega) (by omega) hqi

theorem insSort_A (g n cc : Nat) (hn : n ≤ 1000) (a b : Nat) (f : Nat → Fld) (hab : a ≤ b) (hb : b ≤ n) :
    FnA Tryz.prog 255 [.v (HD g n cc), I64 (a : Nat), I64 (b : Nat), cmpV] [arA g n cc f] (fun r cs' => r = .tup [] ∧ ∃ f', cs' = [arA g n cc f'] ∧ PermOn a b f f' ∧ Srt f' a b) := by
  refine FnA.intro Tryz.tabOK Tryz.wide_ Tryz.func255 rfl (by decide) rfl (fun X => ?_)
  have hcmp : ∀ x y : Fld, _ := fun x y => CmpF_c x y
  repeat (first|refine sc rfl ?_|refine so rfl ?_|refine sb rfl ?_)
  rw [w64 (x := (a : Int) + 1) (by omega) (by omega)]
  refine C_loop (fun q : Nat × (Nat → Fld) => ⟨[(0, .v (HD g n cc)), (1, I64 (a : Nat)), (2, I64 (b : Nat)), (3, cmpV), (8, I64 (q.1 : Nat))], [.abs (arA g n cc q.2)]⟩)
    (fun q => a + 1 ≤ q.1 ∧ (q.1 ≤ b ∨ q.1 = a + 1) ∧ PermOn a b f q.2 ∧ Srt q.2 a q.1) (fun q => b - q.1) (a + 1, f) ⟨Nat.le_refl _, .inr rfl, .refl _ _ _, fun p q h1 h2 h3 => by
      simp only [] at h3
      have : p = q := by omega
      subst this; exact Int.le_refl _⟩ (Le.pick [0] ⟨rfl, rfl, rfl, rfl, rfl, trivial⟩ rfl) ?_
  rintro ⟨i, f1⟩ ⟨hi1, hi2, hp, hs⟩
  simp only [] at hi1 hi2 hp hs
  repeat (first|refine sc rfl ?_|refine so rfl ?_|refine sb rfl ?_)
  refine C_if rfl (fun m1 => ?_) (fun m1 => ?_) <;> simp only [pL] at m1
  · have hib : i < b := by omega
    repeat (first|refine sc rfl ?_|refine so rfl ?_|refine sb rfl ?_)
    refine C_loop (fun q : Nat × (Nat → Fld) => ⟨[(0, .v (HD g n cc)), (1, I64 (a : Nat)), (2, I64 (b : Nat)), (3, cmpV), (8, I64 (i : Nat)), (9, I64 (q.1 : Nat))], [.abs (arA g n cc q.2)]⟩)
      (fun q => a ≤ q.1 ∧ q.1 ≤ i ∧ PermOn a b f q.2 ∧ Ins q.2 a q.1 i) (fun q => q.1) (i, f1) ⟨by simp only []; omega, Nat.le_refl _, hp, ins_start hs⟩ (Le.pick [0] ⟨rfl, rfl, rfl, rfl, rfl, rfl, trivial⟩ rfl) ?_
    rintro ⟨j, f⟩ ⟨hj1, hj2, hp2, hI⟩
    simp only [] at hj1 hj2 hp2 hI
    repeat (first|refine sc rfl ?_|refine so rfl ?_|refine sb rfl ?_)
    refine C_drawD rfl (by kernel_rfl) ?_
    repeat (first|refine sd rfl ?_|refine sdb rfl ?_|refine sds rfl ?_)
    refine D_case 3 rfl (fun c1 => ?_) (fun c1 => ?_) <;> simp only [pL] at c1
    · have haj : a < j := by omega
      refine sd rfl ?_
      refine sd rfl ?_
      refine sd rfl ?_
      refine sd rfl ⟨by omega, ?_⟩
      rw [Int.toNat_natCast]
      refine D_X (.agg (Fld.c (f j))) (X_loadP 0 (reads_vec (q := j) (j := 0) (by omega) (by omega)) rfl rfl rfl rfl rfl rfl) ?_
      refine sd rfl ?_
      refine sd rfl ?_
      refine sd rfl ?_
      rw [w64 (x := (j : Int) - 1) (by omega) (by omega), show (j : Int) - 1 = ((j - 1 : Nat) : Int) by omega]
      refine sd rfl ⟨by omega, ?_⟩
      rw [Int.toNat_natCast]
      refine D_X (.agg (Fld.c (f (j - 1)))) (X_loadP 0 (reads_vec (q := j - 1) (j := 0) (by omega) (by omega)) rfl rfl rfl rfl rfl rfl) ?_
      refine D_callV (isClo_func 125) rfl (hcmp _ _) rfl rfl rfl rfl rfl ?_
      repeat (first|refine sd rfl ?_|refine sdb rfl ?_|refine sds rfl ?_)
      repeat (first|refine sc rfl ?_|refine so rfl ?_|refine sb rfl ?_)
      refine C_if rfl (fun m2 => ?_) (fun m2 => ?_) <;> rw [cmp_lt] at m2 <;> simp only [pL] at m2
      · have hsw : ∀ x, swp f j (j - 1) x = swp f j (j - 1) x := fun _ => rfl
        repeat (first|refine sc rfl ?_|refine so rfl ?_|refine sb rfl ?_)
        refine C_drawX PY (fun ph => match ph with
          | 0 => [.abs (arA g n cc (f))]
          | 1 => [.abs (arA g n cc (fun x => if x = j then (f) (j - 1) else (f) x))]
          | _ => [.abs (arA g n cc (swp f j (j - 1)))]) rfl (by kernel_rfl) (by decide) rfl ?_
        refine sx rfl ⟨trivial, ?_⟩
        refine sx rfl ⟨trivial, ?_⟩
        refine sx rfl ⟨trivial, ?_⟩
        refine sx rfl ⟨trivial, ?_⟩
        refine sx rfl ⟨trivial, ?_⟩
        rw [w64 (x := (j : Int) - 1) (by omega) (by omega), show (j : Int) - 1 = ((j - 1 : Nat) : Int) by omega]
        refine sx rfl ⟨trivial, ?_⟩
        refine sx rfl ⟨trivial, ?_⟩
        refine sx rfl ⟨trivial, ?_⟩
        rw [w64 (x := (j : Int) - 1) (by omega) (by omega), show (j : Int) - 1 = ((j - 1 : Nat) : Int) by omega]
        refine sx rfl ⟨by omega, ?_⟩
        rw [Int.toNat_natCast]
        refine SXr (.agg (Fld.c ((f) (j - 1)))) 0 rfl rfl rfl rfl (X_loadP 0 (reads_vec (q := j - 1) (j := 0) (by omega) (by omega)) rfl rfl rfl rfl rfl rfl) ?_
        refine sx rfl ⟨trivial, ?_⟩
        refine sx rfl ⟨trivial, ?_⟩
        refine sx rfl ⟨by omega, ?_⟩
        rw [Int.toNat_natCast]
        refine SXr (.agg (Fld.c ((f) (j)))) 0 rfl rfl rfl rfl (X_loadP 0 (reads_vec (q := j) (j := 0) (by omega) (by omega)) rfl rfl rfl rfl rfl rfl) ?_
        refine sx rfl ⟨by omega, ?_⟩
        rw [Int.toNat_natCast]
        refine SXw .bad 0 rfl rfl rfl rfl (X_storeV 0 (j) (row' := fun x => Fld.c (if x = j then (f) (j - 1) else (f) x)) rfl rfl rfl (by omega) rfl rfl rfl (by omega) rfl (fun x hx => ?_)) ?_
        · by_cases hx2 : x = j
          · rw [if_pos hx2, if_pos hx2]
          · rw [if_neg hx2, if_neg hx2]
        refine sx rfl ⟨by omega, ?_⟩
        rw [Int.toNat_natCast]
        refine SXw .bad 1 rfl rfl rfl rfl (X_storeV 0 (j - 1) (row' := fun x => Fld.c ((swp f j (j - 1)) x)) rfl rfl rfl (by omega) rfl rfl rfl (by omega) rfl (fun x hx => ?_)) ?_
        · unfold swp
          by_cases hx1 : x = j - 1
          · rw [if_pos hx1, if_pos hx1]
          · rw [if_neg hx1, if_neg hx1]
        refine sx rfl ?_
        repeat (first|refine sc rfl ?_|refine so rfl ?_|refine sb rfl ?_)
        rw [w64 (x := (j : Int) - 1) (by omega) (by omega), show (j : Int) - 1 = ((j - 1 : Nat) : Int) by omega]
        refine ⟨(j - 1, swp f j (j - 1)), ⟨by simp only []; omega, by simp only []; omega, hp2.trans (swp_perm f (by omega) (by omega)), ins_step hI haj hj2 m2⟩, by simp only []; omega, Le.pick [0] ⟨rfl, rfl, rfl, rfl, rfl, rfl, trivial⟩ rfl⟩
      · repeat (first|refine sc rfl ?_|refine so rfl ?_|refine sb rfl ?_)
        rw [w64 (x := (i : Int) + 1) (by omega) (by omega)]
        refine ⟨(i + 1, f), ⟨by simp only []; omega, .inl (by simp only []; omega), hp2, ins_done hI hj1 hj2 (.inr (by simp only []; omega))⟩, by simp only []; omega, Le.pick [0] ⟨rfl, rfl, rfl, rfl, rfl, trivial⟩ rfl⟩
    · repeat (first|refine sd rfl ?_|refine sdb rfl ?_|refine sds rfl ?_)
      repeat (first|refine sc rfl ?_|refine so rfl ?_|refine sb rfl ?_)
      refine C_false rfl rfl ?_
      repeat (first|refine sc rfl ?_|refine so rfl ?_|refine sb rfl ?_)
      rw [w64 (x := (i : Int) + 1) (by omega) (by omega)]
      refine ⟨(i + 1, f), ⟨by simp only []; omega, .inl (by simp only []; omega), hp2, ins_done hI hj1 hj2 (.inl (by omega))⟩, by simp only []; omega, Le.pick [0] ⟨rfl, rfl, rfl, rfl, rfl, trivial⟩ rfl⟩
  · repeat (first|refine sc rfl ?_|refine so rfl ?_|refine sb rfl ?_)
    exact ⟨_, [_], _, rfl, .refl _, rfl, rfl, f1, rfl, hp, hs.sub (Nat.le_refl _) (by omega)⟩
end Go.Proofs

namespace Go.Proofs
open Go.Sy Go.Lib

theorem stable_A (g n cc : Nat) (hn : n ≤ 39) (f : Nat → Fld) :
    FnA Tryz.prog 199 [.v (HD g n cc), I64 (n : Nat), cmpV] [arA g n cc f] (fun r cs' => r = .tup [] ∧ ∃ f', cs' = [arA g n cc f'] ∧ PermOn 0 n f f' ∧ Srt f' 0 n) := by
  refine FnA.intro Tryz.tabOK Tryz.wide_ Tryz.func199 rfl (by decide) rfl (fun X => ?_)
  repeat (first|refine sc rfl ?_|refine so rfl ?_|refine sb rfl ?_)
  refine C_loop (fun q : Nat × (Nat → Fld) => ⟨[(0, .v (HD g n cc)), (1, I64 (n : Nat)), (2, cmpV), (6, I64 20), (7, I64 (q.1 : Nat)), (8, I64 ((q.1 + 20 : Nat) : Int))], [.abs (arA g n cc q.2)]⟩)
    (fun q => (q.1 = 0 ∧ q.2 = f) ∨ (q.1 = 20 ∧ 20 ≤ n ∧ PermOn 0 n f q.2 ∧ Srt q.2 0 20)) (fun q => 20 - q.1) (0, f) (.inl ⟨rfl, rfl⟩) (Le.pick [0] ⟨rfl, rfl, rfl, rfl, rfl, rfl, trivial⟩ rfl) ?_
  rintro ⟨a, f1⟩ hI
  simp only [] at hI
  have ha : a ≤ 20 := by rcases hI with h | h <;> omega
  have han : a ≤ n := by rcases hI with h | h <;> omega
  repeat (first|refine sc rfl ?_|refine so rfl ?_|refine sb rfl ?_)
  refine C_if rfl (fun m1 => ?_) (fun m1 => ?_) <;> simp only [pL] at m1
  · have h20 : a = 0 ∧ f1 = f := by
      rcases hI with h | h
      · exact h
      · omega
    obtain ⟨rfl, rfl⟩ := h20
    have hA := insSort_A g n cc (by omega) 0 20 f1 (by omega) (by omega)
    repeat (first|refine sc rfl ?_|refine so rfl ?_|refine sb rfl ?_)
    refine O_callA [0] hA (by rfl) (by rfl) (by rfl) (by rfl) (by rfl) ?_
    rintro r cs' ⟨rfl, f', rfl, p1, t1⟩
    repeat (first|refine sc rfl ?_|refine so rfl ?_|refine sb rfl ?_)
    refine ⟨(20, f'), .inr ⟨rfl, by omega, p1.mono (Nat.le_refl _) (by omega), t1⟩, by simp only []; omega, Le.pick [0] ⟨rfl, rfl, rfl, rfl, rfl, rfl, trivial⟩ rfl⟩
  · have hA := insSort_A g n cc (by omega) a n f1 han (Nat.le_refl _)
    have hp0 : PermOn 0 n f f1 := by
      rcases hI with ⟨_, rfl⟩ | h
      · exact .refl _ _ _
      · exact h.2.2.1
    have hn20 : a = 20 → Srt f1 0 20 := by
      intro h
      rcases hI with h2 | h2
      · omega
      · exact h2.2.2.2
    have h0 : a = 0 ∨ a = 20 := by rcases hI with h | h <;> omega
    repeat (first|refine sc rfl ?_|refine so rfl ?_|refine sb rfl ?_)
    refine O_callA [0] hA (by rfl) (by rfl) (by rfl) (by rfl) (by rfl) ?_
    rintro r cs' ⟨rfl, f2, rfl, p1, t1⟩
    repeat (first|refine sc rfl ?_|refine so rfl ?_|refine sb rfl ?_)
    refine C_loop (fun q : Nat × (Nat → Fld) => ⟨[(0, .v (HD g n cc)), (1, I64 (n : Nat)), (2, cmpV), (6, I64 (q.1 : Nat))], [.abs (arA g n cc q.2)]⟩)
      (fun q => PermOn 0 n f q.2 ∧ ((q.1 = 20 ∧ (20 < n → Srt q.2 0 20 ∧ Srt q.2 20 n) ∧ (n ≤ 20 → Srt q.2 0 n)) ∨ (q.1 = 40 ∧ Srt q.2 0 n))) (fun q => 40 - q.1) (20, f2) ⟨hp0.trans (p1.mono (Nat.zero_le _) (Nat.le_refl _)), .inl ⟨rfl, ?_, ?_⟩⟩ (Le.pick [0] ⟨rfl, rfl, rfl, rfl, trivial⟩ rfl) ?_
    · intro hlt
      have ha20 : a = 20 := by omega
      subst ha20
      exact ⟨(hn20 rfl).congr (fun x hx hy => p1.out (by omega)), t1⟩
    · intro hle
      rcases h0 with h | h
      · subst h; exact t1
      · subst h
        exact Srt.join (m := 20) ((hn20 rfl).congr (fun x hx hy => p1.out (by omega))) t1 (fun x y _ _ _ _ => by omega)
    rintro ⟨bs, f3⟩ ⟨hp3, hI3⟩
    simp only [] at hp3 hI3
    have hbs : bs = 20 ∨ bs = 40 := by rcases hI3 with h | h <;> omega
    repeat (first|refine sc rfl ?_|refine so rfl ?_|refine sb rfl ?_)
    refine C_if rfl (fun m2 => ?_) (fun m2 => ?_) <;> simp only [pL] at m2
    · have h20 : bs = 20 := by omega
      subst h20
      have hI4 : Srt f3 0 20 ∧ Srt f3 20 n := by
        rcases hI3 with h | h
        · exact h.2.1 (by omega)
        · omega
      repeat (first|refine sc rfl ?_|refine so rfl ?_|refine sb rfl ?_)
      refine C_loop (fun _ : Unit => ⟨[(0, .v (HD g n cc)), (1, I64 (n : Nat)), (2, cmpV), (6, I64 20), (7, I64 0), (8, I64 40)], [.abs (arA g n cc f3)]⟩) (fun _ => True) (fun _ => 0) () trivial (Le.pick [0] ⟨rfl, rfl, rfl, rfl, rfl, rfl, trivial⟩ rfl) ?_
      intro _ _
      repeat (first|refine sc rfl ?_|refine so rfl ?_|refine sb rfl ?_)
      refine C_false rfl (by simp; omega) ?_
      repeat (first|refine sc rfl ?_|refine so rfl ?_|refine sb rfl ?_)
      refine C_true rfl (by
        have h20 : IntKind.i64.wrap (20 : Int) = 20 := rfl
        simp [h20]; omega) ?_
      have hA := symMerge_A g n cc (by omega) n 0 20 n f3 (by omega) (by omega) (by omega) (Nat.le_refl _) hI4.1 hI4.2
      repeat (first|refine sc rfl ?_|refine so rfl ?_|refine sb rfl ?_)
      refine O_callA [0] hA (by rfl) (by rfl) (by rfl) (by rfl) (by rfl) ?_
      rintro r cs' ⟨rfl, f4, rfl, p4, t4⟩
      repeat (first|refine sc rfl ?_|refine so rfl ?_|refine sb rfl ?_)
      exact ⟨(40, f4), ⟨hp3.trans p4, .inr ⟨rfl, t4⟩⟩, by simp only []; omega, Le.pick [0] ⟨rfl, rfl, rfl, rfl, trivial⟩ rfl⟩
    · repeat (first|refine sc rfl ?_|refine so rfl ?_|refine sb rfl ?_)
      refine ⟨_, [_], _, rfl, .refl _, rfl, rfl, f3, rfl, hp3, ?_⟩
      rcases hI3 with h | h
      · exact h.2.2 (by omega)
      · exact h.2

theorem Sort_A (g n cc : Nat) (hn : n ≤ 39) (f : Nat → Fld) :
    FnA Tryz.prog 124 [.v (HD g n cc), cmpV] [arA g n cc f] (fun r cs' => r = .tup [] ∧ ∃ f', cs' = [arA g n cc f'] ∧ PermOn 0 n f f' ∧ Srt f' 0 n) := by
  refine FnA.intro Tryz.tabOK Tryz.wide_ Tryz.func124 rfl (by decide) rfl (fun X => ?_)
  repeat (first|refine sc rfl ?_|refine so rfl ?_|refine sb rfl ?_)
  refine O_callA [0] (stable_A g n cc hn f) (by rfl) (by rfl) (by rfl) (by rfl) (by rfl) ?_
  rintro r cs' ⟨rfl, f', rfl, p1, t1⟩
  repeat (first|refine sc rfl ?_|refine so rfl ?_|refine sb rfl ?_)
  exact ⟨_, [_], _, rfl, .refl _, rfl, rfl, f', rfl, p1, t1⟩

abbrev nilH : AV := .v (.slice none 0 0)
theorem insSort_nil : FnP Tryz.prog 255 [nilH, I64 0, I64 0, cmpV] (· = .tup []) := by
  refine FnP.intro Tryz.tabOK Tryz.wide_ Tryz.func255 rfl (by decide) rfl (fun X => ?_)
  repeat (first|refine sc rfl ?_|refine so rfl ?_|refine sb rfl ?_)
  refine C_loop (fun _ : Unit => ⟨[(2, I64 0), (8, I64 1)], []⟩) (fun _ => True) (fun _ => 0) () trivial (Le.sub [] ⟨rfl, rfl, trivial⟩ rfl) ?_
  intro _ _
  repeat (first|refine sc rfl ?_|refine so rfl ?_|refine sb rfl ?_)
  refine C_false rfl rfl ?_
  repeat (first|refine sc rfl ?_|refine so rfl ?_|refine sb rfl ?_)
  exact ⟨_, rfl, rfl, rfl⟩
theorem stable_nil : FnP Tryz.prog 199 [nilH, I64 0, cmpV] (· = .tup []) := by
  refine FnP.intro Tryz.tabOK Tryz.wide_ Tryz.func199 rfl (by decide) rfl (fun X => ?_)
  repeat (first|refine sc rfl ?_|refine so rfl ?_|refine sb rfl ?_)
  refine C_loop (fun _ : Unit => ⟨[(0, nilH), (1, I64 0), (2, cmpV), (6, I64 20), (7, I64 0), (8, I64 20)], []⟩) (fun _ => True) (fun _ => 0) () trivial (Le.sub [] ⟨rfl, rfl, rfl, rfl, rfl, rfl, trivial⟩ rfl) ?_
  intro _ _
  repeat (first|refine sc rfl ?_|refine so rfl ?_|refine sb rfl ?_)
  refine C_false rfl rfl ?_
  repeat (first|refine sc rfl ?_|refine so rfl ?_|refine sb rfl ?_)
  refine O_call insSort_nil (by rfl) (by rfl) (by rfl) (by rfl) (fun r hr => ?_)
  subst hr
  repeat (first|refine sc rfl ?_|refine so rfl ?_|refine sb rfl ?_)
  refine C_loop (fun _ : Unit => ⟨[(1, I64 0), (6, I64 20)], []⟩) (fun _ => True) (fun _ => 0) () trivial (Le.sub [] ⟨rfl, rfl, trivial⟩ rfl) ?_
  intro _ _
  repeat (first|refine sc rfl ?_|refine so rfl ?_|refine sb rfl ?_)
  refine C_false rfl rfl ?_
  repeat (first|refine sc rfl ?_|refine so rfl ?_|refine sb rfl ?_)
  exact ⟨_, rfl, rfl, rfl⟩
theorem Sort_nil : FnP Tryz.prog 124 [nilH, cmpV] (· = .tup []) := by
  refine FnP.intro Tryz.tabOK Tryz.wide_ Tryz.func124 rfl (by decide) rfl (fun X => ?_)
  repeat (first|refine sc rfl ?_|refine so rfl ?_|refine sb rfl ?_)
  refine O_call stable_nil (by rfl) (by rfl) (by rfl) (by rfl) (fun r hr => ?_)
  subst hr
  repeat (first|refine sc rfl ?_|refine so rfl ?_|refine sb rfl ?_)
  exact ⟨_, rfl, rfl, rfl⟩
end Go.Proofs

namespace Go.Proofs
open Go.Sy Go.Lib

theorem Clone_FA (F : List Fld) (hF : F.length ≤ 1000) : FnA Tryz.prog 123 [SL 5 Fld.c F] [] (fun r cs' => (r = nilH ∧ F = [] ∧ cs' = []) ∨ ∃ g cc, r = .v (HD g F.length cc) ∧ cs' = [arA g F.length cc (fun i => F.getD i default)]) := by
  refine FnA.intro Tryz.tabOK Tryz.wide_ Tryz.func123 rfl (by decide) rfl (fun X => ?_)
  repeat (first|refine sc rfl ?_|refine so rfl ?_|refine sb rfl ?_)
  refine O_nilsl Tryz.underlying56 rfl rfl rfl (fun b hb => ?_)
  repeat (first|refine sc rfl ?_|refine so rfl ?_|refine sb rfl ?_)
  cases b with
  | true =>
    have h0 : F = [] := List.length_eq_zero_iff.1 (hb rfl)
    subst h0
    refine C_true rfl rfl ?_
    repeat (first|refine sc rfl ?_|refine so rfl ?_|refine sb rfl ?_)
    exact ⟨_, [], _, rfl, .refl _, rfl, .inl ⟨rfl, rfl, rfl⟩⟩
  | false =>
    refine C_false rfl rfl ?_
    repeat (first|refine sc rfl ?_|refine so rfl ?_|refine sb rfl ?_)
    refine O_empty (fun i => Fld.c (F.getD i default)) rfl rfl rfl rfl rfl ?_
    repeat (first|refine sc rfl ?_|refine so rfl ?_|refine sb rfl ?_)
    refine O_append (m2 := F.length) (m3 := F.length) (row3 := fun i => Fld.c (F.getD i default)) (s2 := [(0, SL 5 Fld.c F)]) rfl rfl rfl rfl rfl (src_sl rfl (fun i _ => rfl)) rfl ⟨rfl, trivial⟩ rfl rfl (by show (0 + F.length) * 72 ≤ 140737488355328; omega) (by show 0 + F.length ≤ maxLen; simp only [maxLen]; omega) (by omega) (fun i hi => ?_) ?_
    · unfold appRow
      rw [if_neg (Nat.not_lt_zero _), Nat.sub_zero]
    · refine O_absv 7 rfl rfl (fun h0 => ?_) (fun g cc => ?_)
      · repeat (first|refine sc rfl ?_|refine so rfl ?_|refine sb rfl ?_)
        exact ⟨_, [], _, rfl, .refl _, rfl, .inl ⟨rfl, List.length_eq_zero_iff.1 h0, rfl⟩⟩
      · repeat (first|refine sc rfl ?_|refine so rfl ?_|refine sb rfl ?_)
        exact ⟨_, [_], _, rfl, .refl _, rfl, .inr ⟨g, cc, rfl, rfl⟩⟩

def SrtOf (F R : List Fld) : Prop := R.length = F.length ∧ PermOn 0 F.length (fun i => F.getD i default) (fun i => R.getD i default) ∧ Srt (fun i => R.getD i default) 0 F.length
def esOf (l : List Dcl) (Rs : List (List Fld)) : List (List UInt8 × AV) := ((l.map (·.name)).zip Rs).map fun q => (q.1, SL 5 Fld.c q.2)
def RowsOK (l : List Dcl) (Rs : List (List Fld)) : Prop := Rs.length = l.length ∧ ∀ i, i < l.length → SrtOf (l.getD i default).fields (Rs.getD i default)

abbrev dscA (b : Nat) (l : List Dcl) (o1 o2 o3 : Value) (t m : AV) : Abs := boxA b 165 [SL 5 Dcl.c l, .v o1, .v o2, .v o3, t, m]

theorem esOf_look (nm : List UInt8) : ∀ (l : List Dcl) (Rs : List (List Fld)), Rs.length ≤ l.length → lookE nm (esOf l Rs) = (match fndL nm l with
    | none => none
    | some j => if j < Rs.length then some (SL 5 Fld.c (Rs.getD j default)) else none)
  | [], Rs, h => by
    have : Rs = [] := List.length_eq_zero_iff.1 (by simpa using h)
    subst this; rfl
  | d :: l, [], h => by
    simp only [esOf, List.zip_nil_right, List.map_nil, lookE]
    cases fndL nm (d :: l) <;> simp
  | d :: l, R :: Rs, h => by
    have ih := esOf_look nm l Rs (by simpa using h)
    simp only [esOf, List.map_cons, List.zip_cons_cons, lookE, fndL]
    by_cases hd : d.name = nm
    · simp [hd]
    · rw [if_neg hd, if_neg hd]
      have : lookE nm (List.map (fun q => (q.1, SL 5 Fld.c q.2)) ((l.map (·.name)).zip Rs)) = lookE nm (esOf l Rs) := rfl
      rw [this, ih]
      cases fndL nm l with
      | none => rfl
      | some j => simp
theorem esOf_snoc (l : List Dcl) (Rs : List (List Fld)) (R : List Fld) (h : Rs.length < l.length) : esOf l (Rs ++ [R]) = esOf l Rs ++ [((l.getD Rs.length default).name, SL 5 Fld.c R)] := by
  unfold esOf
  have e1 : l.map (·.name) = (l.map (·.name)).take Rs.length ++ (l.getD Rs.length default).name :: (l.map (·.name)).drop (Rs.length + 1) := by
    rw [← List.map_take, ← List.map_drop]
    conv => lhs; rw [← List.take_append_drop Rs.length l, List.drop_eq_getElem_cons h]
    rw [List.map_append, List.map_cons, getD_at h]
  have e2 : ((l.map (·.name)).take Rs.length).length = Rs.length := by simp; omega
  rw [e1, List.zip_append (by rw [e2])]
  conv => rhs; rw [show Rs = Rs ++ [] by simp, List.zip_append (by simp; omega)]
  simp

theorem ready1_A (b : Nat) (l : List Dcl) (hl : FewL l) (h30 : ∀ i, i < l.length → (l.getD i default).fields.length ≤ 39) (hW : ∀ i, i < l.length → fndL (l.getD i default).name l = some i) (o1 o2 o3 : Value) (t0 m0 : AV) (ht : t0.imm = true) (hm : m0.imm = true) :
    FnA Tryz.prog 122 [.cp [PT b 0]] [dscA b l o1 o2 o3 t0 m0] (fun r cs' => r = .tup [] ∧ ∃ Rs, RowsOK l Rs ∧ cs' = [dscA b l o1 o2 o3 (tabV l) (mapE S (esOf l Rs))]) := by
  refine FnA.intro Tryz.tabOK Tryz.wide_ Tryz.func122 rfl (by decide) rfl (fun X => ?_)
  have hlen := hl.1
  repeat (first|refine sc rfl ?_|refine so rfl ?_|refine sb rfl ?_)
  refine C_drawU 20 6 rfl (by kernel_rfl) (by kernel_rfl) (by kernel_rfl) ?_
  repeat (first|refine sd rfl ?_|refine sdb rfl ?_|refine sds rfl ?_)
  refine D_X (SL 5 Dcl.c l) (X_loadP 0 (reads_box 0) rfl rfl rfl rfl rfl rfl) ?_
  refine D_call (Of_w l hl.1) rfl rfl rfl rfl ?_
  repeat (first|refine sd rfl ?_|refine sdb rfl ?_|refine sds rfl ?_)
  repeat (first|refine sc rfl ?_|refine so rfl ?_|refine sb rfl ?_)
  refine O_Xn (X_storeP 0 (writes_box (by show 4 < 6; decide)) rfl rfl rfl rfl rfl rfl rfl) ?_
  repeat (first|refine sc rfl ?_|refine so rfl ?_|refine sb rfl ?_)
  refine O_makeMap S rfl (fun mb => ?_)
  repeat (first|refine sc rfl ?_|refine so rfl ?_|refine sb rfl ?_)
  refine O_Xn (X_storeP 1 (writes_box (by show 5 < 6; decide)) rfl rfl rfl rfl rfl rfl rfl) ?_
  repeat (first|refine sc rfl ?_|refine so rfl ?_|refine sb rfl ?_)
  refine O_loadP 0 (reads_box 0) rfl rfl rfl rfl rfl rfl ?_
  repeat (first|refine sc rfl ?_|refine so rfl ?_|refine sb rfl ?_)
  refine C_loop (fun q : Nat × List (List Fld) => ⟨[(0, .cp [PT b 0]), (19, SL 5 Dcl.c l), (20, I64 (l.length : Nat)), (21, I64 (q.1 : Nat))], [.abs (dscA b l o1 o2 o3 (tabV l) (.v (.map (some mb)))), .abs (mapA S (some mb) (esOf l q.2))]⟩)
    (fun q => q.1 ≤ l.length ∧ q.2.length = q.1 ∧ ∀ i, i < q.1 → SrtOf (l.getD i default).fields (q.2.getD i default)) (fun q => l.length - q.1) (0, []) ⟨Nat.zero_le _, rfl, fun i hi => absurd hi (Nat.not_lt_zero _)⟩ ?_ ?_
  · have : esOf l [] = [] := by unfold esOf; simp
    rw [this]
    exact Le.pick [0, 0] ⟨rfl, rfl, rfl, rfl, trivial⟩ rfl
  rintro ⟨k, Rs⟩ ⟨hk, hRl, hR⟩
  simp only [] at hk hRl hR
  repeat (first|refine sc rfl ?_|refine so rfl ?_|refine sb rfl ?_)
  refine C_if rfl (fun m1 => ?_) (fun m1 => ?_) <;> simp only [pL] at m1
  · have hkl : k < l.length := by omega
    have hnew : lookE (l.getD k default).name (esOf l Rs) = none := by
      rw [esOf_look _ _ _ (by omega), hW k hkl]
      simp only []
      rw [if_neg (by omega)]
    have hnext : ∀ R, SrtOf (l.getD k default).fields R → (Rs ++ [R]).length = k + 1 ∧ (∀ i, i < k + 1 → SrtOf (l.getD i default).fields ((Rs ++ [R]).getD i default)) ∧ updE (l.getD k default).name (SL 5 Fld.c R) (esOf l Rs) = esOf l (Rs ++ [R]) := fun R hS => by
      refine ⟨by simp [hRl], fun i hi => ?_, ?_⟩
      · by_cases hik : i < k
        · have : (Rs ++ [R]).getD i default = Rs.getD i default := by
            rw [List.getD_eq_getElem?_getD, List.getD_eq_getElem?_getD, List.getElem?_append_left (by omega)]
          rw [this]; exact hR i hik
        · obtain rfl : i = k := by omega
          have : (Rs ++ [R]).getD i default = R := by
            rw [List.getD_eq_getElem?_getD, List.getElem?_append_right (by omega), hRl, Nat.sub_self]; rfl
          rw [this]; exact hS
      · rw [updE_new hnew, esOf_snoc l Rs R (by omega), hRl]
    repeat (first|refine sc rfl ?_|refine so rfl ?_|refine sb rfl ?_)
    refine ⟨by omega, ?_⟩
    rw [Int.toNat_natCast]
    repeat (first|refine sc rfl ?_|refine so rfl ?_|refine sb rfl ?_)
    refine O_callA [] (Clone_FA (l.getD k default).fields (hl.2 k hkl).f.1) (by rfl) (by rfl) (by rfl) (by rfl) (by rfl) ?_
    rintro r cs' (⟨rfl, hF0, rfl⟩ | ⟨g, cc, rfl, rfl⟩)
    · repeat (first|refine sc rfl ?_|refine so rfl ?_|refine sb rfl ?_)
      refine O_call Sort_nil (by rfl) (by rfl) (by rfl) (by rfl) (fun r hr => ?_)
      subst hr
      iterate 1 (first|refine sc rfl ?_|refine so rfl ?_|refine sb rfl ?_)
      refine C_le _ (Le.conv 3 (y := SL 5 Fld.c []) rfl (fun e v h => by simp only [Rep] at h ⊢; exact repI_nil (by simpa only [RepI] using h))) ?_
      repeat (first|refine sc rfl ?_|refine so rfl ?_|refine sb rfl ?_)
      refine C_drawU 20 7 rfl (by kernel_rfl) (by kernel_rfl) (by kernel_rfl) ?_
      repeat (first|refine sd rfl ?_|refine sdb rfl ?_|refine sds rfl ?_)
      refine D_X (.v (.map (some mb))) (X_loadP 1 (reads_box 5) rfl rfl rfl rfl rfl rfl) ?_
      repeat (first|refine sd rfl ?_|refine sdb rfl ?_|refine sds rfl ?_)
      refine O_Xn (X_updS 2 sK Tryz.underlying163 sameBits_str (fun e v h => kS e h) rfl rfl rfl rfl rfl rfl) ?_
      repeat (first|refine sc rfl ?_|refine so rfl ?_|refine sb rfl ?_)
      rw [w64 (x := (k : Int) + 1) (by omega) (by omega)]
      obtain ⟨u1, u2, u3⟩ := hnext [] (by rw [hF0]; exact ⟨rfl, .refl _ _ _, fun p q _ _ h => absurd h (Nat.not_lt_zero _)⟩)
      refine ⟨(k + 1, Rs ++ [[]]), ⟨by simp only []; omega, u1, u2⟩, by simp only []; omega, ?_⟩
      simp only [← u3]
      exact Le.pick [2, 0] ⟨rfl, rfl, rfl, rfl, trivial⟩ rfl
    · have hS := Sort_A g (l.getD k default).fields.length cc (h30 k hkl) (fun i => (l.getD k default).fields.getD i default)
      repeat (first|refine sc rfl ?_|refine so rfl ?_|refine sb rfl ?_)
      refine O_callA [0] hS (by rfl) (by rfl) (by rfl) (by rfl) (by rfl) ?_
      rintro r cs' ⟨rfl, f', rfl, p1, t1⟩
      iterate 1 (first|refine sc rfl ?_|refine so rfl ?_|refine sb rfl ?_)
      have hRl2 : ((List.range (l.getD k default).fields.length).map f').length = (l.getD k default).fields.length := by simp
      have hRg : ∀ i, i < (l.getD k default).fields.length → ((List.range (l.getD k default).fields.length).map f').getD i default = f' i := fun i hi => by
        rw [List.getD_eq_getElem?_getD, List.getElem?_map, List.getElem?_range hi]; rfl
      have hSO : SrtOf (l.getD k default).fields ((List.range (l.getD k default).fields.length).map f') := by
        refine ⟨hRl2, ?_, fun p q hp hpq hq => ?_⟩
        · obtain ⟨p, r, k1, k2⟩ := p1
          refine ⟨p, r, fun i ha hb => ?_, fun i hi => ?_⟩
          · obtain ⟨v1, v2, v3, v4, v5⟩ := k1 i ha hb
            exact ⟨v1, v2, v3, v4, by simp only []; rw [hRg i hb]; exact v5⟩
          · simp only []
            rw [List.getD_eq_getElem?_getD, List.getElem?_eq_none (by rw [hRl2]; omega), List.getD_eq_getElem?_getD, List.getElem?_eq_none (by omega)]
        · simp only []
          rw [hRg p (by omega), hRg q hq]; exact t1 p q hp hpq hq
      generalize hRdef : (List.range (l.getD k default).fields.length).map f' = R at *
      refine C_le _ (Le.frVec 0 (fun i => Fld.c (R.getD i default)) rfl (fun i hi => by rw [hRg i hi])) ?_
      refine C_le _ (Le.slotA 0 3 rfl rfl) ?_
      refine C_le _ (Le.conv 3 (y := SL 5 Fld.c R) rfl (fun e v h => by
        show Rep e (.sl R.length 5 (fun i => Fld.c (R.getD i default))) v
        rw [hRl2]; exact h)) ?_
      repeat (first|refine sc rfl ?_|refine so rfl ?_|refine sb rfl ?_)
      refine C_drawU 20 7 rfl (by kernel_rfl) (by kernel_rfl) (by kernel_rfl) ?_
      repeat (first|refine sd rfl ?_|refine sdb rfl ?_|refine sds rfl ?_)
      refine D_X (.v (.map (some mb))) (X_loadP 2 (reads_box 5) rfl rfl rfl rfl rfl rfl) ?_
      repeat (first|refine sd rfl ?_|refine sdb rfl ?_|refine sds rfl ?_)
      refine O_Xn (X_updS 3 sK Tryz.underlying163 sameBits_str (fun e v h => kS e h) rfl rfl rfl rfl rfl rfl) ?_
      repeat (first|refine sc rfl ?_|refine so rfl ?_|refine sb rfl ?_)
      rw [w64 (x := (k : Int) + 1) (by omega) (by omega)]
      obtain ⟨u1, u2, u3⟩ := hnext R hSO
      refine ⟨(k + 1, Rs ++ [R]), ⟨by simp only []; omega, u1, u2⟩, by simp only []; omega, ?_⟩
      simp only [← u3]
      exact Le.pick [3, 0] ⟨rfl, rfl, rfl, rfl, trivial⟩ rfl
  · obtain rfl : k = l.length := by omega
    refine C_le _ (Le.frMap 1 rfl) ?_
    refine C_le _ (Le.cellA 1 0 5 rfl rfl) ?_
    repeat (first|refine sc rfl ?_|refine so rfl ?_|refine sb rfl ?_)
    refine ⟨_, [_], _, rfl, .refl _, rfl, rfl, Rs, ⟨hRl, hR⟩, rfl⟩
end Go.Proofs

namespace Go.Proofs
open Go.Sy Go.Lib

noncomputable def B32_F (x : Bool) : Option (Int) :=
  cond x (some 1) (some 0)
theorem B32_w (x : Bool) (r : Int) (h : B32_F x = some r) : FnP Tryz.prog 285 [B x] (· = .v (.int .u32 r)) := by
  unfold B32_F at h
  refine FnP.intro Tryz.tabOK Tryz.wide_ Tryz.func285 rfl (by decide) rfl (fun X => ?_)
  iterate 2 refine sc rfl ?_
  first|refine so rfl ?_|refine sb rfl ?_
  refine so rfl ?_
  iterate 3 refine sc rfl ?_
  first|refine so rfl ?_|refine sb rfl ?_
  refine so rfl ?_
  refine C_if rfl (fun hb1 => ?_) (fun hb1 => ?_)
  · replace h := cT hb1 h
    iterate 2 refine sc rfl ?_
    first|refine so rfl ?_|refine sb rfl ?_
    refine so rfl ?_
    refine sc rfl ?_
    obtain rfl := Option.some.inj h
    exact ⟨_, rfl, rfl, rfl⟩
  · replace h := cF hb1 h
    iterate 3 refine sc rfl ?_
    first|refine so rfl ?_|refine sb rfl ?_
    refine so rfl ?_
    refine sc rfl ?_
    obtain rfl := Option.some.inj h
    exact ⟨_, rfl, rfl, rfl⟩
end Go.Proofs

namespace Go.Proofs
open Go.Sy Go.Lib

theorem Load_A (b : Nat) (l : List Dcl) (y : Int) (o2 o3 : Value) (t m : AV) : FnA Tryz.prog 197 [PT b 1] [dscA b l (.int .u32 y) o2 o3 t m] (fun r cs' => r = B (y != 0) ∧ cs' = [dscA b l (.int .u32 y) o2 o3 t m]) := by
  refine FnA.intro Tryz.tabOK Tryz.wide_ Tryz.func197 rfl (by decide) rfl (fun X => ?_)
  repeat (first|refine sc rfl ?_|refine so rfl ?_|refine sb rfl ?_)
  refine O_Xd (X_aload 0 Tryz.func251 (by kernel_rfl) (by kernel_rfl) (by kernel_rfl) .u32 (by kernel_rfl) (y := y) rfl rfl rfl rfl rfl) ?_
  repeat (first|refine sc rfl ?_|refine so rfl ?_|refine sb rfl ?_)
  exact ⟨_, [_], _, rfl, .refl _, rfl, rfl, rfl⟩

theorem Lock_A (b : Nat) (l : List Dcl) (o1 o3 : Value) (t m : AV) : FnA Tryz.prog 282 [PT b 2] [dscA b l o1 (.int .i32 0) o3 t m] (fun r cs' => r = .tup [] ∧ cs' = [dscA b l o1 (.int .i32 1) o3 t m]) := by
  refine FnA.intro Tryz.tabOK Tryz.wide_ Tryz.func282 rfl (by decide) rfl (fun X => ?_)
  repeat (first|refine sc rfl ?_|refine so rfl ?_|refine sb rfl ?_)
  refine O_Xd (X_mark0 Tryz.func302 (by kernel_rfl) (by kernel_rfl) (by kernel_rfl) .disable (by kernel_rfl) rfl rfl) ?_
  repeat (first|refine sc rfl ?_|refine so rfl ?_|refine sb rfl ?_)
  refine O_Xd (X_acas 0 Tryz.func303 (by kernel_rfl) (by kernel_rfl) (by kernel_rfl) .i32 (by kernel_rfl) (y := 0) (z := 1) rfl rfl rfl rfl rfl rfl rfl) ?_
  repeat (first|refine sc rfl ?_|refine so rfl ?_|refine sb rfl ?_)
  refine C_true rfl rfl ?_
  repeat (first|refine sc rfl ?_|refine so rfl ?_|refine sb rfl ?_)
  refine C_true rfl rfl ?_
  repeat (first|refine sc rfl ?_|refine so rfl ?_|refine sb rfl ?_)
  refine O_Xd (X_mark0 Tryz.func304 (by kernel_rfl) (by kernel_rfl) (by kernel_rfl) .enable (by kernel_rfl) rfl rfl) ?_
  repeat (first|refine sc rfl ?_|refine so rfl ?_|refine sb rfl ?_)
  refine O_Xd (X_unsafe 0 (v := .int .i32 1) Tryz.underlying395 Tryz.underlying362 (by kernel_rfl) rfl rfl rfl rfl rfl) ?_
  repeat (first|refine sc rfl ?_|refine so rfl ?_|refine sb rfl ?_)
  refine O_Xd (X_marked Tryz.func305 (by kernel_rfl) (by kernel_rfl) (by kernel_rfl) .acquire (by kernel_rfl) rfl rfl rfl) ?_
  repeat (first|refine sc rfl ?_|refine so rfl ?_|refine sb rfl ?_)
  exact ⟨_, [_], _, rfl, .refl _, rfl, rfl, rfl⟩

theorem Lock2_A (b : Nat) (l : List Dcl) (o1 o3 : Value) (t m : AV) : FnA Tryz.prog 252 [PT b 2] [dscA b l o1 (.int .i32 0) o3 t m] (fun r cs' => r = .tup [] ∧ cs' = [dscA b l o1 (.int .i32 1) o3 t m]) := by
  refine FnA.intro Tryz.tabOK Tryz.wide_ Tryz.func252 rfl (by decide) rfl (fun X => ?_)
  repeat (first|refine sc rfl ?_|refine so rfl ?_|refine sb rfl ?_)
  refine O_callA [0] (Lock_A b l o1 o3 t m) (by rfl) (by rfl) (by rfl) (by rfl) (by rfl) ?_
  rintro r cs' ⟨rfl, rfl⟩
  repeat (first|refine sc rfl ?_|refine so rfl ?_|refine sb rfl ?_)
  exact ⟨_, [_], _, rfl, .refl _, rfl, rfl, rfl⟩

theorem Unlock_A (b : Nat) (l : List Dcl) (o1 o3 : Value) (t m : AV) : FnA Tryz.prog 283 [PT b 2] [dscA b l o1 (.int .i32 1) o3 t m] (fun r cs' => r = .tup [] ∧ cs' = [dscA b l o1 (.int .i32 0) o3 t m]) := by
  refine FnA.intro Tryz.tabOK Tryz.wide_ Tryz.func283 rfl (by decide) rfl (fun X => ?_)
  repeat (first|refine sc rfl ?_|refine so rfl ?_|refine sb rfl ?_)
  refine C_true rfl rfl ?_
  repeat (first|refine sc rfl ?_|refine so rfl ?_|refine sb rfl ?_)
  refine O_loadP 0 (reads_box 2) rfl rfl rfl rfl rfl rfl ?_
  repeat (first|refine sc rfl ?_|refine so rfl ?_|refine sb rfl ?_)
  refine O_Xd (X_unsafe 0 (v := .int .i32 1) Tryz.underlying395 Tryz.underlying362 (by kernel_rfl) rfl rfl rfl rfl rfl) ?_
  repeat (first|refine sc rfl ?_|refine so rfl ?_|refine sb rfl ?_)
  refine O_Xd (X_marked Tryz.func307 (by kernel_rfl) (by kernel_rfl) (by kernel_rfl) .releaseMerge (by kernel_rfl) rfl rfl rfl) ?_
  repeat (first|refine sc rfl ?_|refine so rfl ?_|refine sb rfl ?_)
  refine O_Xd (X_mark0 Tryz.func302 (by kernel_rfl) (by kernel_rfl) (by kernel_rfl) .disable (by kernel_rfl) rfl rfl) ?_
  repeat (first|refine sc rfl ?_|refine so rfl ?_|refine sb rfl ?_)
  refine O_Xd (X_aadd 0 Tryz.func308 (by kernel_rfl) (by kernel_rfl) (by kernel_rfl) .i32 (by kernel_rfl) (y := 1) (z := -1) (s := 0) (fun w => by rfl) rfl rfl rfl rfl rfl rfl) ?_
  repeat (first|refine sc rfl ?_|refine so rfl ?_|refine sb rfl ?_)
  refine C_false rfl rfl ?_
  repeat (first|refine sc rfl ?_|refine so rfl ?_|refine sb rfl ?_)
  refine O_Xd (X_mark0 Tryz.func304 (by kernel_rfl) (by kernel_rfl) (by kernel_rfl) .enable (by kernel_rfl) rfl rfl) ?_
  repeat (first|refine sc rfl ?_|refine so rfl ?_|refine sb rfl ?_)
  exact ⟨_, [_], _, rfl, .refl _, rfl, rfl, rfl⟩

theorem Unlock_D (b : Nat) (l : List Dcl) (o1 o3 : Value) (t m : AV) : FnD Tryz.prog 253 [PT b 2] [dscA b l o1 (.int .i32 1) o3 t m] (fun r cs' => r = .tup [] ∧ cs' = [dscA b l o1 (.int .i32 0) o3 t m]) := by
  refine FnD.intro Tryz.tabOK Tryz.wide_ Tryz.func253 rfl (by decide) rfl (fun X => ?_)
  repeat (first|refine sc rfl ?_|refine so rfl ?_|refine sb rfl ?_)
  refine O_callA [0] (Unlock_A b l o1 o3 t m) (by rfl) (by rfl) (by rfl) (by rfl) (by rfl) ?_
  rintro r cs' ⟨rfl, rfl⟩
  repeat (first|refine sc rfl ?_|refine so rfl ?_|refine sb rfl ?_)
  exact ⟨_, [_], _, rfl, .refl _, rfl, rfl, rfl⟩

theorem Store_D (b : Nat) (l : List Dcl) (o1 o2 o3 : Value) (t m : AV) : FnD Tryz.prog 254 [PT b 1, B true] [dscA b l o1 o2 o3 t m] (fun r cs' => r = .tup [] ∧ cs' = [dscA b l (.int .u32 1) o2 o3 t m]) := by
  refine FnD.intro Tryz.tabOK Tryz.wide_ Tryz.func254 rfl (by decide) rfl (fun X => ?_)
  repeat (first|refine sc rfl ?_|refine so rfl ?_|refine sb rfl ?_)
  refine C_drawU 20 5 rfl (by kernel_rfl) (by kernel_rfl) (by kernel_rfl) ?_
  repeat (first|refine sd rfl ?_|refine sdb rfl ?_|refine sds rfl ?_)
  refine D_call (B32_w true 1 rfl) rfl rfl rfl rfl ?_
  repeat (first|refine sd rfl ?_|refine sdb rfl ?_|refine sds rfl ?_)
  refine O_Xd (X_astore 0 Tryz.func284 (by kernel_rfl) (by kernel_rfl) (by kernel_rfl) (by kernel_rfl) (k := .u32) (z := 1) rfl rfl rfl rfl rfl rfl) ?_
  repeat (first|refine sc rfl ?_|refine so rfl ?_|refine sb rfl ?_)
  exact ⟨_, [_], _, rfl, .refl _, rfl, rfl, rfl⟩
end Go.Proofs

namespace Go.Proofs
open Go.Sy Go.Lib

theorem Tryz.ntmps76_ : Tryz.f198.ntmps = 21 := by kernel_rfl

set_option maxHeartbeats 1600000 in
theorem doSlow_A (b : Nat) (l : List Dcl) (hl : FewL l) (h30 : ∀ i, i < l.length → (l.getD i default).fields.length ≤ 39) (hW : ∀ i, i < l.length → fndL (l.getD i default).name l = some i) (o3 : Value) (t0 m0 : AV) (ht : t0.imm = true) (hm : m0.imm = true) :
    FnA Tryz.prog 198 [PT b 1, .p (cloRP 122 [.cp [PT b 0]])] [dscA b l (.int .u32 0) (.int .i32 0) o3 t0 m0] (fun r cs' => r = .tup [] ∧ ∃ Rs, RowsOK l Rs ∧ cs' = [dscA b l (.int .u32 1) (.int .i32 0) o3 (tabV l) (mapE S (esOf l Rs))]) := by
  refine ⟨⟨Tryz.f198, Tryz.func198, by kernel_rfl, by kernel_rfl⟩, ?_⟩
  intro G w cargs him hrep hcs
  simp only [RepIT] at hrep
  obtain ⟨p, ps, rfl, hp, c0, cs0, rfl, hc, rfl⟩ := hrep
  simp only [RepI] at hp
  subst hp
  obtain ⟨vs, rfl, hvs⟩ := isClo_p 122 [.cp [PT b 0]] G _ hc
  have hlock := (Lock2_A b l (.int .u32 0) o3 t0 m0).2 G w [.pointer (some ⟨b, 2, none⟩)] him (by simp only [RepIT, RepI]; exact ⟨_, _, rfl, rfl, rfl⟩) hcs
  go_enter_defers Tryz.func198, Tryz.ntmps76_
  go_wp2_with (go_at_call 252; refine hlock.mono ?_; rintro e w1 ⟨r, cr, cs1, G1, ⟨rfl, rfl⟩, rfl, hcr, T1⟩)
  have T1' : TrA G w _ G1 w1 [dscA b l (.int .u32 0) (.int .i32 1) o3 t0 m0] := T1
  have hload := (Load_A b l 0 (.int .i32 1) o3 t0 m0).2 G1 w1 [.pointer (some ⟨b, 1, none⟩)] T1'.2.2.1 (by simp only [RepIT, RepI]; exact ⟨_, _, rfl, rfl, rfl⟩) T1'.2.2.2.1
  refine hload.mono ?_
  rintro e2 w2 ⟨r2, cr2, cs2, G2, ⟨rfl, rfl⟩, rfl, hcr2, T2⟩
  have T2' : TrA G1 w1 [dscA b l (.int .u32 0) (.int .i32 1) o3 t0 m0] G2 w2 [dscA b l (.int .u32 0) (.int .i32 1) o3 t0 m0] := T2
  have T12 := T1'.trans T2'
  simp only [RepI] at hcr2
  obtain rfl : cr2 = .bool false := hcr2
  have hvs2 : RepIT G2 [.cp [PT b 0]] vs.toList := RepIT.mono T12.1 _ hvs
  have hrd := (ready1_A b l hl h30 hW (.int .u32 0) (.int .i32 1) o3 t0 m0 ht hm).2 G2 w2 vs.toList T12.2.2.1 hvs2 T12.2.2.2.1
  have hnot : ∀ (x : Bool) (w : World), (Op.unary .not (.bool x)).run Tryz.prog w = .ok (.bool (!x)) w := fun _ _ => rfl
  have evs : vs.toList.toArray = vs := by simp
  rw [evs] at hrd
  go_wp2_with (go_at_call 122; refine hrd.mono ?_; rintro e3 w3 ⟨r3, cr3, cs3, G3, ⟨rfl, Rs, hRs, rfl⟩, rfl, hcr3, T3⟩)
  have T3' : TrA G2 w2 [dscA b l (.int .u32 0) (.int .i32 1) o3 t0 m0] G3 w3 [dscA b l (.int .u32 0) (.int .i32 1) o3 (tabV l) (mapE S (esOf l Rs))] := T3
  have T13 := T12.trans T3'
  refine leaves_cons (f := 254) (args := #[.pointer (some ⟨b, 1, none⟩), .bool true]) (by simp) (by simp [go_sem]) ?_
  refine ((Store_D b l (.int .u32 0) (.int .i32 1) o3 (tabV l) (mapE S (esOf l Rs))).2 .returning G3 w3 [.pointer (some ⟨b, 1, none⟩), .bool true] T13.2.2.1 (by simp only [RepIT, RepI]; exact ⟨_, _, rfl, rfl, _, _, rfl, rfl, rfl⟩) T13.2.2.2.1).mono ?_
  rintro e4 u4 w4 ⟨rfl, r4, cr4, cs4, G4, ⟨rfl, rfl⟩, rfl, hcr4, T4⟩
  have T4' : TrA G3 w3 [dscA b l (.int .u32 0) (.int .i32 1) o3 (tabV l) (mapE S (esOf l Rs))] G4 w4 [dscA b l (.int .u32 1) (.int .i32 1) o3 (tabV l) (mapE S (esOf l Rs))] := T4
  have T14 := T13.trans T4'
  refine leaves_cons (f := 253) (args := #[.pointer (some ⟨b, 2, none⟩)]) (by simp [settle]) (by simp [go_sem]) ?_
  refine ((Unlock_D b l (.int .u32 1) o3 (tabV l) (mapE S (esOf l Rs))).2 _ G4 w4 [.pointer (some ⟨b, 2, none⟩)] T14.2.2.1 (by simp only [RepIT, RepI]; exact ⟨_, _, rfl, rfl, rfl⟩) T14.2.2.2.1).mono ?_
  rintro e5 u5 w5 ⟨rfl, r5, cr5, cs5, G5, ⟨rfl, rfl⟩, rfl, hcr5, T5⟩
  have T5' : TrA G4 w4 [dscA b l (.int .u32 1) (.int .i32 1) o3 (tabV l) (mapE S (esOf l Rs))] G5 w5 [dscA b l (.int .u32 1) (.int .i32 0) o3 (tabV l) (mapE S (esOf l Rs))] := T5
  have T15 := T14.trans T5'
  exact ⟨.tuple #[], results_none rfl _ _ _, .tup [], _, _, G5, ⟨rfl, Rs, hRs, rfl⟩, rfl, by simp only [RepI, RepIT]; exact ⟨_, rfl, rfl⟩, T15⟩
end Go.Proofs

namespace Go.Proofs
open Go.Sy Go.Lib

structure Prep (l : List Dcl) : Prop where
  few : FewL l
  f39 : ∀ i, i < l.length → (l.getD i default).fields.length ≤ 39
  uni : ∀ i, i < l.length → fndL (l.getD i default).name l = some i

def dsc (b : Nat) (l : List Dcl) : Option (List (List Fld)) → Abs
  | none => dscA b l (.int .u32 0) (.int .i32 0) (.int .u32 0) (.v (.pointer none)) (.v (.map none))
  | some Rs => dscA b l (.int .u32 1) (.int .i32 0) (.int .u32 0) (tabV l) (mapE S (esOf l Rs))
def Rdy (l : List Dcl) (q : Option (List (List Fld))) : Prop := ∀ Rs, q = some Rs → RowsOK l Rs

theorem Do_A (b : Nat) (l : List Dcl) (hP : Prep l) (q : Option (List (List Fld))) (hq : Rdy l q) :
    FnA Tryz.prog 121 [PT b 1, .p (cloRP 122 [.cp [PT b 0]])] [dsc b l q] (fun r cs' => r = .tup [] ∧ ∃ Rs, RowsOK l Rs ∧ cs' = [dsc b l (some Rs)]) := by
  refine FnA.intro Tryz.tabOK Tryz.wide_ Tryz.func121 rfl (by decide) rfl (fun X => ?_)
  cases q with
  | none =>
    have hS := doSlow_A b l hP.few hP.f39 hP.uni (.int .u32 0) (.v (.pointer none)) (.v (.map none)) rfl rfl
    repeat (first|refine sc rfl ?_|refine so rfl ?_|refine sb rfl ?_)
    refine O_callA [0] (Load_A b l 0 (.int .i32 0) (.int .u32 0) (.v (.pointer none)) (.v (.map none))) (by rfl) (by rfl) (by rfl) (by rfl) (by rfl) ?_
    rintro r cs' ⟨rfl, rfl⟩
    repeat (first|refine sc rfl ?_|refine so rfl ?_|refine sb rfl ?_)
    refine C_true rfl rfl ?_
    repeat (first|refine sc rfl ?_|refine so rfl ?_|refine sb rfl ?_)
    refine O_callA [0] hS (by rfl) (by rfl) (by rfl) (by rfl) (by rfl) ?_
    rintro r cs' ⟨rfl, Rs, hRs, rfl⟩
    repeat (first|refine sc rfl ?_|refine so rfl ?_|refine sb rfl ?_)
    exact ⟨_, [_], _, rfl, .refl _, rfl, rfl, Rs, hRs, rfl⟩
  | some Rs =>
    repeat (first|refine sc rfl ?_|refine so rfl ?_|refine sb rfl ?_)
    refine O_callA [0] (Load_A b l 1 (.int .i32 0) (.int .u32 0) (tabV l) (mapE S (esOf l Rs))) (by rfl) (by rfl) (by rfl) (by rfl) (by rfl) ?_
    rintro r cs' ⟨rfl, rfl⟩
    repeat (first|refine sc rfl ?_|refine so rfl ?_|refine sb rfl ?_)
    refine C_false rfl rfl ?_
    repeat (first|refine sc rfl ?_|refine so rfl ?_|refine sb rfl ?_)
    exact ⟨_, [_], _, rfl, .refl _, rfl, rfl, Rs, hq Rs rfl, rfl⟩

theorem ready_A (b : Nat) (l : List Dcl) (hP : Prep l) (q : Option (List (List Fld))) (hq : Rdy l q) :
    FnA Tryz.prog 70 [PT b 0] [dsc b l q] (fun r cs' => r = .tup [] ∧ ∃ Rs, RowsOK l Rs ∧ cs' = [dsc b l (some Rs)]) := by
  refine FnA.intro Tryz.tabOK Tryz.wide_ Tryz.func70 rfl (by decide) rfl (fun X => ?_)
  iterate 4 (first|refine sc rfl ?_|refine so rfl ?_|refine sb rfl ?_)
  refine C_le _ (Le.freezebox 1 rfl rfl rfl) ?_
  repeat (first|refine sc rfl ?_|refine so rfl ?_|refine sb rfl ?_)
  refine O_makeFunc rfl rfl rfl rfl ?_
  repeat (first|refine sc rfl ?_|refine so rfl ?_|refine sb rfl ?_)
  refine O_callA [0] (Do_A b l hP q hq) (by rfl) (by rfl) (by rfl) (by rfl) (by rfl) ?_
  rintro r cs' ⟨rfl, Rs, hRs, rfl⟩
  repeat (first|refine sc rfl ?_|refine so rfl ?_|refine sb rfl ?_)
  exact ⟨_, [_], _, rfl, .refl _, rfl, rfl, Rs, hRs, rfl⟩

theorem DKind_A (b : Nat) (l : List Dcl) (hP : Prep l) (q : Option (List (List Fld))) (hq : Rdy l q) (nm : List UInt8) :
    FnA Tryz.prog 82 [PT b 0, .s nm] [dsc b l q] (fun r cs' => r = I64 (kindL l nm) ∧ ∃ Rs, RowsOK l Rs ∧ cs' = [dsc b l (some Rs)]) := by
  refine FnA.intro Tryz.tabOK Tryz.wide_ Tryz.func82 rfl (by decide) rfl (fun X => ?_)
  repeat (first|refine sc rfl ?_|refine so rfl ?_|refine sb rfl ?_)
  refine O_Xd (X_ptrnil Tryz.underlying48 rfl rfl rfl) ?_
  repeat (first|refine sc rfl ?_|refine so rfl ?_|refine sb rfl ?_)
  refine C_false rfl rfl ?_
  repeat (first|refine sc rfl ?_|refine so rfl ?_|refine sb rfl ?_)
  refine O_callA [0] (ready_A b l hP q hq) (by rfl) (by rfl) (by rfl) (by rfl) (by rfl) ?_
  rintro r cs' ⟨rfl, Rs, hRs, rfl⟩
  repeat (first|refine sc rfl ?_|refine so rfl ?_|refine sb rfl ?_)
  refine O_loadP 0 (A := dsc b l (some Rs)) (reads_box 4) rfl rfl rfl rfl rfl rfl ?_
  repeat (first|refine sc rfl ?_|refine so rfl ?_|refine sb rfl ?_)
  refine O_call (Kind_c l nm) (by rfl) (by rfl) (by rfl) (by rfl) (fun r hr => ?_)
  subst hr
  repeat (first|refine sc rfl ?_|refine so rfl ?_|refine sb rfl ?_)
  exact ⟨_, [_], _, rfl, .refl _, rfl, rfl, Rs, hRs, rfl⟩

def rowsL (l : List Dcl) (Rs : List (List Fld)) (nm : List UInt8) : List Fld := match fndL nm l with
  | none => []
  | some j => Rs.getD j default

theorem PermOn.mem {F R : List Fld} (h : SrtOf F R) : ∀ i, i < R.length → ∃ j, j < F.length ∧ R.getD i default = F.getD j default := fun i hi => by
  obtain ⟨h1, h2, _⟩ := h
  obtain ⟨j, _, k2, k3⟩ := h2.at_ (Nat.zero_le i) (by omega)
  exact ⟨j, k2, k3⟩
theorem SrtOf.few {F R : List Fld} (h : SrtOf F R) (hF : FewF F) : FewF R := ⟨by rw [h.1]; exact hF.1, fun i hi => by
  obtain ⟨j, h1, h2⟩ := PermOn.mem h i hi
  rw [h2]; exact hF.2 j h1⟩

theorem DRows_A (b : Nat) (l : List Dcl) (hP : Prep l) (q : Option (List (List Fld))) (hq : Rdy l q) (nm : List UInt8) :
    FnA Tryz.prog 25 [PT b 0, .s nm] [dsc b l q] (fun r cs' => ∃ Rs, RowsOK l Rs ∧ r = SL 5 Fld.c (rowsL l Rs nm) ∧ cs' = [dsc b l (some Rs)]) := by
  refine FnA.intro Tryz.tabOK Tryz.wide_ Tryz.func25 rfl (by decide) rfl (fun X => ?_)
  repeat (first|refine sc rfl ?_|refine so rfl ?_|refine sb rfl ?_)
  refine O_Xd (X_ptrnil Tryz.underlying48 rfl rfl rfl) ?_
  repeat (first|refine sc rfl ?_|refine so rfl ?_|refine sb rfl ?_)
  refine C_false rfl rfl ?_
  repeat (first|refine sc rfl ?_|refine so rfl ?_|refine sb rfl ?_)
  refine O_callA [0] (ready_A b l hP q hq) (by rfl) (by rfl) (by rfl) (by rfl) (by rfl) ?_
  rintro r cs' ⟨rfl, Rs, hRs, rfl⟩
  have hlook : lookE nm (esOf l Rs) = (fndL nm l).map fun j => SL 5 Fld.c (Rs.getD j default) := by
    rw [esOf_look nm l Rs (Nat.le_of_eq hRs.1)]
    cases hf : fndL nm l with
    | none => rfl
    | some j => simp only [Option.map_some]; rw [if_pos (by rw [hRs.1]; exact fndL_lt hf)]
  repeat (first|refine sc rfl ?_|refine so rfl ?_|refine sb rfl ?_)
  refine O_loadP 0 (A := dsc b l (some Rs)) (reads_box 5) rfl rfl rfl rfl rfl rfl ?_
  repeat (first|refine sc rfl ?_|refine so rfl ?_|refine sb rfl ?_)
  refine O_Xd (X_lookIS (z := nilH) sK Tryz.underlying163 rfl rfl (fun e => by simp only [Rep]) rfl (fun e v h => kS e h) rfl rfl rfl rfl) ?_
  rw [hlook]
  cases hf : fndL nm l with
  | none =>
    have hfs := fields_c [] ⟨Nat.zero_le _, fun i hi => absurd hi (Nat.not_lt_zero _)⟩
    simp only [lookAV, cond_false, Option.map_none, Option.getD_none]
    refine O_le _ (Le.conv 14 (y := SL 5 Fld.c []) rfl (fun e v h => by simp only [Rep] at h ⊢; exact repI_nil (by simpa only [RepI] using h))) ?_
    refine O_call hfs (by rfl) (by rfl) (by rfl) (by rfl) (fun r hr => ?_)
    subst hr
    repeat (first|refine sc rfl ?_|refine so rfl ?_|refine sb rfl ?_)
    exact ⟨_, [_], _, rfl, .refl _, rfl, Rs, hRs, by simp [rowsL, hf], rfl⟩
  | some j =>
    have hj := fndL_lt hf
    have hfs := fields_c (Rs.getD j default) ((hRs.2 j hj).few (hP.few.2 j hj).f)
    simp only [lookAV, cond_false, Option.map_some, Option.getD_some]
    refine O_call hfs (by rfl) (by rfl) (by rfl) (by rfl) (fun r hr => ?_)
    subst hr
    repeat (first|refine sc rfl ?_|refine so rfl ?_|refine sb rfl ?_)
    exact ⟨_, [_], _, rfl, .refl _, rfl, Rs, hRs, by simp [rowsL, hf], rfl⟩
end Go.Proofs

namespace Go.Proofs
open Go.Sy Go.Lib

theorem small_c : ∀ (n : Nat) (t : Ty) (deep : Int), SizeOf.sizeOf t ≤ n → FnP Tryz.prog 78 [.agg (Ty.c t), I64 deep] (fun r => ∃ g, r = B g ∧ (g = true → FewT t))
  | 0, t, deep, h => by cases t; simp at h
  | n + 1, t, deep, hn => by
    refine FnP.intro Tryz.tabOK Tryz.wide_ Tryz.func78 rfl (by decide) rfl (fun X => ?_)
    repeat (first|refine sc rfl ?_|refine so rfl ?_|refine sb rfl ?_)
    refine O_case 8 rfl (fun c1 => ?_) (fun c1 => ?_) <;> simp only [pL] at c1
    · repeat (first|refine sc rfl ?_|refine so rfl ?_|refine sb rfl ?_)
      refine C_true rfl rfl ?_
      repeat (first|refine sc rfl ?_|refine so rfl ?_|refine sb rfl ?_)
      exact ⟨_, rfl, rfl, false, rfl, fun h => by cases h⟩
    repeat (first|refine sc rfl ?_|refine so rfl ?_|refine sb rfl ?_)
    refine C_if rfl (fun c2 => ?_) (fun c2 => ?_) <;> simp only [pL] at c2
    · repeat (first|refine sc rfl ?_|refine so rfl ?_|refine sb rfl ?_)
      exact ⟨_, rfl, rfl, false, rfl, fun h => by cases h⟩
    have hlen : t.of.length ≤ 3 := by omega
    repeat (first|refine sc rfl ?_|refine so rfl ?_|refine sb rfl ?_)
    refine C_loop (fun i : Nat => ⟨[(1, I64 deep), (2, .bp 2 0), (5, I64 (i : Nat))], [.box 2 63 (Ty.c t)]⟩) (fun i => i ≤ t.of.length ∧ ∀ j, j < i → FewT (t.of.getD j default)) (fun i => t.of.length - i) 0 ⟨Nat.zero_le _, fun j hj => absurd hj (Nat.not_lt_zero _)⟩ (Le.sub [2] ⟨rfl, rfl, rfl, trivial⟩ rfl) ?_
    rintro i ⟨hi, hall⟩
    repeat (first|refine sc rfl ?_|refine so rfl ?_|refine sb rfl ?_)
    refine C_if rfl (fun m1 => ?_) (fun m1 => ?_) <;> simp only [pL] at m1
    · have hil : i < t.of.length := by omega
      iterate 7 (first|refine sc rfl ?_|refine so rfl ?_|refine sb rfl ?_)
      refine O_le _ (Le.one 22 (SL 3 Ty.c t.of) rfl (.row (Ty.rows_eq _))) ?_
      repeat (first|refine sc rfl ?_|refine so rfl ?_|refine sb rfl ?_)
      refine ⟨by omega, ?_⟩
      rw [Int.toNat_natCast]
      repeat (first|refine sc rfl ?_|refine so rfl ?_|refine sb rfl ?_)
      refine O_call (small_c n (t.of.getD i default) _ (by have := of_lt hil; omega)) (by rfl) (by rfl) (by rfl) (by rfl) (fun r hr => ?_)
      obtain ⟨g, rfl, hg⟩ := hr
      repeat (first|refine sc rfl ?_|refine so rfl ?_|refine sb rfl ?_)
      cases g with
      | true =>
        refine C_false rfl rfl ?_
        repeat (first|refine sc rfl ?_|refine so rfl ?_|refine sb rfl ?_)
        rw [w64 (x := (i : Int) + 1) (by omega) (by omega)]
        refine ⟨i + 1, ⟨hil, fun j hj => ?_⟩, by omega, Le.sub [2] ⟨rfl, rfl, rfl, trivial⟩ rfl⟩
        by_cases hji : j < i
        · exact hall j hji
        · obtain rfl : j = i := by omega
          exact hg rfl
      | false =>
        refine C_true rfl rfl ?_
        repeat (first|refine sc rfl ?_|refine so rfl ?_|refine sb rfl ?_)
        exact ⟨_, rfl, rfl, false, rfl, fun h => by cases h⟩
    · obtain rfl : i = t.of.length := by omega
      repeat (first|refine sc rfl ?_|refine so rfl ?_|refine sb rfl ?_)
      exact ⟨_, rfl, rfl, true, rfl, fun _ => .mk (by omega) hall⟩

def Lets (l : List Dcl) : Prop := FewL l ∧ ∀ i, i < l.length → (l.getD i default).fields.length ≤ 30

theorem Great_c (l : List Dcl) : FnP Tryz.prog 27 [SL 5 Dcl.c l] (fun r => ∃ g, r = B g ∧ (g = false → Lets l)) := by
  refine FnP.intro Tryz.tabOK Tryz.wide_ Tryz.func27 rfl (by decide) rfl (fun X => ?_)
  repeat (first|refine sc rfl ?_|refine so rfl ?_|refine sb rfl ?_)
  refine C_loop (fun i : Nat => ⟨[(0, SL 5 Dcl.c l), (3, I64 (i : Nat))], []⟩) (fun i => i ≤ l.length ∧ i ≤ 21 ∧ ∀ j, j < i → FewD (l.getD j default) ∧ (l.getD j default).fields.length ≤ 30) (fun i => l.length - i) 0 ⟨Nat.zero_le _, by omega, fun j hj => absurd hj (Nat.not_lt_zero _)⟩ (Le.sub [] ⟨rfl, rfl, trivial⟩ rfl) ?_
  rintro i ⟨hi, hi21, hall⟩
  repeat (first|refine sc rfl ?_|refine so rfl ?_|refine sb rfl ?_)
  refine C_if rfl (fun m1 => ?_) (fun m1 => ?_) <;> simp only [pL] at m1
  · have hil : i < l.length := by omega
    repeat (first|refine sc rfl ?_|refine so rfl ?_|refine sb rfl ?_)
    refine O_case 13 rfl (fun c1 => ?_) (fun c1 => ?_) <;> simp only [pL] at c1
    · repeat (first|refine sc rfl ?_|refine so rfl ?_|refine sb rfl ?_)
      refine C_true rfl rfl ?_
      repeat (first|refine sc rfl ?_|refine so rfl ?_|refine sb rfl ?_)
      exact ⟨_, rfl, rfl, true, rfl, fun h => by cases h⟩
    repeat (first|refine sc rfl ?_|refine so rfl ?_|refine sb rfl ?_)
    refine ⟨by omega, ?_⟩
    rw [Int.toNat_natCast]
    repeat (first|refine sc rfl ?_|refine so rfl ?_|refine sb rfl ?_)
    refine O_case 22 rfl (fun c2 => ?_) (fun c2 => ?_) <;> simp only [pL] at c2
    · repeat (first|refine sc rfl ?_|refine so rfl ?_|refine sb rfl ?_)
      refine C_true rfl rfl ?_
      repeat (first|refine sc rfl ?_|refine so rfl ?_|refine sb rfl ?_)
      exact ⟨_, rfl, rfl, true, rfl, fun h => by cases h⟩
    repeat (first|refine sc rfl ?_|refine so rfl ?_|refine sb rfl ?_)
    refine ⟨by omega, ?_⟩
    rw [Int.toNat_natCast]
    repeat (first|refine sc rfl ?_|refine so rfl ?_|refine sb rfl ?_)
    refine C_if rfl (fun c3 => ?_) (fun c3 => ?_) <;> simp only [pL] at c3
    · repeat (first|refine sc rfl ?_|refine so rfl ?_|refine sb rfl ?_)
      exact ⟨_, rfl, rfl, true, rfl, fun h => by cases h⟩
    have h30 : (l.getD i default).fields.length ≤ 30 := by omega
    have hm30 : (l.getD i default).methods.length ≤ 30 := by omega
    repeat (first|refine sc rfl ?_|refine so rfl ?_|refine sb rfl ?_)
    refine C_loop (fun k : Nat => ⟨[(0, SL 5 Dcl.c l), (3, I64 (i : Nat)), (4, I64 (k : Nat))], []⟩) (fun k => k ≤ (l.getD i default).fields.length ∧ ∀ j, j < k → FewT ((l.getD i default).fields.getD j default).ty) (fun k => (l.getD i default).fields.length - k) 0 ⟨Nat.zero_le _, fun j hj => absurd hj (Nat.not_lt_zero _)⟩ (Le.sub [] ⟨rfl, rfl, rfl, trivial⟩ rfl) ?_
    rintro k ⟨hk, hks⟩
    repeat (first|refine sc rfl ?_|refine so rfl ?_|refine sb rfl ?_)
    refine ⟨by omega, ?_⟩
    rw [Int.toNat_natCast]
    repeat (first|refine sc rfl ?_|refine so rfl ?_|refine sb rfl ?_)
    refine C_if rfl (fun m2 => ?_) (fun m2 => ?_) <;> simp only [pL] at m2
    · have hkl : k < (l.getD i default).fields.length := by omega
      repeat (first|refine sc rfl ?_|refine so rfl ?_|refine sb rfl ?_)
      refine ⟨by omega, ?_⟩
      rw [Int.toNat_natCast]
      repeat (first|refine sc rfl ?_|refine so rfl ?_|refine sb rfl ?_)
      refine ⟨by omega, ?_⟩
      rw [Int.toNat_natCast]
      repeat (first|refine sc rfl ?_|refine so rfl ?_|refine sb rfl ?_)
      refine O_call (small_c _ ((l.getD i default).fields.getD k default).ty 0 (Nat.le_refl _)) (by rfl) (by rfl) (by rfl) (by rfl) (fun r hr => ?_)
      obtain ⟨g, rfl, hg⟩ := hr
      repeat (first|refine sc rfl ?_|refine so rfl ?_|refine sb rfl ?_)
      cases g with
      | true =>
        refine C_false rfl rfl ?_
        repeat (first|refine sc rfl ?_|refine so rfl ?_|refine sb rfl ?_)
        rw [w64 (x := (k : Int) + 1) (by omega) (by omega)]
        refine ⟨k + 1, ⟨hkl, fun j hj => ?_⟩, by omega, Le.sub [] ⟨rfl, rfl, rfl, trivial⟩ rfl⟩
        by_cases hjk : j < k
        · exact hks j hjk
        · obtain rfl : j = k := by omega
          exact hg rfl
      | false =>
        refine C_true rfl rfl ?_
        repeat (first|refine sc rfl ?_|refine so rfl ?_|refine sb rfl ?_)
        exact ⟨_, rfl, rfl, true, rfl, fun h => by cases h⟩
    · obtain rfl : k = (l.getD i default).fields.length := by omega
      repeat (first|refine sc rfl ?_|refine so rfl ?_|refine sb rfl ?_)
      rw [w64 (x := (i : Int) + 1) (by omega) (by omega)]
      refine ⟨i + 1, ⟨hil, by omega, fun j hj => ?_⟩, by omega, Le.sub [] ⟨rfl, rfl, trivial⟩ rfl⟩
      by_cases hji : j < i
      · exact hall j hji
      · obtain rfl : j = i := by omega
        exact ⟨⟨⟨by omega, hks⟩, by omega⟩, h30⟩
  · obtain rfl : i = l.length := by omega
    repeat (first|refine sc rfl ?_|refine so rfl ?_|refine sb rfl ?_)
    exact ⟨_, rfl, rfl, false, rfl, fun _ => ⟨⟨by omega, fun j hj => (hall j hj).1⟩, fun j hj => (hall j hj).2⟩⟩
end Go.Proofs

namespace Go.Proofs
open Go.Sy Go.Lib

def fndZ (nm : List UInt8) (l : List Dcl) : Int := match fndL nm l with
  | none => -1
  | some j => (j : Nat)

theorem fndL_first {nm : List UInt8} : ∀ {l : List Dcl} {i : Nat}, i < l.length → (∀ j, j < i → (l.getD j default).name ≠ nm) → (l.getD i default).name = nm → fndL nm l = some i
  | [], i, h, _, _ => by simp at h
  | d :: l, 0, _, _, h => by simp only [fndL]; rw [if_pos (by simpa using h)]
  | d :: l, i + 1, hi, hall, h => by
    simp only [fndL]
    rw [if_neg (by have := hall 0 (by omega); simpa using this)]
    rw [fndL_first (l := l) (i := i) (by simpa using hi) (fun j hj => by have := hall (j + 1) (by omega); simpa using this) (by simpa using h)]
    rfl
theorem fndL_none {nm : List UInt8} : ∀ {l : List Dcl}, (∀ j, j < l.length → (l.getD j default).name ≠ nm) → fndL nm l = none
  | [], _ => rfl
  | d :: l, hall => by
    simp only [fndL]
    rw [if_neg (by have := hall 0 (by simp); simpa using this), fndL_none (l := l) (fun j hj => by have := hall (j + 1) (by simpa using hj); simpa using this)]
    rfl

theorem FindR_c (l : List Dcl) (hl : l.length ≤ 1000) (nm : List UInt8) : FnP Tryz.prog 129 [SL 5 Dcl.c l, .s nm] (· = I64 (fndZ nm l)) := by
  refine FnP.intro Tryz.tabOK Tryz.wide_ Tryz.func129 rfl (by decide) rfl (fun X => ?_)
  repeat (first|refine sc rfl ?_|refine so rfl ?_|refine sb rfl ?_)
  refine C_loop (fun i : Nat => ⟨[(0, SL 5 Dcl.c l), (1, .s nm), (5, I64 (i : Nat))], []⟩) (fun i => i ≤ l.length ∧ ∀ j, j < i → (l.getD j default).name ≠ nm) (fun i => l.length - i) 0 ⟨Nat.zero_le _, fun j hj => absurd hj (Nat.not_lt_zero _)⟩ (Le.sub [] ⟨rfl, rfl, rfl, trivial⟩ rfl) ?_
  rintro i ⟨hi, hall⟩
  repeat (first|refine sc rfl ?_|refine so rfl ?_|refine sb rfl ?_)
  refine C_if rfl (fun m1 => ?_) (fun m1 => ?_) <;> simp only [pL] at m1
  · have hil : i < l.length := by omega
    repeat (first|refine sc rfl ?_|refine so rfl ?_|refine sb rfl ?_)
    refine ⟨by omega, ?_⟩
    rw [Int.toNat_natCast]
    repeat (first|refine sc rfl ?_|refine so rfl ?_|refine sb rfl ?_)
    refine C_if rfl (fun m2 => ?_) (fun m2 => ?_) <;> simp only [pL] at m2
    · repeat (first|refine sc rfl ?_|refine so rfl ?_|refine sb rfl ?_)
      exact ⟨_, rfl, rfl, by rw [fndZ, fndL_first hil hall m2]⟩
    · repeat (first|refine sc rfl ?_|refine so rfl ?_|refine sb rfl ?_)
      rw [w64 (x := (i : Int) + 1) (by omega) (by omega)]
      refine ⟨i + 1, ⟨hil, fun j hj => ?_⟩, by omega, Le.sub [] ⟨rfl, rfl, rfl, trivial⟩ rfl⟩
      by_cases hji : j < i
      · exact hall j hji
      · obtain rfl : j = i := by omega
        exact m2
  · obtain rfl : i = l.length := by omega
    repeat (first|refine sc rfl ?_|refine so rfl ?_|refine sb rfl ?_)
    exact ⟨_, rfl, rfl, by rw [fndZ, fndL_none hall]⟩

theorem KindR_c (l : List Dcl) (hl : l.length ≤ 1000) (nm : List UInt8) : FnP Tryz.prog 80 [SL 5 Dcl.c l, .s nm] (· = I64 (kindL l nm)) := by
  refine FnP.intro Tryz.tabOK Tryz.wide_ Tryz.func80 rfl (by decide) rfl (fun X => ?_)
  repeat (first|refine sc rfl ?_|refine so rfl ?_|refine sb rfl ?_)
  refine O_call (FindR_c l hl nm) (by rfl) (by rfl) (by rfl) (by rfl) (fun r hr => ?_)
  subst hr
  repeat (first|refine sc rfl ?_|refine so rfl ?_|refine sb rfl ?_)
  cases hf : fndL nm l with
  | none =>
    refine C_true rfl (by simp [fndZ, hf]) ?_
    repeat (first|refine sc rfl ?_|refine so rfl ?_|refine sb rfl ?_)
    exact ⟨_, rfl, rfl, by simp [kindL, hf]⟩
  | some j =>
    have hj := fndL_lt hf
    have hz : fndZ nm l = (j : Nat) := by simp [fndZ, hf]
    rw [hz]
    refine C_false rfl (by simp) ?_
    repeat (first|refine sc rfl ?_|refine so rfl ?_|refine sb rfl ?_)
    refine ⟨by omega, ?_⟩
    rw [Int.toNat_natCast]
    repeat (first|refine sc rfl ?_|refine so rfl ?_|refine sb rfl ?_)
    exact ⟨_, rfl, rfl, by simp [kindL, hf]⟩

end Go.Proofs

namespace Go.Proofs
open Go.Sy Go.Lib

def fldsL (l : List Dcl) (nm : List UInt8) : List Fld := match fndL nm l with
  | none => []
  | some j => (l.getD j default).fields

end Go.Proofs

namespace Go.Proofs
open Go.Sy Go.Lib

end Go.Proofs

namespace Go.Proofs
open Go.Shelf
def Tryz.lays137_ren : Go.Shelf.Ren := ⟨fun | 137 => 246 | 217 => 277 | 266 => 300 | n => n, fun | 9 => 9 | 5 => 5 | 3 => 3 | n => n, fun | n => n⟩
theorem Tryz.lays137 : Go.Proofs.Lays.n137 Tryz.prog Tryz.lays137_ren := {
  mixed := by kernel_rfl
  f137 := Tryz.func246.trans (congrArg some (by kernel_rfl))
  f217 := Tryz.func277.trans (congrArg some (by kernel_rfl))
  f266 := Tryz.func300.trans (congrArg some (by kernel_rfl))
  t3 := Tryz.underlying3
  a3 := Tryz.isAgg3
  z3 := Tryz.sizeOf3
  v3 := Tryz.zeroValue3
  t5 := Tryz.underlying5
  a5 := Tryz.isAgg5
  z5 := Tryz.sizeOf5
  v5 := Tryz.zeroValue5
  t9 := Tryz.underlying9
  a9 := Tryz.isAgg9
  z9 := Tryz.sizeOf9
  v9 := Tryz.zeroValue9 }
theorem Tryz.strings_IndexByte (s : ByteArray) (c : Int) (w : World) :
    Calls Tryz.prog 246 #[.string s, .int .u8 c] w fun e w' => e = .returned (.int .i64 (Lib.indexByte s.data.toList c.toNat.toUInt8)) ∧ w' = w := Any.strings_IndexByte Tryz.lays137 s c w
def Tryz.lays144_ren : Go.Shelf.Ren := ⟨fun | 144 => 278 | 143 => 301 | 219 => 316 | 217 => 277 | 225 => 325 | 224 => 326 | 267 => 327 | 266 => 300 | 314 => 328 | n => n, fun | 9 => 9 | 4 => 4 | 3 => 3 | 5 => 5 | 46 => 316 | 146 => 410 | 51 => 153 | n => n, fun | 1 => 0 | n => n⟩
theorem Tryz.lays144 : Go.Proofs.Lays.n144 Tryz.prog Tryz.lays144_ren := {
  mixed := by kernel_rfl
  f143 := Tryz.func301.trans (congrArg some (by kernel_rfl))
  f144 := Tryz.func278.trans (congrArg some (by kernel_rfl))
  f217 := Tryz.func277.trans (congrArg some (by kernel_rfl))
  f219 := Tryz.func316.trans (congrArg some (by kernel_rfl))
  f224 := Tryz.func326.trans (congrArg some (by kernel_rfl))
  f225 := Tryz.func325.trans (congrArg some (by kernel_rfl))
  f266 := Tryz.func300.trans (congrArg some (by kernel_rfl))
  f267 := Tryz.func327.trans (congrArg some (by kernel_rfl))
  f314 := Tryz.func328.trans (congrArg some (by kernel_rfl))
  t3 := Tryz.underlying3
  a3 := Tryz.isAgg3
  z3 := Tryz.sizeOf3
  v3 := Tryz.zeroValue3
  t4 := Tryz.underlying4
  a4 := Tryz.isAgg4
  z4 := Tryz.sizeOf4
  v4 := Tryz.zeroValue4
  t5 := Tryz.underlying5
  a5 := Tryz.isAgg5
  z5 := Tryz.sizeOf5
  v5 := Tryz.zeroValue5
  t9 := Tryz.underlying9
  a9 := Tryz.isAgg9
  z9 := Tryz.sizeOf9
  v9 := Tryz.zeroValue9
  t46 := Tryz.underlying316
  a46 := Tryz.isAgg316
  z46 := Tryz.sizeOf316
  v46 := Tryz.zeroValue316
  t51 := Tryz.underlying153
  a51 := Tryz.isAgg153
  z51 := Tryz.sizeOf153
  v51 := Tryz.zeroValue153
  t146 := Tryz.underlying410
  a146 := Tryz.isAgg410
  z146 := Tryz.sizeOf410
  v146 := Tryz.zeroValue410
  g1 := by kernel_rfl }
theorem Tryz.strings_Contains (s sub : ByteArray) (m : Int) (w : World) (hs : s.size < 4294967281) (hm : w.cell? ⟨0, 0, none⟩ = some (.int .i64 m)) :
    Calls Tryz.prog 278 #[.string s, .string sub] w fun e w' => e = .returned (.bool (Lib.contains s.data.toList sub.data.toList)) ∧ w' = w := Any.strings_Contains Tryz.lays144 s sub m w hs hm

end Go.Proofs

namespace Go.Proofs
open Go.Sy Go.Lib

theorem w8 {x : Int} (h1 : 0 ≤ x) (h2 : x ≤ 255) : IntKind.u8.wrap x = x := by
  simp only [IntKind.wrap]
  rw [if_neg (by simp [IntKind.signed])]
  show x % 2 ^ 8 = x
  omega

abbrev U8 (c : UInt8) : AV := .v (.int .u8 (c.toNat : Int))

def letB (c : UInt8) : Bool := (97 ≤ c.toNat && c.toNat ≤ 122) || (65 ≤ c.toNat && c.toNat ≤ 90)
def digB (c : UInt8) : Bool := 48 ≤ c.toNat && c.toNat ≤ 57
def innB (c : UInt8) : Bool := letB c || digB c || c.toNat == 95
def nteB (c : UInt8) : Bool := c.toNat != 10

theorem letter_c (c : UInt8) : FnP Tryz.prog 241 [U8 c] (· = B (letB c)) := by
  refine FnP.intro Tryz.tabOK Tryz.wide_ Tryz.func241 rfl (by decide) rfl (fun X => ?_)
  repeat (first|refine sc rfl ?_|refine so rfl ?_|refine sb rfl ?_)
  refine O_case 5 rfl (fun h1 => ?_) (fun h1 => ?_) <;> simp only [pL] at h1
  · repeat (first|refine sc rfl ?_|refine so rfl ?_|refine sb rfl ?_)
    refine O_case 9 rfl (fun h2 => ?_) (fun h2 => ?_) <;> simp only [pL] at h2
    · repeat (first|refine sc rfl ?_|refine so rfl ?_|refine sb rfl ?_)
      exact ⟨_, rfl, rfl, congrArg B (show true = letB c by unfold letB; rw [decide_eq_true (show 97 ≤ c.toNat by omega), decide_eq_true (show c.toNat ≤ 122 by omega)]; rfl)⟩
    · repeat (first|refine sc rfl ?_|refine so rfl ?_|refine sb rfl ?_)
      refine O_case 12 rfl (fun h3 => ?_) (fun h3 => ?_) <;> simp only [pL] at h3
      · repeat (first|refine sc rfl ?_|refine so rfl ?_|refine sb rfl ?_)
        exact ⟨_, rfl, rfl, congrArg B (show decide ((c.toNat : Int) ≤ 90) = letB c by unfold letB; rw [Bool.eq_iff_iff]; simp; omega)⟩
      · repeat (first|refine sc rfl ?_|refine so rfl ?_|refine sb rfl ?_)
        exact ⟨_, rfl, rfl, congrArg B (show false = letB c by unfold letB; rw [Bool.eq_iff_iff]; simp; omega)⟩
  · repeat (first|refine sc rfl ?_|refine so rfl ?_|refine sb rfl ?_)
    refine O_case 12 rfl (fun h3 => ?_) (fun h3 => ?_) <;> simp only [pL] at h3
    · repeat (first|refine sc rfl ?_|refine so rfl ?_|refine sb rfl ?_)
      exact ⟨_, rfl, rfl, congrArg B (show decide ((c.toNat : Int) ≤ 90) = letB c by unfold letB; rw [Bool.eq_iff_iff]; simp; omega)⟩
    · repeat (first|refine sc rfl ?_|refine so rfl ?_|refine sb rfl ?_)
      exact ⟨_, rfl, rfl, congrArg B (show false = letB c by unfold letB; rw [Bool.eq_iff_iff]; simp; omega)⟩
theorem digit_c (c : UInt8) : FnP Tryz.prog 243 [U8 c] (· = B (digB c)) := by
  refine FnP.intro Tryz.tabOK Tryz.wide_ Tryz.func243 rfl (by decide) rfl (fun X => ?_)
  repeat (first|refine sc rfl ?_|refine so rfl ?_|refine sb rfl ?_)
  refine O_case 5 rfl (fun h1 => ?_) (fun h1 => ?_) <;> simp only [pL] at h1
  · repeat (first|refine sc rfl ?_|refine so rfl ?_|refine sb rfl ?_)
    exact ⟨_, rfl, rfl, congrArg B (show decide ((c.toNat : Int) ≤ 57) = digB c by unfold digB; rw [Bool.eq_iff_iff]; simp; omega)⟩
  · repeat (first|refine sc rfl ?_|refine so rfl ?_|refine sb rfl ?_)
    exact ⟨_, rfl, rfl, congrArg B (show false = digB c by unfold digB; rw [Bool.eq_iff_iff]; simp; omega)⟩
theorem inner_c (c : UInt8) : FnP Tryz.prog 274 [U8 c] (· = B (innB c)) := by
  refine FnP.intro Tryz.tabOK Tryz.wide_ Tryz.func274 rfl (by decide) rfl (fun X => ?_)
  repeat (first|refine sc rfl ?_|refine so rfl ?_|refine sb rfl ?_)
  refine O_call (letter_c c) (by rfl) (by rfl) (by rfl) (by rfl) (fun r hr => ?_)
  subst hr
  repeat (first|refine sc rfl ?_|refine so rfl ?_|refine sb rfl ?_)
  cases h1 : letB c with
  | true =>
    repeat (first|refine sc rfl ?_|refine so rfl ?_|refine sb rfl ?_)
    exact ⟨_, rfl, rfl, congrArg B (show true = innB c by unfold innB; rw [h1]; rfl)⟩
  | false =>
    repeat (first|refine sc rfl ?_|refine so rfl ?_|refine sb rfl ?_)
    refine O_call (digit_c c) (by rfl) (by rfl) (by rfl) (by rfl) (fun r hr => ?_)
    subst hr
    repeat (first|refine sc rfl ?_|refine so rfl ?_|refine sb rfl ?_)
    cases h2 : digB c with
    | true =>
      repeat (first|refine sc rfl ?_|refine so rfl ?_|refine sb rfl ?_)
      exact ⟨_, rfl, rfl, congrArg B (show true = innB c by unfold innB; rw [h1, h2]; rfl)⟩
    | false =>
      repeat (first|refine sc rfl ?_|refine so rfl ?_|refine sb rfl ?_)
      exact ⟨_, rfl, rfl, congrArg B (show ((c.toNat : Int) == 95) = innB c by unfold innB; rw [h1, h2, Bool.eq_iff_iff]; simp; omega)⟩
theorem note1_c (c : UInt8) : FnP Tryz.prog 276 [U8 c] (· = B (nteB c)) := by
  refine FnP.intro Tryz.tabOK Tryz.wide_ Tryz.func276 rfl (by decide) rfl (fun X => ?_)
  repeat (first|refine sc rfl ?_|refine so rfl ?_|refine sb rfl ?_)
  exact ⟨_, rfl, rfl, congrArg B (show ((c.toNat : Int) != 10) = nteB c by unfold nteB; rw [Bool.eq_iff_iff]; simp; omega)⟩

structure Tok where
  kind : Int
  text : List UInt8
  num : Int
  at_ : Int
instance : Inhabited Tok := ⟨⟨0, [], 0, 0⟩⟩
def Tok.c (t : Tok) : List AV := [I64 t.kind, .s t.text, I64 t.num, I64 t.at_]

abbrev lexA (b : Nat) (s : List UInt8) (i : Nat) (h : Value) : Abs := boxA b 293 [.s s, I64 (i : Nat), .v h]
abbrev tokA (h : Value) (ts : List Tok) : Abs := vecA h 222 4 ts.length (fun i => Tok.c (ts.getD i default))

theorem put_A (b : Nat) (s : List UInt8) (i : Nat) (h : Value) (ts : List Tok) (hl : ts.length ≤ 100000) (k : Int) (t : List UInt8) (num at_ : Int) :
    FnA Tryz.prog 182 [PT b 0, I64 k, .s t, I64 num, I64 at_] [lexA b s i h, tokA h ts] (fun r cs' => r = .tup [] ∧ ∃ h', cs' = [lexA b s i h', tokA h' (ts ++ [⟨k, t, num, at_⟩])]) := by
  refine FnA.intro Tryz.tabOK Tryz.wide_ Tryz.func182 rfl (by decide) rfl (fun X => ?_)
  repeat (first|refine sc rfl ?_|refine so rfl ?_|refine sb rfl ?_)
  refine O_loadP 0 (reads_box 2) rfl rfl rfl rfl rfl rfl ?_
  repeat (first|refine sc rfl ?_|refine so rfl ?_|refine sb rfl ?_)
  refine O_le _ (Le.freeze 20 rfl rfl) ?_
  refine O_appendV 1 (m2 := 1) (m3 := ts.length + 1) (row3 := fun i => Tok.c ((ts ++ [(⟨k, t, num, at_⟩ : Tok)]).getD i default)) rfl rfl rfl rfl rfl rfl (fun i hi => ?_) rfl (by show (ts.length + 1) * 40 ≤ 140737488355328; omega) (by show ts.length + 1 ≤ maxLen; simp only [maxLen]; omega) rfl (fun i hi => ?_) (fun v' hv' => ?_)
  · show (chunkRow 4 (Tok.c (⟨k, t, num, at_⟩ : Tok)) i).length = 4
    have h0 : i = 0 := by have : i < 1 := hi; omega
    subst h0; rfl
  · unfold appRow
    by_cases hik : i < ts.length
    · rw [if_pos hik]
      show Tok.c (ts.getD i default) = _
      rw [List.getD_eq_getElem?_getD, List.getD_eq_getElem?_getD, List.getElem?_append_left hik]
    · rw [if_neg hik]
      obtain rfl : i = ts.length := by omega
      rw [Nat.sub_self, List.getD_eq_getElem?_getD, List.getElem?_append_right (Nat.le_refl _), Nat.sub_self]; rfl
  · obtain ⟨g9, cc9, rfl⟩ := hv'.resolve_left (fun h => by omega)
    repeat (first|refine sc rfl ?_|refine so rfl ?_|refine sb rfl ?_)
    refine O_Xn (X_storeP 1 (writes_box (by show 2 < 3; decide)) rfl rfl rfl rfl rfl rfl rfl) ?_
    repeat (first|refine sc rfl ?_|refine so rfl ?_|refine sb rfl ?_)
    exact ⟨_, [lexA b s i (HD g9 (ts.length + 1) cc9), _], _, rfl, .refl _, rfl, rfl, _, by show _ = [_, vecA _ 222 4 (ts ++ [(⟨k, t, num, at_⟩ : Tok)]).length _]; rw [List.length_append]; rfl⟩

theorem tw_all {p : UInt8 → Bool} : ∀ {l : List UInt8} {n : Nat}, n ≤ l.length → (∀ j, j < n → p (l.getD j 0) = true) → (n = l.length ∨ p (l.getD n 0) = false) → l.takeWhile p = l.take n
  | [], n, h, _, _ => by simp
  | c :: l, 0, _, _, h => by
    rcases h with h | h
    · simp at h
    · have : p c = false := by simpa using h
      simp [this]
  | c :: l, n + 1, h, hall, hs => by
    have h0 : p c = true := by simpa using hall 0 (by omega)
    rw [List.takeWhile_cons, h0, if_pos rfl, List.take_succ_cons]
    rw [tw_all (l := l) (n := n) (by simpa using h) (fun j hj => by simpa using hall (j + 1) (by omega)) (by simpa using hs)]
theorem tw_stop {p : UInt8 → Bool} {s : List UInt8} {i k : Nat} (h1 : i ≤ k) (h2 : k ≤ s.length) (hall : ∀ j, i ≤ j → j < k → p (s.getD j 0) = true) (hs : k = s.length ∨ p (s.getD k 0) = false) :
    (s.drop i).takeWhile p = (s.drop i).take (k - i) ∧ ((s.drop i).takeWhile p).length = k - i := by
  have hg : ∀ j, (s.drop i).getD j 0 = s.getD (i + j) 0 := fun j => by rw [List.getD_eq_getElem?_getD, List.getElem?_drop, List.getD_eq_getElem?_getD]
  have h3 := tw_all (p := p) (l := s.drop i) (n := k - i) (by rw [List.length_drop]; omega) (fun j hj => by rw [hg]; exact hall _ (by omega) (by omega)) (by
    rcases hs with hs | hs
    · left; rw [List.length_drop]; omega
    · right; rw [hg, show i + (k - i) = k by omega]; exact hs)
  refine ⟨h3, ?_⟩
  rw [h3, List.length_take, List.length_drop]; omega

theorem while_A (f : FuncId) (p : UInt8 → Bool) (hp : ∀ c, FnP Tryz.prog f [U8 c] (· = B (p c))) (b : Nat) (s : List UInt8) (i : Nat) (h : Value) (hi : i ≤ s.length) (hs : s.length ≤ 1024) :
    FnA Tryz.prog 273 [PT b 0, .v (.func (.func f) #[] #[])] [lexA b s i h] (fun r cs' => r = .s ((s.drop i).takeWhile p) ∧ cs' = [lexA b s (i + ((s.drop i).takeWhile p).length) h]) := by
  refine FnA.intro Tryz.tabOK Tryz.wide_ Tryz.func273 rfl (by decide) rfl (fun X => ?_)
  repeat (first|refine sc rfl ?_|refine so rfl ?_|refine sb rfl ?_)
  refine O_loadP 0 (reads_box 1) rfl rfl rfl rfl rfl rfl ?_
  repeat (first|refine sc rfl ?_|refine so rfl ?_|refine sb rfl ?_)
  refine C_loop (fun k : Nat => ⟨[(0, PT b 0), (1, .v (.func (.func f) #[] #[])), (5, I64 (i : Nat))], [.abs (lexA b s k h)]⟩) (fun k => i ≤ k ∧ k ≤ s.length ∧ ∀ j, i ≤ j → j < k → p (s.getD j 0) = true) (fun k => s.length - k) i ⟨Nat.le_refl _, hi, fun j h1 h2 => by omega⟩ (Le.pick [0] ⟨rfl, rfl, rfl, trivial⟩ rfl) ?_
  rintro k ⟨hk1, hk2, hall⟩
  repeat (first|refine sc rfl ?_|refine so rfl ?_|refine sb rfl ?_)
  refine C_drawD rfl (by kernel_rfl) ?_
  repeat (first|refine sd rfl ?_|refine sdb rfl ?_|refine sds rfl ?_)
  refine D_X (I64 (k : Nat)) (X_loadP 0 (reads_box 1) rfl rfl rfl rfl rfl rfl) ?_
  repeat (first|refine sd rfl ?_|refine sdb rfl ?_|refine sds rfl ?_)
  refine D_X (.s s) (X_loadP 0 (reads_box 0) rfl rfl rfl rfl rfl rfl) ?_
  repeat (first|refine sd rfl ?_|refine sdb rfl ?_|refine sds rfl ?_)
  refine D_case 10 rfl (fun m1 => ?_) (fun m1 => ?_) <;> simp only [pL] at m1
  · have hkl : k < s.length := by omega
    repeat (first|refine sd rfl ?_|refine sdb rfl ?_|refine sds rfl ?_)
    refine D_X (.s s) (X_loadP 0 (reads_box 0) rfl rfl rfl rfl rfl rfl) ?_
    repeat (first|refine sd rfl ?_|refine sdb rfl ?_|refine sds rfl ?_)
    refine D_X (I64 (k : Nat)) (X_loadP 0 (reads_box 1) rfl rfl rfl rfl rfl rfl) ?_
    repeat (first|refine sd rfl ?_|refine sdb rfl ?_|refine sds rfl ?_)
    refine ⟨by omega, ?_⟩
    rw [Int.toNat_natCast]
    refine D_callV (isClo_func f) rfl (hp (s.getD k 0)) rfl rfl rfl rfl rfl ?_
    repeat (first|refine sd rfl ?_|refine sdb rfl ?_|refine sds rfl ?_)
    repeat (first|refine sc rfl ?_|refine so rfl ?_|refine sb rfl ?_)
    cases hpk : p (s.getD k 0) with
    | true =>
      refine C_true rfl rfl ?_
      repeat (first|refine sc rfl ?_|refine so rfl ?_|refine sb rfl ?_)
      refine O_loadP 0 (reads_box 1) rfl rfl rfl rfl rfl rfl ?_
      repeat (first|refine sc rfl ?_|refine so rfl ?_|refine sb rfl ?_)
      refine O_Xn (X_storeP 0 (writes_box (by show 1 < 3; decide)) rfl rfl rfl rfl rfl rfl rfl) ?_
      repeat (first|refine sc rfl ?_|refine so rfl ?_|refine sb rfl ?_)
      rw [w64 (x := (k : Int) + 1) (by omega) (by omega)]
      refine ⟨k + 1, ⟨by omega, hkl, fun j h1 h2 => ?_⟩, by omega, Le.pick [0] ⟨rfl, rfl, rfl, trivial⟩ rfl⟩
      by_cases hjk : j < k
      · exact hall j h1 hjk
      · obtain rfl : j = k := by omega
        exact hpk
    | false =>
      refine C_false rfl rfl ?_
      repeat (first|refine sc rfl ?_|refine so rfl ?_|refine sb rfl ?_)
      refine C_drawD rfl (by kernel_rfl) ?_
      repeat (first|refine sd rfl ?_|refine sdb rfl ?_|refine sds rfl ?_)
      refine D_X (.s s) (X_loadP 0 (reads_box 0) rfl rfl rfl rfl rfl rfl) ?_
      repeat (first|refine sd rfl ?_|refine sdb rfl ?_|refine sds rfl ?_)
      refine D_X (I64 (k : Nat)) (X_loadP 0 (reads_box 1) rfl rfl rfl rfl rfl rfl) ?_
      repeat (first|refine sd rfl ?_|refine sdb rfl ?_|refine sds rfl ?_)
      refine ⟨by omega, ?_⟩
      rw [Int.toNat_natCast, Int.toNat_natCast]
      have htw := tw_stop hk1 hk2 hall (.inr hpk)
      repeat (first|refine sd rfl ?_|refine sdb rfl ?_|refine sds rfl ?_)
      repeat (first|refine sc rfl ?_|refine so rfl ?_|refine sb rfl ?_)
      exact ⟨_, [lexA b s k h], _, rfl, .refl _, rfl, by rw [htw.1], by rw [htw.2, show i + (k - i) = k by omega]⟩
  · repeat (first|refine sd rfl ?_|refine sdb rfl ?_|refine sds rfl ?_)
    repeat (first|refine sc rfl ?_|refine so rfl ?_|refine sb rfl ?_)
    refine C_false rfl rfl ?_
    repeat (first|refine sc rfl ?_|refine so rfl ?_|refine sb rfl ?_)
    refine C_drawD rfl (by kernel_rfl) ?_
    repeat (first|refine sd rfl ?_|refine sdb rfl ?_|refine sds rfl ?_)
    refine D_X (.s s) (X_loadP 0 (reads_box 0) rfl rfl rfl rfl rfl rfl) ?_
    repeat (first|refine sd rfl ?_|refine sdb rfl ?_|refine sds rfl ?_)
    refine D_X (I64 (k : Nat)) (X_loadP 0 (reads_box 1) rfl rfl rfl rfl rfl rfl) ?_
    repeat (first|refine sd rfl ?_|refine sdb rfl ?_|refine sds rfl ?_)
    refine ⟨by omega, ?_⟩
    rw [Int.toNat_natCast, Int.toNat_natCast]
    have htw := tw_stop hk1 hk2 hall (.inl (by omega))
    repeat (first|refine sd rfl ?_|refine sdb rfl ?_|refine sds rfl ?_)
    repeat (first|refine sc rfl ?_|refine so rfl ?_|refine sb rfl ?_)
    exact ⟨_, [lexA b s k h], _, rfl, .refl _, rfl, by rw [htw.1], by rw [htw.2, show i + (k - i) = k by omega]⟩
end Go.Proofs
