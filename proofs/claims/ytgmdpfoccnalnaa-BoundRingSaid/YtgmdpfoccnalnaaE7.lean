/- Contract of slices.DeleteFunc at pointers to flows. -/
import Derived.Test.YtgmdpfoccnalnaaE6
set_option linter.unusedSimpArgs false
set_option linter.unusedVariables false
set_option maxRecDepth 100000
namespace Go.Proofs
open Go.Sy Go.Lib Go.Ring

abbrev noB (b : Nat) (ps : List Nat) : List Nat := ps.filter (fun x => x != b)

theorem noB_take (b : Nat) (ps : List Nat) (j : Nat) (hj : j < ps.length) : noB b (ps.take (j + 1)) = noB b (ps.take j) ++ (if ps[j] = b then [] else [ps[j]]) := by
  unfold noB
  rw [List.take_succ_eq_append_getElem hj, List.filter_append]
  congr 1
  by_cases h : ps[j] = b <;> simp [h]

theorem noB_len (b : Nat) (ps : List Nat) : (noB b ps).length ≤ ps.length := List.length_filter_le _ _

theorem DeleteFunc_A {fs : List FS} {g o m cc : Nat} {ps : List Nat} {b : Nat} (hb : Known fs b) (hps : ∀ x ∈ ps, Known fs x) (hl : ps.length ≤ 1000000) (hm : ps.length = m) (hbp : b ∈ ps) :
    FnA Try.prog 53 [.v (HO g o m cc), isF b] [rwA (HO g o m cc) ps, flA fs] (fun r cs => r = .v (HO g o (noB b ps).length cc) ∧ cs = [rwA (HO g o (noB b ps).length cc) (noB b ps), flA fs]) := by
  refine FnA.intro Try.tabOK Try.wide_ Try.func53 rfl (by decide) rfl (fun X => ?_)
  refine C_know 0 (m ≤ cc) rfl (fun G w hok _ => (slO_ho hok).2.1) (fun hmc => ?_)
  have hidx : ∃ i0, idxP b ps = (i0 : Nat) ∧ ∃ h : i0 < ps.length, ps[i0] = b ∧ ∀ j, (hj : j < i0) → ps[j] ≠ b := by
    have h0 := idxP_mem.2 hbp
    unfold idxP at h0 ⊢
    cases hx : ps.findIdx? (· == b) with
    | none => rw [hx] at h0; simp at h0
    | some i =>
      obtain ⟨h1, h2, h3⟩ := List.findIdx?_eq_some_iff_getElem.1 hx
      exact ⟨i, rfl, h1, by simpa using h2, fun j hj => by simpa using h3 j hj⟩
  obtain ⟨i0, hi0, hi1, hi2, hi3⟩ := hidx
  repeat (first | refine sc rfl ?_ | refine so rfl ?_ | refine sb rfl ?_)
  refine O_callA [0, 0] (IndexFunc_A hb hps hl hm) (by rfl) (by rfl) (by rfl) (by rfl) (by rfl) ?_
  rintro r cs' ⟨rfl, rfl⟩
  rw [hi0]
  repeat (first | refine sc rfl ?_ | refine so rfl ?_ | refine sb rfl ?_)
  refine C_false rfl (by simp) ?_
  repeat (first | refine sc rfl ?_ | refine so rfl ?_ | refine sb rfl ?_)
  rw [w64 (x := (i0 : Int) + 1) (by omega) (by omega)]
  refine C_loop (fun q : Nat × Nat × List Nat => ⟨[(0, .v (HO g o m cc)), (1, isF b), (5, I64 (q.2.1 : Nat)), (6, I64 (q.1 : Nat))], [.abs (slO (HO g o m cc) 58 1 (ptrs q.2.2)), .abs (flA fs)]⟩)
    (fun q => q.2.1 < q.1 ∧ q.1 ≤ m ∧ q.2.2.length = m ∧ q.2.2.take q.2.1 = noB b (ps.take q.1) ∧ q.2.2.drop q.1 = ps.drop q.1) (fun q => m - q.1) (i0 + 1, i0, ps) ⟨by simp only []; omega, by simp only []; omega, hm, ?_, rfl⟩ (Le.perm [] ⟨rfl, rfl, rfl, rfl, trivial⟩ (.refl _)) ?_
  · simp only []
    rw [noB_take b ps i0 hi1, if_pos hi2, List.append_nil]
    unfold noB
    rw [List.filter_eq_self.2]
    intro x hx
    obtain ⟨j, hj, rfl⟩ := List.getElem_of_mem hx
    simp only [List.length_take] at hj
    have := hi3 j (by omega)
    simpa using this
  rintro ⟨j, i, L⟩ ⟨h1, h2, h3, h4, h5⟩
  simp only [] at h1 h2 h3 h4 h5
  repeat (first | refine sc rfl ?_ | refine so rfl ?_ | refine sb rfl ?_)
  refine C_if rfl (fun h6 => ?_) (fun h6 => ?_) <;> simp only [decide_eq_true_eq, decide_eq_false_iff_not] at h6
  · have hjm : j < ps.length := by omega
    have hget : L[j]? = some ps[j] := by
      have := congrArg (fun l => l[0]?) h5
      simp only [List.getElem?_drop, Nat.add_zero] at this
      rw [this]; exact List.getElem?_eq_getElem hjm
    have hkn := hps _ (List.getElem_mem hjm)
    have hnt := noB_take b ps j hjm
    repeat (first | refine sc rfl ?_ | refine so rfl ?_ | refine sb rfl ?_)
    refine ⟨by omega, ?_⟩
    refine O_loadO 0 (ptrs_get hget) rfl rfl rfl rfl rfl ?_
    repeat (first | refine sc rfl ?_ | refine so rfl ?_ | refine sb rfl ?_)
    refine O_callAV (isClo_p 54 [.cp [PT b 0]]) rfl (is_A hkn hb) rfl rfl rfl rfl (cs := [flA fs]) (cr := [.abs (slO (HO g o m cc) 58 1 (ptrs L))]) (List.Perm.swap _ _ _) rfl ?_
    rintro r cs' ⟨rfl, rfl⟩
    repeat (first | refine sc rfl ?_ | refine so rfl ?_ | refine sb rfl ?_)
    refine C_if rfl (fun h7 => ?_) (fun h7 => ?_) <;> simp only [Bool.not_eq_true', Bool.not_eq_false', decide_eq_true_eq, decide_eq_false_iff_not] at h7
    · repeat (first | refine sc rfl ?_ | refine so rfl ?_ | refine sb rfl ?_)
      refine ⟨by simp only []; omega, ?_⟩
      refine O_Xn (X_storeP 1 (writes_slO (by rw [List.length_map]; show (i : Int).toNat * 1 < _; omega)) rfl rfl rfl rfl rfl rfl rfl) ?_
      have hset : (ptrs L).set ((i : Int).toNat * 1) (PT ps[j] 0) = ptrs (L.set i ps[j]) := by simp [List.map_set]
      rw [hset]
      repeat (first | refine sc rfl ?_ | refine so rfl ?_ | refine sb rfl ?_)
      rw [w64 (x := (i : Int) + 1) (by omega) (by omega), w64 (x := (j : Int) + 1) (by omega) (by omega)]
      refine ⟨(j + 1, i + 1, L.set i ps[j]), ⟨by simp only []; omega, by simp only []; omega, by simp only [List.length_set]; omega, ?_, ?_⟩, by simp only []; omega, Le.perm [] ⟨rfl, rfl, rfl, rfl, trivial⟩ (.refl _)⟩
      · simp only []
        rw [hnt, if_neg h7, ← h4, List.take_succ_eq_append_getElem (by simp; omega), List.getElem_set_self, List.take_set_of_le (Nat.le_refl _)]
      · simp only []
        rw [List.drop_set_of_lt (by omega)]
        have := congrArg (List.drop 1) h5
        simpa [List.drop_drop, Nat.add_comm] using this
    · repeat (first | refine sc rfl ?_ | refine so rfl ?_ | refine sb rfl ?_)
      rw [w64 (x := (j : Int) + 1) (by omega) (by omega)]
      refine ⟨(j + 1, i, L), ⟨by simp only []; omega, by simp only []; omega, h3, ?_, ?_⟩, by simp only []; omega, Le.perm [] ⟨rfl, rfl, rfl, rfl, trivial⟩ (List.Perm.swap _ _ _)⟩
      · simp only []
        rw [hnt, if_pos h7, List.append_nil]; exact h4
      · simp only []
        have := congrArg (List.drop 1) h5
        simpa [List.drop_drop, Nat.add_comm] using this
  · obtain rfl : j = m := by omega
    have h4' : L.take i = noB b ps := by rw [h4, List.take_of_length_le (by omega)]
    have hil : i = (noB b ps).length := by rw [← h4', List.length_take]; omega
    repeat (first | refine sc rfl ?_ | refine so rfl ?_ | refine sb rfl ?_)
    refine O_Xd (X_slice rfl rfl rfl rfl rfl rfl rfl (by first | omega | (simp only []; omega)) (by first | omega | (simp only []; omega)) (by first | omega | (simp only []; omega)) hmc) ?_
    simp only [Int.toNat_natCast, Nat.mul_one]
    refine O_Xn (X_clear 0 (i := i) (zv := .pointer none) rfl rfl rfl rfl rfl rfl rfl rfl (by first | omega | (simp only []; omega)) ?_) ?_
    · by_cases hz : j - i = 0
      · exact .inl hz
      · right; rw [if_neg (by omega)]
    have hcells : ((ptrs L).take i ++ List.replicate (j - i) (AV.v (.pointer none))).take (i * 1) = ptrs (noB b ps) := by
      rw [Nat.mul_one, List.take_append_of_le_length (by simp; omega), List.take_take, Nat.min_self, ← List.map_take, h4']
    refine O_le _ (Le.retell 0 (A' := rwA (HO g o (noB b ps).length cc) (noB b ps)) rfl rfl (fun G w hok => ?_)) ?_
    · have := slO_take i (by omega) G w hok
      rw [hcells] at this
      rw [← hil]; exact this
    repeat (first | refine sc rfl ?_ | refine so rfl ?_ | refine sb rfl ?_)
    refine O_Xd (X_slice rfl rfl rfl rfl rfl rfl rfl (by omega) (by omega) (by omega) hmc) ?_
    simp only [Int.toNat_natCast, Int.toNat_zero, Nat.sub_zero, Nat.zero_mul, Nat.add_zero, ite_self]
    repeat (first | refine sc rfl ?_ | refine so rfl ?_ | refine sb rfl ?_)
    exact ⟨_, [rwA (HO g o (noB b ps).length cc) (noB b ps), flA fs], [], rfl, .refl _, rfl, by rw [hil], rfl⟩
end Go.Proofs

/- Contracts of the ring: leave, join, settle, serve. -/
set_option linter.unusedSimpArgs false
set_option linter.unusedVariables false
set_option maxRecDepth 100000
namespace Go.Proofs
open Go.Sy Go.Lib Go.Ring

theorem Known.set {fs : List FS} {i : Nat} {f f' : FS} (hi : fs[i]? = some f) (hb : f'.b = f.b) {x : Nat} (h : Known fs x) : Known (fs.set i f') x := by
  obtain ⟨j, g, hj, rfl⟩ := h
  by_cases e : i = j
  · subst e
    rw [hi] at hj; cases hj
    exact ⟨i, f', by rw [List.getElem?_set, if_pos rfl, if_pos (List.getElem?_eq_some_iff.1 hi).1], hb⟩
  · exact ⟨j, g, by rw [List.getElem?_set, if_neg e]; exact hj, rfl⟩

theorem leave_A {bR : Nat} {mo : Option Nat} {fs : List FS} {i : Nat} {f : FS} {g o m cc : Nat} {ps : List Nat} (hi : fs[i]? = some f) (hn : (fs.map (·.b)).Nodup) (hps : ∀ x ∈ ps, Known fs x) (hl : ps.length ≤ 1000000) (hm : ps.length = m) (hbp : f.b ∈ ps) :
    FnA Try.prog 41 [PT bR 0, PT f.b 0] [ringA bR mo (HO g o m cc), rwA (HO g o m cc) ps, flA fs]
      (fun r cs => r = .tup [] ∧ cs = [ringA bR mo (HO g o (noB f.b ps).length cc), rwA (HO g o (noB f.b ps).length cc) (noB f.b ps), flA (fs.set i { f with d := 0 })]) := by
  have hkf : Known fs f.b := ⟨i, f, hi, rfl⟩
  refine FnA.intro Try.tabOK Try.wide_ Try.func41 rfl (by decide) rfl (fun X => ?_)
  repeat (first | refine sc rfl ?_ | refine so rfl ?_ | refine sb rfl ?_)
  refine O_Xn (X_storeP 3 (writes_flows (f' := { f with d := 0 }) hi hn rfl (by decide) rfl) rfl rfl rfl rfl rfl rfl rfl) ?_
  repeat (first | refine sc rfl ?_ | refine so rfl ?_ | refine sb rfl ?_)
  refine O_loadP 2 (reads_box 1) rfl rfl rfl rfl rfl rfl ?_
  refine O_le _ (Le.freezebox 3 rfl rfl rfl) ?_
  refine O_makeFunc rfl rfl rfl rfl ?_
  have hi' : (fs.set i { f with d := 0 })[i]? = some { f with d := 0 } := by rw [List.getElem?_set, if_pos rfl, if_pos (List.getElem?_eq_some_iff.1 hi).1]
  refine O_callA [2, 0] (DeleteFunc_A (fs := fs.set i { f with d := 0 }) (b := f.b) (hkf.set (f' := { f with d := 0 }) hi rfl) (fun x hx => (hps x hx).set (f' := { f with d := 0 }) hi rfl) hl hm hbp) (by rfl) (by rfl) (by rfl) (by rfl) (by rfl) ?_
  rintro r cs' ⟨rfl, rfl⟩
  repeat (first | refine sc rfl ?_ | refine so rfl ?_ | refine sb rfl ?_)
  refine O_Xn (X_storeP 2 (writes_box (by show 1 < 2; decide)) rfl rfl rfl rfl rfl rfl rfl) ?_
  repeat (first | refine sc rfl ?_ | refine so rfl ?_ | refine sb rfl ?_)
  exact ⟨_, [ringA bR mo (HO g o (noB f.b ps).length cc), rwA (HO g o (noB f.b ps).length cc) (noB f.b ps), flA (fs.set i { f with d := 0 })], [], rfl, .refl _, rfl, rfl, rfl⟩

theorem join_A {bR : Nat} {mo : Option Nat} {fs : List FS} {i : Nat} {f : FS} {hr : Value} {ps : List Nat} (hi : fs[i]? = some f) (hn : (fs.map (·.b)).Nodup) (hps : ∀ x ∈ ps, Known fs x) (hl : ps.length ≤ 1000000) :
    FnA Try.prog 40 [PT bR 0, PT f.b 0] [ringA bR mo hr, rwA hr ps, flA fs]
      (fun r cs => r = .tup [] ∧ ((f.b ∈ ps ∧ cs = [ringA bR mo hr, rwA hr ps, flA fs]) ∨ (f.b ∉ ps ∧ ∃ g o m cc, cs = [ringA bR mo (HO g o m cc), rwA (HO g o m cc) (ps ++ [f.b]), flA (fs.set i { f with d := 0, an := true })]))) := by
  have hkf : Known fs f.b := ⟨i, f, hi, rfl⟩
  refine FnA.intro Try.tabOK Try.wide_ Try.func40 rfl (by decide) rfl (fun X => ?_)
  repeat (first | refine sc rfl ?_ | refine so rfl ?_ | refine sb rfl ?_)
  refine O_loadP 0 (reads_box 1) rfl rfl rfl rfl rfl rfl ?_
  repeat (first | refine sc rfl ?_ | refine so rfl ?_ | refine sb rfl ?_)
  refine O_callA [1, 1] (Contains_A hkf hps hl) (by rfl) (by rfl) (by rfl) (by rfl) (by rfl) ?_
  rintro r cs' ⟨rfl, rfl⟩
  repeat (first | refine sc rfl ?_ | refine so rfl ?_ | refine sb rfl ?_)
  refine C_if rfl (fun h7 => ?_) (fun h7 => ?_) <;> simp only [Bool.not_eq_true', Bool.not_eq_false', decide_eq_true_eq, decide_eq_false_iff_not] at h7
  · have hi' : (fs.set i { f with d := 0 })[i]? = some { f with d := 0 } := by rw [List.getElem?_set, if_pos rfl, if_pos (List.getElem?_eq_some_iff.1 hi).1]
    have hn' : ((fs.set i { f with d := 0 }).map (·.b)).Nodup := by
      have : (fs.set i { f with d := 0 }).map (·.b) = fs.map (·.b) := by
        rw [List.map_set]
        apply List.ext_getElem?
        intro j
        rw [List.getElem?_set]
        split
        · rename_i hij; subst hij
          split
          · simp [hi]
          · rename_i hlt; rw [List.getElem?_eq_none (by simpa using hlt)]
        · rfl
      rw [this]; exact hn
    repeat (first | refine sc rfl ?_ | refine so rfl ?_ | refine sb rfl ?_)
    refine O_Xn (X_storeP 1 (writes_flows (f' := { f with d := 0 }) hi hn rfl (by decide) rfl) rfl rfl rfl rfl rfl rfl rfl) ?_
    repeat (first | refine sc rfl ?_ | refine so rfl ?_ | refine sb rfl ?_)
    refine O_Xn (X_storeP 0 (writes_flows (f := { f with d := 0 }) (f' := { f with d := 0, an := true }) hi' hn' rfl (by decide) rfl) rfl rfl rfl rfl rfl rfl rfl) ?_
    repeat (first | refine sc rfl ?_ | refine so rfl ?_ | refine sb rfl ?_)
    refine O_loadP 2 (reads_box 1) rfl rfl rfl rfl rfl rfl ?_
    repeat (first | refine sc rfl ?_ | refine so rfl ?_ | refine sb rfl ?_)
    refine O_le _ (Le.freeze 23 rfl rfl) ?_
    refine O_appendO 1 (x := PT f.b 0) rfl rfl rfl rfl rfl rfl rfl (by simp; omega) (by simp [maxLen]; omega) (fun v' hv' => ?_)
    obtain ⟨g, o, m, cc, rfl⟩ := hv'
    repeat (first | refine sc rfl ?_ | refine so rfl ?_ | refine sb rfl ?_)
    refine O_Xn (X_storeP 2 (writes_box (by show 1 < 2; decide)) rfl rfl rfl rfl rfl rfl rfl) ?_
    repeat (first | refine sc rfl ?_ | refine so rfl ?_ | refine sb rfl ?_)
    refine ⟨_, [ringA bR mo (HO g o m cc), rwA (HO g o m cc) (ps ++ [f.b]), flA (fs.set i { f with d := 0, an := true })], [], rfl, ?_, rfl, rfl, .inr ⟨h7, g, o, m, cc, rfl⟩⟩
    have hrow : slO (HO g o m cc) 58 1 (List.map (fun b => PT b 0) ps ++ [PT f.b 0]) = rwA (HO g o m cc) (ps ++ [f.b]) := by simp [rwA]
    rw [hrow, List.set_set]
    exact .refl _
  · repeat (first | refine sc rfl ?_ | refine so rfl ?_ | refine sb rfl ?_)
    exact ⟨_, [ringA bR mo hr, rwA hr ps, flA fs], [], rfl, List.perm_append_comm (l₁ := [_, _]) (l₂ := [_]), rfl, rfl, .inl ⟨h7, rfl⟩⟩
end Go.Proofs

/- Contracts of the ring: settle, serve. -/
set_option linter.unusedSimpArgs false
set_option linter.unusedVariables false
set_option maxRecDepth 100000
namespace Go.Proofs
open Go.Sy Go.Lib Go.Ring

theorem map_b_set {fs : List FS} {i : Nat} {f f' : FS} (hi : fs[i]? = some f) (hb : f'.b = f.b) : (fs.set i f').map (·.b) = fs.map (·.b) := by
  rw [List.map_set, hb]
  apply List.ext_getElem?
  intro j
  rw [List.getElem?_set]
  split
  · rename_i hij; subst hij
    split
    · simp [hi]
    · rename_i hlt; rw [List.getElem?_eq_none (by simpa using hlt)]
  · rfl
theorem set_get {fs : List FS} {i : Nat} {f f' : FS} (hi : fs[i]? = some f) : (fs.set i f')[i]? = some f' := by rw [List.getElem?_set, if_pos rfl, if_pos (List.getElem?_eq_some_iff.1 hi).1]

theorem nodup_set {fs : List FS} {i : Nat} {f f' : FS} (hi : fs[i]? = some f) (hb : f'.b = f.b) (hn : (fs.map (·.b)).Nodup) : ((fs.set i f').map (·.b)).Nodup := by rw [map_b_set hi hb]; exact hn
theorem noB_cons {b : Nat} {ps : List Nat} (h : b ∉ ps) : noB b (b :: ps) = ps := by
  unfold noB
  rw [List.filter_cons_of_neg (by simp), List.filter_eq_self.2]
  intro x hx
  simp; intro e; subst e; exact h hx

theorem settle_A {bR : Nat} {mo : Option Nat} {fs : List FS} {i : Nat} {f : FS} {hr : Value} {ps : List Nat} (hi : fs[i]? = some f) (hn : (fs.map (·.b)).Nodup) (hps : ∀ x ∈ ps, Known fs x) (hl : ps.length ≤ 1000000) (h0 : 0 < f.hn) (hre : f.rests = false) :
    FnA Try.prog 26 [PT bR 0, PT f.b 0] [ringA bR mo hr, rwA hr ps, flA fs]
      (fun r cs => r = .tup [] ∧ ((f.b ∈ ps ∧ cs = [ringA bR mo hr, rwA hr ps, flA fs]) ∨ (f.b ∉ ps ∧ ∃ g o m cc, cs = [ringA bR mo (HO g o m cc), rwA (HO g o m cc) (ps ++ [f.b]), flA (fs.set i { f with d := 0, an := true })]))) := by
  refine FnA.intro Try.tabOK Try.wide_ Try.func26 rfl (by decide) rfl (fun X => ?_)
  repeat (first | refine sc rfl ?_ | refine so rfl ?_ | refine sb rfl ?_)
  refine O_callA [2] (active_A hi) (by rfl) (by rfl) (by rfl) (by rfl) (by rfl) ?_
  rintro r cs' ⟨rfl, rfl⟩
  repeat (first | refine sc rfl ?_ | refine so rfl ?_ | refine sb rfl ?_)
  refine C_true rfl (by simp [h0, hre]) ?_
  repeat (first | refine sc rfl ?_ | refine so rfl ?_ | refine sb rfl ?_)
  refine O_callA [1, 1, 0] (join_A hi hn hps hl) (by rfl) (by rfl) (by rfl) (by rfl) (by rfl) ?_
  rintro r cs' ⟨rfl, h⟩
  repeat (first | refine sc rfl ?_ | refine so rfl ?_ | refine sb rfl ?_)
  exact ⟨_, cs', [], rfl, by simp, rfl, rfl, h⟩

theorem csh {f : FS} {g2 o2 : Nat} (hh : f.ha = some ⟨g2, o2, none⟩) : f.h = HO g2 o2 f.hn f.hc := by unfold FS.h; rw [hh]


theorem serve_A1 {bR : Nat} {mo : Option Nat} {fs : List FS} {i : Nat} {f : FS} {g o m cc g2 o2 : Nat} {ps : List Nat} {c0 c1 : Int} {cs : List Int} (hi : fs[i]? = some f) (hn : (fs.map (·.b)).Nodup) (hps : ∀ x ∈ ps, Known fs x) (hl : ps.length + 1 ≤ 1000000) (hm : ps.length + 1 = m) (hre : f.rests = false)
    (hh : f.ha = some ⟨g2, o2, none⟩) (hnb : f.b ∉ ps) (hc0 : 0 ≤ c0 ∧ c0 ≤ 1000000) (hd0 : 0 ≤ f.d ∧ f.d ≤ 1000000) :
    FnA Try.prog 28 [PT bR 0, PT f.b 0] [ringA bR mo (HO g o m cc), rwA (HO g o m cc) (f.b :: ps), flA fs, csA f (c0 :: c1 :: cs)]
      (fun r cs' => r = I64 c0 ∧ cs' = [ringA bR mo (HO g o m cc), rwA (HO g o m cc) (f.b :: ps), flA (fs.set i { f with ha := some ⟨g2, if f.hc - 1 = 0 then o2 else o2 + 1, none⟩, hn := f.hn - 1, hc := f.hc - 1, d := f.d - c0 }), csA { f with ha := some ⟨g2, if f.hc - 1 = 0 then o2 else o2 + 1, none⟩, hn := f.hn - 1, hc := f.hc - 1, d := f.d - c0 } (c1 :: cs)]) := by
  have hcs : csA f (c0 :: c1 :: cs) = slO (HO g2 o2 f.hn f.hc) 3 1 ((c0 :: c1 :: cs).map I64) := by unfold csA; rw [csh hh]
  have hfc : f.cells = [I64 f.num, I64 f.q, I64 f.d, .v (HO g2 o2 f.hn f.hc), B f.rests, B f.an] := by unfold FS.cells; rw [csh hh]
  rw [hcs]
  refine FnA.intro Try.tabOK Try.wide_ Try.func28 rfl (by decide) rfl (fun X => ?_)
  refine C_know 3 ((c0 :: c1 :: cs).length = f.hn ∧ f.hn ≤ f.hc) rfl (fun G w hok _ => ⟨by have := (slO_ho hok).1; simpa using this, (slO_ho hok).2.1⟩) (fun ⟨hlen, hmc⟩ => ?_)
  simp only [List.length_cons, List.length_nil] at hlen
  have r3 : Reads (flA fs) f.b 3 [.v (HO g2 o2 f.hn f.hc), B f.rests, B f.an] := by have := reads_flows (t := 60) hi 3; rw [hfc] at this; exact this
  repeat (first | refine sc rfl ?_ | refine so rfl ?_ | refine sb rfl ?_)
  refine O_loadP 2 r3 rfl rfl rfl rfl rfl rfl ?_
  repeat (first | refine sc rfl ?_ | refine so rfl ?_ | refine sb rfl ?_)
  refine ⟨by omega, ?_⟩
  refine O_loadO 3 (j := 0) (av := I64 c0) rfl rfl rfl rfl rfl rfl ?_
  repeat (first | refine sc rfl ?_ | refine so rfl ?_ | refine sb rfl ?_)
  refine O_loadP 2 r3 rfl rfl rfl rfl rfl rfl ?_
  refine O_Xd (X_slice (i := 1) rfl rfl rfl rfl rfl rfl rfl (by omega) (by omega) (by omega) hmc) ?_
  refine O_le _ (Le.retell 3 (A' := slO (HO g2 (if f.hc - 1 = 0 then o2 else o2 + 1 * 1) (f.hn - 1) (f.hc - 1)) 3 1 ((c1 :: cs).map I64)) rfl rfl (fun G w hok => slO_drop 1 (by omega) G w hok)) ?_
  repeat (first | refine sc rfl ?_ | refine so rfl ?_ | refine sb rfl ?_)
  have w1 := writes_flows (t := 60) (o := 3) (x := .v (HO g2 (if f.hc - 1 = 0 then o2 else o2 + 1) (f.hn - 1) (f.hc - 1))) (f' := { f with ha := some ⟨g2, if f.hc - 1 = 0 then o2 else o2 + 1, none⟩, hn := f.hn - 1, hc := f.hc - 1 }) hi hn rfl (by decide) (by rw [hfc]; rfl)
  refine O_Xn (X_storeP 3 w1 rfl rfl rfl rfl rfl rfl rfl) ?_
  have hi1 := set_get (f' := { f with ha := some ⟨g2, if f.hc - 1 = 0 then o2 else o2 + 1, none⟩, hn := f.hn - 1, hc := f.hc - 1 }) hi
  have hn1 := nodup_set (f' := { f with ha := some ⟨g2, if f.hc - 1 = 0 then o2 else o2 + 1, none⟩, hn := f.hn - 1, hc := f.hc - 1 }) hi rfl hn
  repeat (first | refine sc rfl ?_ | refine so rfl ?_ | refine sb rfl ?_)
  refine O_loadP 0 (reads_flows hi1 2) rfl rfl rfl rfl rfl rfl ?_
  repeat (first | refine sc rfl ?_ | refine so rfl ?_ | refine sb rfl ?_)
  rw [w64 (x := f.d - c0) (by omega) (by omega)]
  have w2 := writes_flows (t := 60) (o := 2) (x := I64 (f.d - c0)) (f' := { f with ha := some ⟨g2, if f.hc - 1 = 0 then o2 else o2 + 1, none⟩, hn := f.hn - 1, hc := f.hc - 1, d := f.d - c0 }) hi1 hn1 rfl (by decide) rfl
  rw [List.set_set] at w2
  refine O_Xn (X_storeP 0 w2 rfl rfl rfl rfl rfl rfl rfl) ?_
  have hi2 := set_get (f' := { f with ha := some ⟨g2, if f.hc - 1 = 0 then o2 else o2 + 1, none⟩, hn := f.hn - 1, hc := f.hc - 1, d := f.d - c0 }) hi
  have hn2 := nodup_set (f' := { f with ha := some ⟨g2, if f.hc - 1 = 0 then o2 else o2 + 1, none⟩, hn := f.hn - 1, hc := f.hc - 1, d := f.d - c0 }) hi rfl hn
  repeat (first | refine sc rfl ?_ | refine so rfl ?_ | refine sb rfl ?_)
  refine O_callA [0] (active_A hi2) (by rfl) (by rfl) (by rfl) (by rfl) (by rfl) ?_
  rintro r cs' ⟨rfl, rfl⟩
  repeat (first | refine sc rfl ?_ | refine so rfl ?_ | refine sb rfl ?_)
  refine C_false rfl (by have : 0 < f.hn - 1 := by omega
                         simp [this, hre]) ?_
  repeat (first | refine sc rfl ?_ | refine so rfl ?_ | refine sb rfl ?_)
  exact ⟨_, [ringA bR mo (HO g o m cc), rwA (HO g o m cc) (f.b :: ps), flA (fs.set i { f with ha := some ⟨g2, if f.hc - 1 = 0 then o2 else o2 + 1, none⟩, hn := f.hn - 1, hc := f.hc - 1, d := f.d - c0 }), csA { f with ha := some ⟨g2, if f.hc - 1 = 0 then o2 else o2 + 1, none⟩, hn := f.hn - 1, hc := f.hc - 1, d := f.d - c0 } (c1 :: cs)], [], rfl, List.perm_append_comm (l₁ := [_, _]) (l₂ := [_, _]), rfl, rfl, rfl⟩

theorem serve_A0 {bR : Nat} {mo : Option Nat} {fs : List FS} {i : Nat} {f : FS} {g o m cc g2 o2 : Nat} {ps : List Nat} {c0 : Int} (hi : fs[i]? = some f) (hn : (fs.map (·.b)).Nodup) (hps : ∀ x ∈ ps, Known fs x) (hl : ps.length + 1 ≤ 1000000) (hm : ps.length + 1 = m) (hre : f.rests = false)
    (hh : f.ha = some ⟨g2, o2, none⟩) (hnb : f.b ∉ ps) (hc0 : 0 ≤ c0 ∧ c0 ≤ 1000000) (hd0 : 0 ≤ f.d ∧ f.d ≤ 1000000) :
    FnA Try.prog 28 [PT bR 0, PT f.b 0] [ringA bR mo (HO g o m cc), rwA (HO g o m cc) (f.b :: ps), flA fs, csA f ([c0])]
      (fun r cs' => r = I64 c0 ∧ cs' = [ringA bR mo (HO g o ps.length cc), rwA (HO g o ps.length cc) ps, flA (fs.set i { f with ha := some ⟨g2, if f.hc - 1 = 0 then o2 else o2 + 1, none⟩, hn := f.hn - 1, hc := f.hc - 1, d := 0 }), csA { f with ha := some ⟨g2, if f.hc - 1 = 0 then o2 else o2 + 1, none⟩, hn := f.hn - 1, hc := f.hc - 1, d := 0 } ([])]) := by
  have hcs : csA f ([c0]) = slO (HO g2 o2 f.hn f.hc) 3 1 (([c0]).map I64) := by unfold csA; rw [csh hh]
  have hfc : f.cells = [I64 f.num, I64 f.q, I64 f.d, .v (HO g2 o2 f.hn f.hc), B f.rests, B f.an] := by unfold FS.cells; rw [csh hh]
  rw [hcs]
  refine FnA.intro Try.tabOK Try.wide_ Try.func28 rfl (by decide) rfl (fun X => ?_)
  refine C_know 3 (([c0]).length = f.hn ∧ f.hn ≤ f.hc) rfl (fun G w hok _ => ⟨by have := (slO_ho hok).1; simpa using this, (slO_ho hok).2.1⟩) (fun ⟨hlen, hmc⟩ => ?_)
  simp only [List.length_cons, List.length_nil] at hlen
  have r3 : Reads (flA fs) f.b 3 [.v (HO g2 o2 f.hn f.hc), B f.rests, B f.an] := by have := reads_flows (t := 60) hi 3; rw [hfc] at this; exact this
  repeat (first | refine sc rfl ?_ | refine so rfl ?_ | refine sb rfl ?_)
  refine O_loadP 2 r3 rfl rfl rfl rfl rfl rfl ?_
  repeat (first | refine sc rfl ?_ | refine so rfl ?_ | refine sb rfl ?_)
  refine ⟨by omega, ?_⟩
  refine O_loadO 3 (j := 0) (av := I64 c0) rfl rfl rfl rfl rfl rfl ?_
  repeat (first | refine sc rfl ?_ | refine so rfl ?_ | refine sb rfl ?_)
  refine O_loadP 2 r3 rfl rfl rfl rfl rfl rfl ?_
  refine O_Xd (X_slice (i := 1) rfl rfl rfl rfl rfl rfl rfl (by omega) (by omega) (by omega) hmc) ?_
  refine O_le _ (Le.retell 3 (A' := slO (HO g2 (if f.hc - 1 = 0 then o2 else o2 + 1 * 1) (f.hn - 1) (f.hc - 1)) 3 1 (([]).map I64)) rfl rfl (fun G w hok => slO_drop 1 (by omega) G w hok)) ?_
  repeat (first | refine sc rfl ?_ | refine so rfl ?_ | refine sb rfl ?_)
  have w1 := writes_flows (t := 60) (o := 3) (x := .v (HO g2 (if f.hc - 1 = 0 then o2 else o2 + 1) (f.hn - 1) (f.hc - 1))) (f' := { f with ha := some ⟨g2, if f.hc - 1 = 0 then o2 else o2 + 1, none⟩, hn := f.hn - 1, hc := f.hc - 1 }) hi hn rfl (by decide) (by rw [hfc]; rfl)
  refine O_Xn (X_storeP 3 w1 rfl rfl rfl rfl rfl rfl rfl) ?_
  have hi1 := set_get (f' := { f with ha := some ⟨g2, if f.hc - 1 = 0 then o2 else o2 + 1, none⟩, hn := f.hn - 1, hc := f.hc - 1 }) hi
  have hn1 := nodup_set (f' := { f with ha := some ⟨g2, if f.hc - 1 = 0 then o2 else o2 + 1, none⟩, hn := f.hn - 1, hc := f.hc - 1 }) hi rfl hn
  repeat (first | refine sc rfl ?_ | refine so rfl ?_ | refine sb rfl ?_)
  refine O_loadP 0 (reads_flows hi1 2) rfl rfl rfl rfl rfl rfl ?_
  repeat (first | refine sc rfl ?_ | refine so rfl ?_ | refine sb rfl ?_)
  rw [w64 (x := f.d - c0) (by omega) (by omega)]
  have w2 := writes_flows (t := 60) (o := 2) (x := I64 (f.d - c0)) (f' := { f with ha := some ⟨g2, if f.hc - 1 = 0 then o2 else o2 + 1, none⟩, hn := f.hn - 1, hc := f.hc - 1, d := f.d - c0 }) hi1 hn1 rfl (by decide) rfl
  rw [List.set_set] at w2
  refine O_Xn (X_storeP 0 w2 rfl rfl rfl rfl rfl rfl rfl) ?_
  have hi2 := set_get (f' := { f with ha := some ⟨g2, if f.hc - 1 = 0 then o2 else o2 + 1, none⟩, hn := f.hn - 1, hc := f.hc - 1, d := f.d - c0 }) hi
  have hn2 := nodup_set (f' := { f with ha := some ⟨g2, if f.hc - 1 = 0 then o2 else o2 + 1, none⟩, hn := f.hn - 1, hc := f.hc - 1, d := f.d - c0 }) hi rfl hn
  repeat (first | refine sc rfl ?_ | refine so rfl ?_ | refine sb rfl ?_)
  refine O_callA [0] (active_A hi2) (by rfl) (by rfl) (by rfl) (by rfl) (by rfl) ?_
  rintro r cs' ⟨rfl, rfl⟩
  repeat (first | refine sc rfl ?_ | refine so rfl ?_ | refine sb rfl ?_)
  refine C_true rfl (by have : f.hn - 1 = 0 := by omega
                        simp [this]) ?_
  repeat (first | refine sc rfl ?_ | refine so rfl ?_ | refine sb rfl ?_)
  have hk : ∀ x ∈ f.b :: ps, Known (fs.set i { f with ha := some ⟨g2, if f.hc - 1 = 0 then o2 else o2 + 1, none⟩, hn := f.hn - 1, hc := f.hc - 1, d := f.d - c0 }) x := fun x hx => by
    refine Known.set (f' := { f with ha := some ⟨g2, if f.hc - 1 = 0 then o2 else o2 + 1, none⟩, hn := f.hn - 1, hc := f.hc - 1, d := f.d - c0 }) hi rfl ?_
    rcases List.mem_cons.1 hx with rfl | hx
    · exact ⟨i, f, hi, rfl⟩
    · exact hps x hx
  have hlv := leave_A (bR := bR) (mo := mo) (g := g) (o := o) (cc := cc) hi2 hn2 hk (by simpa using hl) (by simpa using hm) (by simp)
  rw [show noB ({ f with ha := some ⟨g2, if f.hc - 1 = 0 then o2 else o2 + 1, none⟩, hn := f.hn - 1, hc := f.hc - 1, d := f.d - c0 } : FS).b (f.b :: ps) = ps from noB_cons hnb, List.set_set] at hlv
  refine O_callA [2, 2, 0] hlv (by rfl) (by rfl) (by rfl) (by rfl) (by rfl) ?_
  rintro r cs' ⟨rfl, rfl⟩
  repeat (first | refine sc rfl ?_ | refine so rfl ?_ | refine sb rfl ?_)
  exact ⟨_, [ringA bR mo (HO g o ps.length cc), rwA (HO g o ps.length cc) ps, flA (fs.set i { f with ha := some ⟨g2, if f.hc - 1 = 0 then o2 else o2 + 1, none⟩, hn := f.hn - 1, hc := f.hc - 1, d := 0 }), csA { f with ha := some ⟨g2, if f.hc - 1 = 0 then o2 else o2 + 1, none⟩, hn := f.hn - 1, hc := f.hc - 1, d := 0 } ([])], [], rfl, .refl _, rfl, rfl, rfl⟩
end Go.Proofs

/- Contracts of the ring: Push, Cost. -/
set_option linter.unusedSimpArgs false
set_option linter.unusedVariables false
set_option maxRecDepth 100000
namespace Go.Proofs
open Go.Sy Go.Lib Go.Ring

theorem Push_A {bR : Nat} {mo : Option Nat} {hr : Value} {es : List (Int × AV)} {fs : List FS} {i : Nat} {f : FS} {ps : List Nat} {cs : List Int} {k c : Int} (hi : fs[i]? = some f) (hk : lookE k es = some (PT f.b 0)) (hn : (fs.map (·.b)).Nodup) (hps : ∀ x ∈ ps, Known fs x)
    (hl : ps.length ≤ 1000) (hre : f.rests = false) (hc : 1 ≤ c ∧ c ≤ 1040) (hcl : cs.length ≤ 1000) :
    FnA Try.prog 9 [PT bR 0, I64 k, I64 c] [ringA bR mo hr, mpA mo es, flA fs, csA f cs, rwA hr ps]
      (fun r cs' => r = I64 0 ∧ ∃ g2 o2 hc', (f.b ∈ ps ∧ cs' = [ringA bR mo hr, mpA mo es, flA (fs.set i { f with ha := some ⟨g2, o2, none⟩, hn := cs.length + 1, hc := hc' }), csA { f with ha := some ⟨g2, o2, none⟩, hn := cs.length + 1, hc := hc' } (cs ++ [c]), rwA hr ps]) ∨
        (f.b ∉ ps ∧ ∃ g o m cc, cs' = [ringA bR mo (HO g o m cc), mpA mo es, flA (fs.set i { f with ha := some ⟨g2, o2, none⟩, hn := cs.length + 1, hc := hc', d := 0, an := true }), csA { f with ha := some ⟨g2, o2, none⟩, hn := cs.length + 1, hc := hc', d := 0, an := true } (cs ++ [c]), rwA (HO g o m cc) (ps ++ [f.b])])) := by
  refine FnA.intro Try.tabOK Try.wide_ Try.func9 rfl (by decide) rfl (fun X => ?_)
  repeat (first | refine sc rfl ?_ | refine so rfl ?_ | refine sb rfl ?_)
  refine O_callA [0, 0] (find_A k (getP hk)) (by rfl) (by rfl) (by rfl) (by rfl) (by rfl) ?_
  rintro r cs' ⟨rfl, rfl⟩
  repeat (first | refine sc rfl ?_ | refine so rfl ?_ | refine sb rfl ?_)
  refine O_Xd (X_ptrnil Try.underlying24 rfl rfl rfl) ?_
  repeat (first | refine sc rfl ?_ | refine so rfl ?_ | refine sb rfl ?_)
  refine C_false rfl rfl ?_
  repeat (first | refine sc rfl ?_ | refine so rfl ?_ | refine sb rfl ?_)
  refine O_false 17 rfl (by simp; omega) ?_
  repeat (first | refine sc rfl ?_ | refine so rfl ?_ | refine sb rfl ?_)
  refine C_false rfl (by simp; omega) ?_
  repeat (first | refine sc rfl ?_ | refine so rfl ?_ | refine sb rfl ?_)
  refine O_Xd (X_ptrnil Try.underlying58 rfl rfl rfl) ?_
  repeat (first | refine sc rfl ?_ | refine so rfl ?_ | refine sb rfl ?_)
  refine C_false rfl rfl ?_
  repeat (first | refine sc rfl ?_ | refine so rfl ?_ | refine sb rfl ?_)
  refine O_loadP 2 (reads_flows hi 3) rfl rfl rfl rfl rfl rfl ?_
  repeat (first | refine sc rfl ?_ | refine so rfl ?_ | refine sb rfl ?_)
  refine O_le _ (Le.freeze 30 rfl rfl) ?_
  refine O_appendO 3 (x := I64 c) rfl rfl rfl rfl rfl rfl rfl (by simp; omega) (by simp [maxLen]; omega) (fun v' hv' => ?_)
  obtain ⟨g2, o2, m2, cc2, rfl⟩ := hv'
  refine O_know 0 (m2 = cs.length + 1) rfl (fun G w hok _ => by have := (slO_ho hok).1; simp at this; omega) (fun hm2 => ?_)
  subst hm2
  repeat (first | refine sc rfl ?_ | refine so rfl ?_ | refine sb rfl ?_)
  have w1 := writes_flows (t := 60) (o := 3) (x := .v (HO g2 o2 (cs.length + 1) cc2)) (f' := { f with ha := some ⟨g2, o2, none⟩, hn := cs.length + 1, hc := cc2 }) hi hn rfl (by decide) rfl
  refine O_Xn (X_storeP 3 w1 rfl rfl rfl rfl rfl rfl rfl) ?_
  repeat (first | refine sc rfl ?_ | refine so rfl ?_ | refine sb rfl ?_)
  have hi1 := set_get (f' := { f with ha := some ⟨g2, o2, none⟩, hn := cs.length + 1, hc := cc2 }) hi
  have hn1 := nodup_set (f' := { f with ha := some ⟨g2, o2, none⟩, hn := cs.length + 1, hc := cc2 }) hi rfl hn
  refine O_callA [2, 3, 0] (settle_A hi1 hn1 (fun x hx => (hps x hx).set (f' := { f with ha := some ⟨g2, o2, none⟩, hn := cs.length + 1, hc := cc2 }) hi rfl) (by omega) (by simp) hre) (by rfl) (by rfl) (by rfl) (by rfl) (by rfl) ?_
  rintro r cs' ⟨rfl, h⟩
  rcases h with ⟨h1, rfl⟩ | ⟨h1, g, o, m, cc, rfl⟩
  · repeat (first | refine sc rfl ?_ | refine so rfl ?_ | refine sb rfl ?_)
    have hcs : slO (HO g2 o2 (cs.length + 1) cc2) 3 1 (cs.map I64 ++ [I64 c]) = csA { f with ha := some ⟨g2, o2, none⟩, hn := cs.length + 1, hc := cc2 } (cs ++ [c]) := by simp [csA, FS.h]
    rw [hcs]
    exact ⟨_, [ringA bR mo hr, mpA mo es, flA (fs.set i { f with ha := some ⟨g2, o2, none⟩, hn := cs.length + 1, hc := cc2 }), csA { f with ha := some ⟨g2, o2, none⟩, hn := cs.length + 1, hc := cc2 } (cs ++ [c]), rwA hr ps], [], rfl, pickA_perm (is := [0, 3, 1, 1, 0]) rfl, rfl, rfl, _, _, _, .inl ⟨h1, rfl⟩⟩
  · repeat (first | refine sc rfl ?_ | refine so rfl ?_ | refine sb rfl ?_)
    have hcs : slO (HO g2 o2 (cs.length + 1) cc2) 3 1 (cs.map I64 ++ [I64 c]) = csA { f with ha := some ⟨g2, o2, none⟩, hn := cs.length + 1, hc := cc2, d := 0, an := true } (cs ++ [c]) := by simp [csA, FS.h]
    rw [hcs, List.set_set]
    exact ⟨_, [ringA bR mo (HO g o m cc), mpA mo es, flA (fs.set i { f with ha := some ⟨g2, o2, none⟩, hn := cs.length + 1, hc := cc2, d := 0, an := true }), csA { f with ha := some ⟨g2, o2, none⟩, hn := cs.length + 1, hc := cc2, d := 0, an := true } (cs ++ [c]), rwA (HO g o m cc) (ps ++ [f.b])], [], rfl, pickA_perm (is := [0, 3, 1, 1, 0]) rfl, rfl, rfl, _, _, _, .inr ⟨h1, g, o, m, cc, rfl⟩⟩

/-- The first costs' sum. -/
theorem isum_take (l : List Int) (k : Nat) (hk : k < l.length) : isum (l.take (k + 1)) = isum (l.take k) + l[k] := by
  rw [List.take_succ_eq_append_getElem hk, isum_append]; simp

theorem Cost_A {bR : Nat} {mo : Option Nat} {hr : Value} {es : List (Int × AV)} {fs : List FS} {i : Nat} {f : FS} {cs : List Int} {k : Int} {g2 o2 : Nat} (hh : f.ha = some ⟨g2, o2, none⟩) (hi : fs[i]? = some f) (hk : lookE k es = some (PT f.b 0)) (hb : ∀ x ∈ cs, 0 ≤ x ∧ x ≤ 1000000) (hcl : cs.length ≤ 1000) :
    FnA Try.prog 11 [PT bR 0, I64 k] [ringA bR mo hr, mpA mo es, flA fs, csA f cs] (fun r cs' => r = I64 (isum cs) ∧ cs' = [ringA bR mo hr, mpA mo es, flA fs, csA f cs]) := by
  have hbd : ∀ k, k ≤ cs.length → 0 ≤ isum (cs.take k) ∧ isum (cs.take k) ≤ 1000000 * k := by
    intro k hk
    induction k with
    | zero => simp
    | succ k ih =>
      have h1 := ih (by omega)
      have h2 := hb _ (List.getElem_mem (show k < cs.length by omega))
      rw [isum_take cs k (by omega)]
      constructor <;> omega
  have hcs : csA f cs = slO (HO g2 o2 f.hn f.hc) 3 1 (cs.map I64) := by unfold csA; rw [csh hh]
  have hfc : f.cells = [I64 f.num, I64 f.q, I64 f.d, .v (HO g2 o2 f.hn f.hc), B f.rests, B f.an] := by unfold FS.cells; rw [csh hh]
  have r3 : Reads (flA fs) f.b 3 [.v (HO g2 o2 f.hn f.hc), B f.rests, B f.an] := by have := reads_flows (t := 60) hi 3; rw [hfc] at this; exact this
  rw [hcs]
  refine FnA.intro Try.tabOK Try.wide_ Try.func11 rfl (by decide) rfl (fun X => ?_)
  refine C_know 3 (cs.length = f.hn) rfl (fun G w hok _ => by have := (slO_ho hok).1; simpa using this) (fun hlen => ?_)
  repeat (first | refine sc rfl ?_ | refine so rfl ?_ | refine sb rfl ?_)
  refine O_callA [0, 0] (find_A k (getP hk)) (by rfl) (by rfl) (by rfl) (by rfl) (by rfl) ?_
  rintro r cs' ⟨rfl, rfl⟩
  repeat (first | refine sc rfl ?_ | refine so rfl ?_ | refine sb rfl ?_)
  refine O_Xd (X_ptrnnil Try.underlying58 rfl rfl rfl) ?_
  repeat (first | refine sc rfl ?_ | refine so rfl ?_ | refine sb rfl ?_)
  refine C_true rfl rfl ?_
  repeat (first | refine sc rfl ?_ | refine so rfl ?_ | refine sb rfl ?_)
  refine O_loadP 2 r3 rfl rfl rfl rfl rfl rfl ?_
  repeat (first | refine sc rfl ?_ | refine so rfl ?_ | refine sb rfl ?_)
  refine C_loop (fun k : Nat => ⟨[(5, I64 (isum (cs.take k))), (17, .v (HO g2 o2 f.hn f.hc)), (18, I64 (f.hn : Nat)), (19, I64 (k : Nat))], [.abs (ringA bR mo hr), .abs (mpA mo es), .abs (flA fs), .abs (slO (HO g2 o2 f.hn f.hc) 3 1 (cs.map I64))]⟩) (fun k => k ≤ cs.length) (fun k => cs.length - k) 0 (Nat.zero_le _) (Le.perm [] ⟨rfl, rfl, rfl, rfl, trivial⟩ (.refl _)) ?_
  intro k hk
  repeat (first | refine sc rfl ?_ | refine so rfl ?_ | refine sb rfl ?_)
  refine C_if rfl (fun h5 => ?_) (fun h5 => ?_) <;> simp only [decide_eq_true_eq, decide_eq_false_iff_not] at h5
  · have hkl : k < cs.length := by omega
    have h1 := hbd k (by omega)
    have h2 := hb _ (List.getElem_mem hkl)
    repeat (first | refine sc rfl ?_ | refine so rfl ?_ | refine sb rfl ?_)
    refine ⟨by omega, ?_⟩
    refine O_loadO 3 (j := (k : Int).toNat * 1) (av := I64 cs[k]) (by simp [hkl]) rfl rfl rfl rfl rfl ?_
    repeat (first | refine sc rfl ?_ | refine so rfl ?_ | refine sb rfl ?_)
    rw [w64 (x := isum (cs.take k) + cs[k]) (by omega) (by omega), w64 (x := (k : Int) + 1) (by omega) (by omega), ← isum_take cs k hkl]
    exact ⟨k + 1, by omega, by omega, Le.perm [] ⟨rfl, rfl, rfl, rfl, trivial⟩ (.refl _)⟩
  · obtain rfl : k = cs.length := by omega
    repeat (first | refine sc rfl ?_ | refine so rfl ?_ | refine sb rfl ?_)
    exact ⟨_, [ringA bR mo hr, mpA mo es, flA fs, slO (HO g2 o2 f.hn f.hc) 3 1 (cs.map I64)], [], rfl, .refl _, rfl, by rw [List.take_length], rfl⟩
end Go.Proofs

/- Contracts of the ring: Set. -/
set_option linter.unusedSimpArgs false
set_option linter.unusedVariables false
set_option maxRecDepth 100000
namespace Go.Proofs
open Go.Sy Go.Lib Go.Ring

abbrev newF (b : Nat) (k q : Int) : FS := ⟨b, k, q, 0, none, 0, 0, false, false⟩

theorem sameBits_int (k : Int) : Instr.sameBits 10000 (ikv k) (ikv k) = true := by
  show Instr.sameBits (9999 + 1) (.int .i64 k) (.int .i64 k) = true
  simp [Instr.sameBits]

theorem Set_A {bR : Nat} {mo : Option Nat} {hr : Value} {es : List (Int × AV)} {fs : List FS} {k q : Int} (hk : lookE k es = none) (hk0 : 0 ≤ k ∧ k ≤ 8) (hq : 1 ≤ q ∧ q ≤ 1048576) :
    FnA Try.prog 7 [PT bR 0, I64 k, I64 q] [ringA bR mo hr, mpA mo es, flA fs]
      (fun r cs' => r = I64 0 ∧ ∃ mb b, cs' = [ringA bR (some mb) hr, mpA (some mb) (es ++ [(k, PT b 0)]), flA (fs ++ [newF b k q])]) := by
  refine FnA.intro Try.tabOK Try.wide_ Try.func7 rfl (by decide) rfl (fun X => ?_)
  refine C_know 1 (mo = none → es = []) rfl (fun G w hok _ hn => by subst hn; exact hok) (fun hmo => ?_)
  repeat (first | refine sc rfl ?_ | refine so rfl ?_ | refine sb rfl ?_)
  refine O_Xd (X_ptrnil Try.underlying24 rfl rfl rfl) ?_
  repeat (first | refine sc rfl ?_ | refine so rfl ?_ | refine sb rfl ?_)
  refine C_false rfl rfl ?_
  repeat (first | refine sc rfl ?_ | refine so rfl ?_ | refine sb rfl ?_)
  refine O_call (numbered_c k) (by rfl) (by rfl) (by rfl) (by rfl) (fun r hr => ?_)
  subst hr
  repeat (first | refine sc rfl ?_ | refine so rfl ?_ | refine sb rfl ?_)
  refine O_false 15 rfl (by simp; omega) ?_
  repeat (first | refine sc rfl ?_ | refine so rfl ?_ | refine sb rfl ?_)
  refine O_false 19 rfl (by simp; omega) ?_
  repeat (first | refine sc rfl ?_ | refine so rfl ?_ | refine sb rfl ?_)
  refine C_false rfl (by simp; omega) ?_
  repeat (first | refine sc rfl ?_ | refine so rfl ?_ | refine sb rfl ?_)
  refine O_loadP 0 (reads_box 0) rfl rfl rfl rfl rfl rfl ?_
  refine O_Xd (X_mapnil Try.underlying53 rfl rfl rfl) ?_
  repeat (first | refine sc rfl ?_ | refine so rfl ?_ | refine sb rfl ?_)
  rcases mo with _ | mb
  case' none =>
    obtain rfl := hmo rfl
    refine C_true rfl rfl ?_
    repeat (first | refine sc rfl ?_ | refine so rfl ?_ | refine sb rfl ?_)
    refine O_makeMap ikv rfl (fun mb => ?_)
    repeat (first | refine sc rfl ?_ | refine so rfl ?_ | refine sb rfl ?_)
    refine O_Xn (X_storeP 1 (writes_box (by show 0 < 2; decide)) rfl rfl rfl rfl rfl rfl rfl) ?_
    repeat (first | refine sc rfl ?_ | refine so rfl ?_ | refine sb rfl ?_)
    refine O_le (⟨[(34, PT bR 0), (0, PT bR 0), (1, I64 k), (2, I64 q)], [.abs (ringA bR (some mb) hr), .abs (mpA (some mb) []), .abs (flA fs)]⟩) (Le.perm [.abs (mpA none [])] ⟨rfl, rfl, rfl, rfl, trivial⟩ (by exact pickA_perm (is := [2, 0, 0]) (As := [mpA none [], ringA bR (some mb) hr, mpA (some mb) []]) (r := [.abs (flA fs)]) rfl)) ?_
  case' some =>
    refine C_false rfl rfl ?_
    repeat (first | refine sc rfl ?_ | refine so rfl ?_ | refine sb rfl ?_)
    refine O_le (⟨[(34, PT bR 0), (0, PT bR 0), (1, I64 k), (2, I64 q)], [.abs (ringA bR (some mb) hr), .abs (mpA (some mb) es), .abs (flA fs)]⟩) (Le.perm [] ⟨rfl, rfl, rfl, rfl, trivial⟩ (.refl _)) ?_
  all_goals
    refine O_loadP 0 (reads_box 0) rfl rfl rfl rfl rfl rfl ?_
    repeat (first | refine sc rfl ?_ | refine so rfl ?_ | refine sb rfl ?_)
    refine O_Xd (X_look 1 (intKey Try.underlying3) (zv := .pointer none) (z := .v (.pointer none)) Try.underlying53 rfl rfl (fun e => by simp only [Rep]) rfl rfl rfl rfl rfl rfl) ?_
    simp only [lookAV, cond_false, hk, Option.getD_none]
    repeat (first | refine sc rfl ?_ | refine so rfl ?_ | refine sb rfl ?_)
    refine O_Xd (X_ptrnil Try.underlying58 rfl rfl rfl) ?_
    repeat (first | refine sc rfl ?_ | refine so rfl ?_ | refine sb rfl ?_)
    refine C_true rfl rfl ?_
    refine sc rfl ?_
    refine sc rfl ?_
    refine so rfl ?_
    refine so rfl ?_
    refine so rfl ?_
    refine O_absb 42 rfl rfl rfl (fun b => ?_)
    repeat (first | refine sc rfl ?_ | refine so rfl ?_ | refine sb rfl ?_)
    refine O_loadP 1 (reads_box 0) rfl rfl rfl rfl rfl rfl ?_
    repeat (first | refine sc rfl ?_ | refine so rfl ?_ | refine sb rfl ?_)
    refine O_Xn (X_upd 2 (intKey Try.underlying3) Try.underlying53 sameBits_int rfl rfl rfl rfl rfl rfl) ?_
    rw [updE_new hk]
    refine O_le _ (Le.absPerm (As := [flA fs, boxA b 60 (newF b k 0).cells]) (As' := [flA (fs ++ [newF b k 0])]) (pickA_perm (is := [3, 1]) rfl) (by simp [blocks, flA, flowsA, boxA]) (fun G w h A hA => ?_)) ?_
    · simp only [List.mem_singleton] at hA
      subst hA
      exact flowsA_snoc (h _ (by simp)) (h _ (by simp))
    have hi : (fs ++ [newF b k 0])[fs.length]? = some (newF b k 0) := by simp
    refine O_know 0 (((fs ++ [newF b k 0]).map (fun f : FS => f.b)).Nodup) rfl (fun G w _ hnd => hnd) (fun hn => ?_)
    repeat (first | refine sc rfl ?_ | refine so rfl ?_ | refine sb rfl ?_)
    refine O_loadP 0 (reads_flows hi 2) rfl rfl rfl rfl rfl rfl ?_
    repeat (first | refine sc rfl ?_ | refine so rfl ?_ | refine sb rfl ?_)
    have w1 := writes_flows (t := 60) (o := 1) (x := I64 q) (f' := newF b k q) hi hn rfl (by decide) rfl
    refine O_Xn (X_storeP 0 w1 rfl rfl rfl rfl rfl rfl rfl) ?_
    have hi1 := set_get (f' := newF b k q) hi
    have hn1 := nodup_set (f' := newF b k q) hi rfl hn
    repeat (first | refine sc rfl ?_ | refine so rfl ?_ | refine sb rfl ?_)
    have w2 := writes_flows (t := 60) (o := 2) (x := I64 (min 0 q)) (f' := newF b k q) hi1 hn1 rfl (by decide) (by rw [show min 0 q = 0 by omega]; rfl)
    refine O_Xn (X_storeP 0 w2 rfl rfl rfl rfl rfl rfl rfl) ?_
    rw [List.set_set, List.set_append_right _ _ (Nat.le_refl _), Nat.sub_self, List.set_cons_zero]
    repeat (first | refine sc rfl ?_ | refine so rfl ?_ | refine sb rfl ?_)
    exact ⟨_, [ringA bR (some mb) hr, mpA (some mb) (_ ++ [(k, PT b 0)]), flA (fs ++ [newF b k q])], [], rfl, pickA_perm (is := [2, 1, 0]) rfl, rfl, rfl, mb, b, rfl⟩
end Go.Proofs

/- What memory holds of a ring, and the plain ring. -/
set_option linter.unusedSimpArgs false
set_option linter.unusedVariables false
set_option maxRecDepth 100000
namespace Go.Proofs
open Go.Sy Go.Lib Go.Ring

instance : Inhabited FS := ⟨⟨0, 0, 0, 0, none, 0, 0, false, false⟩⟩

structure Cfg where
  hr : Value
  ps : List Nat
  fs : List FS
  C : List Abs

abbrev bOf (fs : List FS) (i : Nat) : Nat := (fs.getD i default).b

structure Mem (c : Cfg) (fl : FM) (row : List Nat) (m : Nat) : Prop where
  len : c.fs.length = m
  clen : c.C.length = m
  at_ : ∀ i, i < m → ∃ f, c.fs[i]? = some f ∧ f.num = i + 1 ∧ f.q = (fl i).q ∧ f.d = (fl i).d ∧ f.an = (fl i).an ∧ f.rests = false ∧ c.C[i]? = some (csA f (fl i).cs)
  nd : (c.fs.map (·.b)).Nodup
  row : c.ps = row.map (bOf c.fs)

theorem bOf_get {fs : List FS} {i : Nat} {f : FS} (h : fs[i]? = some f) : bOf fs i = f.b := by simp [bOf, List.getD, h]
theorem bOf_set {fs : List FS} {i : Nat} {f f' : FS} (hi : fs[i]? = some f) (hb : f'.b = f.b) (j : Nat) : bOf (fs.set i f') j = bOf fs j := by
  by_cases e : i = j
  · subst e; rw [bOf_get (set_get hi), bOf_get hi, hb]
  · simp [bOf, List.getD, List.getElem?_set, e]

theorem Mem.known {c : Cfg} {fl : FM} {row : List Nat} {m : Nat} (h : Mem c fl row m) (hr : ∀ i ∈ row, i < m) : ∀ x ∈ c.ps, Known c.fs x := by
  intro x hx
  rw [h.row] at hx
  obtain ⟨i, hi, rfl⟩ := List.mem_map.1 hx
  obtain ⟨f, hf, _⟩ := h.at_ i (hr i hi)
  exact ⟨i, f, hf, (bOf_get hf).symm⟩

theorem Mem.inj {c : Cfg} {fl : FM} {row : List Nat} {m : Nat} (h : Mem c fl row m) {i j : Nat} (hi : i < m) (hj : j < m) (e : bOf c.fs i = bOf c.fs j) : i = j := by
  obtain ⟨f, hf, _⟩ := h.at_ i hi
  obtain ⟨g, hg, _⟩ := h.at_ j hj
  rw [bOf_get hf, bOf_get hg] at e
  exact nodup_get h.nd hf hg e

theorem Mem.mem_iff {c : Cfg} {fl : FM} {row : List Nat} {m : Nat} (h : Mem c fl row m) (hr : ∀ i ∈ row, i < m) {i : Nat} {f : FS} (hi : i < m) (hf : c.fs[i]? = some f) : f.b ∈ c.ps ↔ i ∈ row := by
  rw [h.row, ← bOf_get hf]
  constructor
  · intro hx
    obtain ⟨j, hj, e⟩ := List.mem_map.1 hx
    rw [h.inj (hr j hj) hi e] at hj; exact hj
  · intro hx; exact List.mem_map.2 ⟨i, hx, rfl⟩

/-- A flow is turned. -/
theorem Mem.set {c : Cfg} {fl : FM} {row : List Nat} {m : Nat} (h : Mem c fl row m) {i : Nat} {f f' : FS} {x : Fl} (hi : i < m) (hf : c.fs[i]? = some f) (hb : f'.b = f.b) (hnum : f'.num = f.num) (hq : f'.q = x.q) (hd : f'.d = x.d) (ha : f'.an = x.an) (hre : f'.rests = f.rests) {A : Abs} (hA : A = csA f' x.cs) :
    Mem { c with fs := c.fs.set i f', C := c.C.set i A } (Go.Ring.upd fl i x) row m := by
  obtain ⟨f0, hf0, k1, k2, k3, k4, k5, k6⟩ := h.at_ i hi
  rw [hf] at hf0; cases hf0
  refine ⟨by simp [h.len], by simp [h.clen], fun j hj => ?_, by rw [map_b_set hf hb]; exact h.nd, ?_⟩
  · by_cases e : i = j
    · subst e
      refine ⟨f', set_get hf, by rw [hnum, k1], by simp [hq], by simp [hd], by simp [ha], by rw [hre, k5], ?_⟩
      simp [h.clen, hi, hA]
    · obtain ⟨g, g1, g2, g3, g4, g5, g6, g7⟩ := h.at_ j hj
      refine ⟨g, by simp [e, g1], g2, ?_⟩
      rw [upd_ne _ _ (Ne.symm e)]
      exact ⟨g3, g4, g5, g6, by simp [e, g7]⟩
  · show c.ps = row.map (bOf (c.fs.set i f'))
    rw [h.row]
    exact List.map_congr_left (fun j _ => (bOf_set hf hb j).symm)

/-- The row is turned. -/
theorem Mem.turn {c : Cfg} {fl : FM} {row row' : List Nat} {m : Nat} {hr : Value} {ps : List Nat} (h : Mem c fl row m) (hp : ps = row'.map (bOf c.fs)) : Mem { c with hr := hr, ps := ps } fl row' m :=
  ⟨h.len, h.clen, h.at_, h.nd, hp⟩

theorem split_at {α : Type} {l : List α} {i : Nat} {x : α} (h : l[i]? = some x) : l = l.take i ++ x :: l.drop (i + 1) := by
  obtain ⟨hi, rfl⟩ := List.getElem?_eq_some_iff.1 h
  rw [List.getElem_cons_drop, List.take_append_drop]
theorem set_at {α : Type} {l : List α} {i : Nat} {x y : α} (h : l[i]? = some x) : l.set i y = l.take i ++ y :: l.drop (i + 1) := by
  obtain ⟨hi, rfl⟩ := List.getElem?_eq_some_iff.1 h
  rw [List.set_eq_take_append_cons_drop, if_pos hi]
end Go.Proofs

/- The symbolic walk, part 39: steps of drawn regions of effects, told; one of many chunks. -/
set_option linter.unusedSimpArgs false
set_option linter.unusedVariables false
namespace Go.Sy
open Go.RowKit

section
variable {P : Program} {T : Tab} {X : Ctx P T} {n : Nat} {e : Env} {st : St} {a : Act} {w : World} {ops : Array Oper} {K : St → Prop}

/-- A step that leaves memory alone, at a phase that is known. -/
theorem SXr (x : AV) (ph0 : Nat) {p : Pl} {base : List (Nat × AV)} {C : Nat → List Ch} {o : Oper} {rest : List Oper} {done : Done} (hc : p.creB done.length x = true) (hE : p.E.contains done.length = false) (hlo : Nat.beq (p.lo done.length) ph0 = true) (hhi : Nat.beq (p.hi done.length) ph0 = true)
    (h : StepX X n ops p (availX p done.length done o.after.toList base) (C ph0) (C ph0) done.length o x) (k : normG (done ++ [(o.dst, x)]) fun done => SymX X n ops p base C K rest done) : SymX X n ops p base C K (o :: rest) done :=
  SX x hc (fun ph h1 h2 => by
    have e1 := Nat.eq_of_beq_eq_true hlo
    have e2 := Nat.eq_of_beq_eq_true hhi
    obtain rfl : ph = ph0 := by omega
    rw [if_neg (not_mem_of_contains (by rw [hE]; rfl))]
    exact h) k
/-- .. at one of two. -/
theorem SXr2 (x : AV) {p : Pl} {base : List (Nat × AV)} {C : Nat → List Ch} {o : Oper} {rest : List Oper} {done : Done} (hc : p.creB done.length x = true) (hE : p.E.contains done.length = false) (hlo : Nat.beq (p.lo done.length) 0 = true) (hhi : Nat.beq (p.hi done.length) 1 = true)
    (h0 : StepX X n ops p (availX p done.length done o.after.toList base) (C 0) (C 0) done.length o x) (h1 : StepX X n ops p (availX p done.length done o.after.toList base) (C 1) (C 1) done.length o x)
    (k : normG (done ++ [(o.dst, x)]) fun done => SymX X n ops p base C K rest done) : SymX X n ops p base C K (o :: rest) done :=
  SX x hc (fun ph g1 g2 => by
    have e1 := Nat.eq_of_beq_eq_true hlo
    have e2 := Nat.eq_of_beq_eq_true hhi
    rw [if_neg (not_mem_of_contains (by rw [hE]; rfl))]
    rcases Nat.eq_zero_or_pos ph with h | h
    · subst h; exact h0
    · obtain rfl : ph = 1 := by omega
      exact h1) k
/-- A step that turns memory. -/
theorem SXw (x : AV) (ph0 : Nat) {p : Pl} {base : List (Nat × AV)} {C : Nat → List Ch} {o : Oper} {rest : List Oper} {done : Done} (hc : p.creB done.length x = true) (hE : p.E.contains done.length = true) (hlo : Nat.beq (p.lo done.length) ph0 = true) (hhi : Nat.beq (p.hi done.length) ph0 = true)
    (h : StepX X n ops p (availX p done.length done o.after.toList base) (C ph0) (C (ph0 + 1)) done.length o x) (k : normG (done ++ [(o.dst, x)]) fun done => SymX X n ops p base C K rest done) : SymX X n ops p base C K (o :: rest) done :=
  SX x hc (fun ph h1 h2 => by
    have e1 := Nat.eq_of_beq_eq_true hlo
    have e2 := Nat.eq_of_beq_eq_true hhi
    obtain rfl : ph = ph0 := by omega
    rw [if_pos (by simpa using hE)]
    exact h) k

/-- A cell of such a slice is read. -/
theorem X_loadO (q : Nat) {p : Pl} {g o m cc : Nat} {tt : TypeId} {esz j : Nat} {cells : List AV} {t : TypeId} {by_ : Nat} {z : List Value} {dd : TD} {x : Operand} {d : Option Nat} {av : AV} {ty : TypeId} {pos : String} {aft : Array Edge} {gd : Option (Nat × Bool)} {i : Nat} {Si : List (Nat × AV)} {c cr : List Ch}
    (hj : cells[j]? = some av) (hg : guardA ops ⟨Si, c⟩ ⟨d, .load t x, ty, pos, aft, gd⟩ = some true) (hx : opd Si x = some (PT g (o + j))) (hp : nthA q c = some (slO (HO g o m cc) tt esz cells, cr)) (hT : T t = some ⟨1, by_, false, z, dd⟩) (hd : dstOK n d = true) :
    StepX X n ops p Si c c i ⟨d, .load t x, ty, pos, aft, gd⟩ av :=
  X_loadP q (reads_slO j) hg hx hp hT (by show (cells.drop j).head? = some av; rw [List.head?_drop]; exact hj) hd

theorem split_get {α : Type} {l : List α} {i : Nat} {x : α} (h : l[i]? = some x) : l = l.take i ++ x :: l.drop (i + 1) := by
  obtain ⟨hi, rfl⟩ := List.getElem?_eq_some_iff.1 h
  rw [List.getElem_cons_drop, List.take_append_drop]
theorem set_get' {α : Type} {l : List α} {i : Nat} {x y : α} (h : l[i]? = some x) : l.set i y = l.take i ++ y :: l.drop (i + 1) := by
  obtain ⟨hi, rfl⟩ := List.getElem?_eq_some_iff.1 h
  rw [List.set_eq_take_append_cons_drop, if_pos hi]

theorem Le.unpackAt (q : Nat) {C : List Abs} {i : Nat} {A : Abs} {s : List (Nat × AV)} {c cr : List Ch} (hi : C[i]? = some A) (hp : nthA q c = some (packA C, cr)) : Le X n ⟨s, c⟩ ⟨s, .abs A :: .abs (packA (C.take i ++ C.drop (i + 1))) :: cr⟩ :=
  Le.unpack q (by rw [← split_get hi]; exact hp)
theorem Le.packAt (q q2 : Nat) {C : List Abs} {i : Nat} {A A' : Abs} {s : List (Nat × AV)} {c cr : List Ch} (hi : C[i]? = some A) (hp : pickA [q, q2] c = some ([A', packA (C.take i ++ C.drop (i + 1))], cr)) : Le X n ⟨s, c⟩ ⟨s, .abs (packA (C.set i A')) :: cr⟩ := by
  rw [set_get' hi]
  exact Le.pack q q2 hp
end
end Go.Sy

/- Contract of the ring: Turn. -/
set_option linter.unusedSimpArgs false
set_option linter.unusedVariables false
set_option maxRecDepth 100000
namespace Go.Proofs
open Go.Sy Go.Lib Go.Ring

abbrev Cfg.chunks (bR : Nat) (mo : Option Nat) (c : Cfg) : List Abs := [ringA bR mo c.hr, rwA c.hr c.ps, flA c.fs, packA c.C]

/-- Nothing has turned, or the first go has ended. -/
def Reach (fl : FM) (row : List Nat) (fl' : FM) (row' : List Nat) : Prop :=
  (fl' = fl ∧ row' = row) ∨ ∃ g gs c0 cs, row = g :: gs ∧ row' = gs ++ [g] ∧ fl' = rotF fl g ∧ (fl g).cs = c0 :: cs ∧ (fl g).an = false ∧ (fl g).d < c0

def anF (fl : FM) : List Nat → Nat
  | [] => 0
  | f :: _ => if (fl f).an then 0 else 1

theorem rot_an {fl : FM} {g : Nat} {gs : List Nat} {m : Nat} (h : Inv fl (g :: gs) m) : anF (rotF fl g) (gs ++ [g]) = 0 := by
  cases gs with
  | nil => simp [anF, rotF]
  | cons f gs =>
    have h1 := h.tl f (by simp)
    have h2 : f ≠ g := fun e => (List.nodup_cons.1 h.nd).1 (by simp [e])
    simp [anF, rotF, upd_ne _ _ h2, h1]

theorem Reach.front {fl fl' : FM} {row row' : List Nat} {m : Nat} (h : Reach fl row fl' row') (hi : Inv fl row m) {f : Nat} {gs : List Nat} (hr : row' = f :: gs) (ha : (fl' f).an = false) : fl' = fl ∧ row' = row := by
  rcases h with h | ⟨g, gs0, c0, cs, rfl, rfl, rfl, _⟩
  · exact h
  · have := rot_an hi
    rw [hr] at this
    simp [anF, ha] at this

def TurnP (m : Nat) (bs : List Nat) (fl : FM) (row : List Nat) (bR : Nat) (mo : Option Nat) (r : AV) (cs' : List Abs) : Prop :=
  (row = [] ∧ r = .tup [I64 0, I64 0, B false] ∧ ∃ c', cs' = c'.chunks bR mo ∧ Mem c' fl [] m ∧ c'.fs.map (·.b) = bs) ∨
  ∃ fl1 f gs c0 csr c', Reach fl row fl1 (f :: gs) ∧ (fl1 f).cs = c0 :: csr ∧ c0 ≤ cr (fl1 f) ∧ r = .tup [I64 (f + 1 : Nat), I64 c0, B true] ∧ cs' = c'.chunks bR mo ∧ Mem c' (srvF fl1 f c0 csr) (srvR f gs csr) m ∧ c'.fs.map (·.b) = bs

theorem len_le {l : List Nat} {m : Nat} (hn : l.Nodup) (h : ∀ x ∈ l, x < m) : l.length ≤ m := by
  have h1 := isum_sub (fun _ => 1) l (List.range m) hn (fun x hx => List.mem_range.2 (h x hx)) (fun _ _ => by omega)
  have h2 : ∀ l : List Nat, isum (l.map fun _ => (1 : Int)) = l.length := by
    intro l
    induction l with
    | nil => rfl
    | cons a l ih => simp only [List.map_cons, isum_cons, List.length_cons, ih]; omega
  rw [h2, h2, List.length_range] at h1
  omega

def P1 : Pl := ⟨[[], [], [], [], [], [], [], [], [], [], [9], [0, 1, 2, 3, 4, 5, 6, 7, 8, 9, 10]], [11], [], []⟩
def P2 : Pl := ⟨[], [], [], []⟩
def P3 : Pl := ⟨[[], [], [], [], [], [], [4, 5]], [6], [], []⟩

theorem Turn_A {bR : Nat} {mo : Option Nat} {m : Nat} {c : Cfg} {fl : FM} {row : List Nat} (hM : Mem c fl row m) (hI : Inv fl row m) (hm : m ≤ 8) : FnA Try.prog 12 [PT bR 0] (c.chunks bR mo) (TurnP m (c.fs.map (·.b)) fl row bR mo) := by
  refine FnA.intro Try.tabOK Try.wide_ Try.func12 rfl (by decide) rfl (fun X => ?_)
  repeat (first | refine sc rfl ?_ | refine so rfl ?_ | refine sb rfl ?_)
  refine O_Xd (X_ptrnil Try.underlying24 rfl rfl rfl) ?_
  repeat (first | refine sc rfl ?_ | refine so rfl ?_ | refine sb rfl ?_)
  refine C_false rfl rfl ?_
  repeat (first | refine sc rfl ?_ | refine so rfl ?_ | refine sb rfl ?_)
  refine C_loop (fun q : Cfg × FM × List Nat => ⟨[(0, PT bR 0)], (q.1.chunks bR mo).map .abs⟩) (fun q => Mem q.1 q.2.1 q.2.2 m ∧ Inv q.2.1 q.2.2 m ∧ Reach fl row q.2.1 q.2.2 ∧ q.1.fs.map (·.b) = c.fs.map (·.b)) (fun q => anF q.2.1 q.2.2) (c, fl, row) ⟨hM, hI, .inl ⟨rfl, rfl⟩, rfl⟩ (Le.perm [] ⟨rfl, trivial⟩ (.refl _)) ?_
  rintro ⟨⟨hr, ps, fs, C⟩, fl1, row1⟩ ⟨hM1, hI1, hR, hB1⟩
  simp only [] at hM1 hI1 hR hB1
  have hps := hM1.row
  simp only [] at hps
  show SymC X _ _ ⟨[(0, PT bR 0)], [.abs (ringA bR mo hr), .abs (rwA hr ps), .abs (flA fs), .abs (packA C)]⟩ _
  cases row1 with
  | nil =>
    have hrow : row = [] ∧ fl1 = fl := by
      rcases hR with ⟨h1, h2⟩ | ⟨g, gs, c0, cs, rfl, h2, _⟩
      · exact ⟨h2.symm, h1⟩
      · simp at h2
    obtain ⟨rfl, rfl⟩ := hrow
    simp only [List.map_nil] at hps
    subst hps
    refine C_slO 1 rfl (fun h1 _ => ?_) (fun g o mm cc h1 h2 _ _ => ?_) <;> subst h1
    · repeat (first | refine sc rfl ?_ | refine so rfl ?_ | refine sb rfl ?_)
      refine O_loadP 0 (reads_box 1) rfl rfl rfl rfl rfl rfl ?_
      repeat (first | refine sc rfl ?_ | refine so rfl ?_ | refine sb rfl ?_)
      refine C_false rfl rfl ?_
      repeat (first | refine sc rfl ?_ | refine so rfl ?_ | refine sb rfl ?_)
      exact ⟨_, [_, _, _, _], [], rfl, .refl _, rfl, .inl ⟨rfl, rfl, ⟨.slice none 0 0, [], fs, C⟩, rfl, hM1, hB1⟩⟩
    · obtain rfl : mm = 0 := by simpa using h2.symm
      repeat (first | refine sc rfl ?_ | refine so rfl ?_ | refine sb rfl ?_)
      refine O_loadP 0 (reads_box 1) rfl rfl rfl rfl rfl rfl ?_
      repeat (first | refine sc rfl ?_ | refine so rfl ?_ | refine sb rfl ?_)
      refine C_false rfl rfl ?_
      repeat (first | refine sc rfl ?_ | refine so rfl ?_ | refine sb rfl ?_)
      exact ⟨_, [_, _, _, _], [], rfl, .refl _, rfl, .inl ⟨rfl, rfl, ⟨HO g o 0 cc, [], fs, C⟩, rfl, hM1, hB1⟩⟩
  | cons f gs =>
    have hfm : f < m := hI1.lt (by simp)
    obtain ⟨fo, hf, e1, e2, e3, e4, e5, e6⟩ := hM1.at_ f hfm
    simp only [] at hf e6
    simp only [List.map_cons, bOf_get hf] at hps
    have hlen : (gs.map (bOf fs)).length = gs.length := by simp
    have hkn : ∀ x ∈ ps, Known fs x := hM1.known (fun i hi => hI1.lt hi)
    have hnb : fo.b ∉ gs.map (bOf fs) := by
      intro hx
      obtain ⟨j, hj, e⟩ := List.mem_map.1 hx
      have := hM1.inj (i := j) (j := f) (hI1.lt (by simp [hj])) hfm (by rw [e]; exact (bOf_get hf).symm)
      subst this
      exact (List.nodup_cons.1 hI1.nd).1 hj
    have hgl : gs.length ≤ 8 := by
      have := len_le hI1.nd (fun x hx => hI1.lt hx)
      simp at this; omega
    obtain ⟨c0, csr, hc⟩ : ∃ c0 csr, (fl1 f).cs = c0 :: csr := by
      have := ((hI1.mem f).1 (by simp)).2
      cases hx : (fl1 f).cs with
      | nil => exact absurd hx this
      | cons a l => exact ⟨a, l, rfl⟩
    have hc0 := hI1.cost f hfm c0 (by rw [hc]; simp)
    have hd0 := hI1.d0 f (by simp)
    have hq := hI1.q f hfm
    have hcr := hI1.cr0 (i := f) (by simp)
    rw [hc] at e6
    generalize hgp : gs.map (bOf fs) = ps' at hps hlen hnb
    subst hps
    refine C_slO 1 rfl (fun _ h2 => by simp at h2) (fun g o mm cc h1 h2 h3 h4 => ?_)
    subst h1
    have hmm : ps'.length + 1 = mm := by simpa using h2
    refine C_le _ (Le.unpackAt 3 e6 rfl) ?_
    refine C_slO 0 rfl (fun _ h2 => by simp at h2) (fun g2 o2 mm2 cc2 k1 k2 k3 k4 => ?_)
    have hh : fo.ha = some ⟨g2, o2, none⟩ := by simp only [FS.h, Value.slice.injEq] at k1; exact k1.1
    have hlc : csr.length + 1 = fo.hn := by
      simp only [FS.h, Value.slice.injEq] at k1
      rw [k1.2.1]; simpa using k2
    repeat (first | refine sc rfl ?_ | refine so rfl ?_ | refine sb rfl ?_)
    refine O_loadP 2 (reads_box 1) rfl rfl rfl rfl rfl rfl ?_
    repeat (first | refine sc rfl ?_ | refine so rfl ?_ | refine sb rfl ?_)
    refine C_true rfl (by simp; omega) ?_
    repeat (first | refine sc rfl ?_ | refine so rfl ?_ | refine sb rfl ?_)
    refine O_loadP 2 (reads_box 1) rfl rfl rfl rfl rfl rfl ?_
    repeat (first | refine sc rfl ?_ | refine so rfl ?_ | refine sb rfl ?_)
    refine ⟨by omega, ?_⟩
    refine O_loadO 3 (j := 0) (av := PT fo.b 0) rfl rfl rfl rfl rfl rfl ?_
    repeat (first | refine sc rfl ?_ | refine so rfl ?_ | refine sb rfl ?_)
    refine O_loadP 4 (reads_flows hf 5) rfl rfl rfl rfl rfl rfl ?_
    repeat (first | refine sc rfl ?_ | refine so rfl ?_ | refine sb rfl ?_)
    have hcr1 : cr (fl1 f) = if fo.an then fo.d + fo.q else fo.d := by unfold cr; rw [e4, e3, e2]
    rcases Bool.eq_false_or_eq_true fo.an with han | han
    case' inl =>
      rw [if_pos han] at hcr1
      refine C_true rfl han ?_
      repeat (first | refine sc rfl ?_ | refine so rfl ?_ | refine sb rfl ?_)
      refine C_drawX P1 (fun ph => match ph with
        | 0 => [.abs (csA fo (c0 :: csr)), .abs (packA (C.take f ++ C.drop (f + 1))), .abs (ringA bR mo (HO g o mm cc)), .abs (rwA (HO g o mm cc) (fo.b :: ps')), .abs (flA fs)]
        | _ => [.abs (flA (fs.set f { fo with d := IntKind.i64.wrap (fo.d + fo.q) })), .abs (csA fo (c0 :: csr)), .abs (packA (C.take f ++ C.drop (f + 1))), .abs (ringA bR mo (HO g o mm cc)), .abs (rwA (HO g o mm cc) (fo.b :: ps'))]) rfl rfl (by decide) rfl ?_
      refine sx rfl ⟨trivial, ?_⟩
      refine sx rfl ⟨trivial, ?_⟩
      refine sx rfl ⟨trivial, ?_⟩
      refine SXr (I64 fo.d) 0 rfl rfl rfl rfl (X_loadP 4 (reads_flows hf 2) rfl rfl rfl rfl rfl rfl) ?_
      refine sx rfl ⟨trivial, ?_⟩
      refine sx rfl ⟨trivial, ?_⟩
      refine sx rfl ⟨trivial, ?_⟩
      refine SXr (I64 fo.q) 0 rfl rfl rfl rfl (X_loadP 4 (reads_flows hf 1) rfl rfl rfl rfl rfl rfl) ?_
      refine sx rfl ⟨trivial, ?_⟩
      refine sx rfl ⟨trivial, ?_⟩
      refine sx rfl ⟨trivial, ?_⟩
      refine SXw .bad 0 rfl rfl rfl rfl (X_storeP 4 (writes_flows (t := 60) (o := 2) (x := I64 (IntKind.i64.wrap (fo.d + fo.q))) (f' := { fo with d := IntKind.i64.wrap (fo.d + fo.q) }) hf hM1.nd rfl (by decide) rfl) rfl rfl rfl rfl rfl rfl rfl) ?_
      refine sx rfl ?_
      have hw : IntKind.i64.wrap (fo.d + fo.q) = cr (fl1 f) := by rw [w64 (by omega) (by omega), hcr1]
      rw [hw]
      have hi1 := set_get (f' := { fo with d := cr (fl1 f) }) hf
      have hn1 := nodup_set (f' := { fo with d := cr (fl1 f) }) hf rfl hM1.nd
      repeat (first | refine sc rfl ?_ | refine so rfl ?_ | refine sb rfl ?_)
      have w2 := writes_flows (t := 60) (o := 5) (x := B false) (f' := { fo with d := cr (fl1 f), an := false }) hi1 hn1 rfl (by decide) rfl
      rw [List.set_set] at w2
      refine O_Xn (X_storeP 0 w2 rfl rfl rfl rfl rfl rfl rfl) ?_
      repeat (first | refine sc rfl ?_ | refine so rfl ?_ | refine sb rfl ?_)
      refine C_le ⟨[(0, PT bR 0), (5, PT fo.b 0)], [.abs (flA (fs.set f { fo with d := cr (fl1 f), an := false })), .abs (csA fo (c0 :: csr)), .abs (packA (C.take f ++ C.drop (f + 1))), .abs (ringA bR mo (HO g o mm cc)), .abs (rwA (HO g o mm cc) (fo.b :: ps'))]⟩ (Le.perm [] ⟨rfl, rfl, trivial⟩ (.refl _)) ?_
    case' inr =>
      rw [if_neg (by rw [han]; decide)] at hcr1
      refine C_false rfl han ?_
      repeat (first | refine sc rfl ?_ | refine so rfl ?_ | refine sb rfl ?_)
      have hself : fs.set f { fo with d := cr (fl1 f), an := false } = fs := by
        have : ({ fo with d := cr (fl1 f), an := false } : FS) = fo := by
          rw [hcr1]; cases fo; simp at han ⊢; exact han
        rw [this]
        obtain ⟨hlt, rfl⟩ := List.getElem?_eq_some_iff.1 hf
        exact List.set_getElem_self hlt
      refine C_le ⟨[(0, PT bR 0), (5, PT fo.b 0)], [.abs (flA (fs.set f { fo with d := cr (fl1 f), an := false })), .abs (csA fo (c0 :: csr)), .abs (packA (C.take f ++ C.drop (f + 1))), .abs (ringA bR mo (HO g o mm cc)), .abs (rwA (HO g o mm cc) (fo.b :: ps'))]⟩ (by
        rw [hself]
        exact Le.perm [] ⟨rfl, rfl, trivial⟩ (by exact pickA_perm (is := [4, 0, 0, 0, 0]) (As := [flA fs, csA fo (c0 :: csr), packA (C.take f ++ C.drop (f + 1)), ringA bR mo (HO g o mm cc), rwA (HO g o mm cc) (fo.b :: ps')]) (r := []) rfl)) ?_
    all_goals
      have hi1 := set_get (f' := { fo with d := cr (fl1 f), an := false }) hf
      have hn1 := nodup_set (f' := { fo with d := cr (fl1 f), an := false }) hf rfl hM1.nd
      have hkn1 : ∀ x ∈ ps', Known (fs.set f { fo with d := cr (fl1 f), an := false }) x := fun x hx => (hkn x (by simp [hx])).set (f' := { fo with d := cr (fl1 f), an := false }) hf rfl
      have hfc : ({ fo with d := cr (fl1 f), an := false } : FS).cells = [I64 fo.num, I64 fo.q, I64 (cr (fl1 f)), .v (HO g2 o2 fo.hn fo.hc), B fo.rests, B false] := by
        show [I64 fo.num, I64 fo.q, I64 (cr (fl1 f)), .v (.slice fo.ha fo.hn fo.hc), B fo.rests, B false] = _
        rw [hh]
      have hcs : ∀ l, csA fo l = slO (HO g2 o2 fo.hn fo.hc) 3 1 (l.map I64) := fun l => by unfold csA; rw [csh hh]
      have hcs1 : ∀ l, csA { fo with d := cr (fl1 f), an := false } l = slO (HO g2 o2 fo.hn fo.hc) 3 1 (l.map I64) := hcs
      have r3 : Reads (flA (fs.set f { fo with d := cr (fl1 f), an := false })) fo.b 3 [.v (HO g2 o2 fo.hn fo.hc), B fo.rests, B false] := by have := reads_flows (t := 60) hi1 3; rw [hfc] at this; exact this
      rw [hcs]
      refine C_drawX P2 (fun _ => [.abs (flA (fs.set f { fo with d := cr (fl1 f), an := false })), .abs (slO (HO g2 o2 fo.hn fo.hc) 3 1 ((c0 :: csr).map I64)), .abs (packA (C.take f ++ C.drop (f + 1))), .abs (ringA bR mo (HO g o mm cc)), .abs (rwA (HO g o mm cc) (fo.b :: ps'))]) rfl rfl (by decide) rfl ?_
      refine sx rfl ⟨trivial, ?_⟩
      refine sx rfl ⟨trivial, ?_⟩
      refine sx rfl ⟨trivial, ?_⟩
      refine SXr (I64 (cr (fl1 f))) 0 rfl rfl rfl rfl (X_loadP 0 (reads_flows hi1 2) rfl rfl rfl rfl rfl rfl) ?_
      refine sx rfl ⟨trivial, ?_⟩
      refine sx rfl ⟨trivial, ?_⟩
      refine sx rfl ⟨trivial, ?_⟩
      refine SXr (.v (HO g2 o2 fo.hn fo.hc)) 0 rfl rfl rfl rfl (X_loadP 0 r3 rfl rfl rfl rfl rfl rfl) ?_
      refine sx rfl ⟨by omega, ?_⟩
      refine SXr (I64 c0) 0 rfl rfl rfl rfl (X_loadO 1 (j := 0) rfl rfl rfl rfl rfl rfl) ?_
      refine sx rfl ⟨trivial, ?_⟩
      refine sx rfl ?_
      repeat (first | refine sc rfl ?_ | refine so rfl ?_ | refine sb rfl ?_)
      refine C_if rfl (fun h5 => ?_) (fun h5 => ?_) <;> simp only [decide_eq_true_eq, decide_eq_false_iff_not] at h5
      · repeat (first | refine sc rfl ?_ | refine so rfl ?_ | refine sb rfl ?_)
        rcases csr with _ | ⟨c1, cs2⟩
        case' nil =>
          skip
          have hsv := serve_A0 (bR := bR) (mo := mo) (g := g) (o := o) (m := mm) (cc := cc) (g2 := g2) (o2 := o2) (ps := ps')  hi1 hn1 hkn1 (by omega) hmm e5 hh hnb (by omega : 0 ≤ c0 ∧ c0 ≤ 1000000) (by show 0 ≤ cr (fl1 f) ∧ cr (fl1 f) ≤ 1000000; omega)
          rw [hcs1, List.set_set] at hsv
          have hi3 := set_get (f' := { fo with an := false, ha := some ⟨g2, if fo.hc - 1 = 0 then o2 else o2 + 1, none⟩, hn := fo.hn - 1, hc := fo.hc - 1, d := 0 }) hf
          refine C_drawX P3 (fun ph => match ph with
            | 0 => [.abs (flA (fs.set f { fo with d := cr (fl1 f), an := false })), .abs (slO (HO g2 o2 fo.hn fo.hc) 3 1 (([c0]).map I64)), .abs (packA (C.take f ++ C.drop (f + 1))), .abs (ringA bR mo (HO g o mm cc)), .abs (rwA (HO g o mm cc) (fo.b :: ps'))]
            | _ => [.abs (ringA bR mo (HO g o ps'.length cc)), .abs (rwA (HO g o ps'.length cc) (ps')), .abs (flA (fs.set f { fo with an := false, ha := some ⟨g2, if fo.hc - 1 = 0 then o2 else o2 + 1, none⟩, hn := fo.hn - 1, hc := fo.hc - 1, d := 0 })), .abs (csA { fo with an := false, ha := some ⟨g2, if fo.hc - 1 = 0 then o2 else o2 + 1, none⟩, hn := fo.hn - 1, hc := fo.hc - 1, d := 0 } ([])), .abs (packA (C.take f ++ C.drop (f + 1)))]) rfl rfl (by decide) rfl ?_
          refine sx rfl ⟨trivial, ?_⟩
          refine sx rfl ⟨trivial, ?_⟩
          refine sx rfl ⟨trivial, ?_⟩
          refine SXr2 (I64 fo.num) rfl rfl rfl rfl (X_loadP 0 (reads_flows hi1 0) rfl rfl rfl rfl rfl rfl) (X_loadP 2 (reads_flows hi3 0) rfl rfl rfl rfl rfl rfl) ?_
          refine sx rfl ⟨trivial, ?_⟩
          refine sx rfl ⟨trivial, ?_⟩
          refine SXw (I64 c0) 0 rfl rfl rfl rfl (X_callA [3, 3, 0, 0] hsv rfl rfl rfl rfl rfl) ?_
          refine sx rfl ⟨trivial, ?_⟩
          refine sx rfl ⟨trivial, ?_⟩
          refine sx rfl ⟨trivial, ?_⟩
          refine sx rfl ?_
          refine C_le _ (Le.packAt 3 3 e6 rfl) ?_
          repeat (first | refine sc rfl ?_ | refine so rfl ?_ | refine sb rfl ?_)
          refine ⟨_, [ringA bR mo (HO g o ps'.length cc), rwA (HO g o ps'.length cc) (ps'), flA (fs.set f { fo with an := false, ha := some ⟨g2, if fo.hc - 1 = 0 then o2 else o2 + 1, none⟩, hn := fo.hn - 1, hc := fo.hc - 1, d := 0 }), packA (C.set f (csA { fo with an := false, ha := some ⟨g2, if fo.hc - 1 = 0 then o2 else o2 + 1, none⟩, hn := fo.hn - 1, hc := fo.hc - 1, d := 0 } ([])))], [], rfl, pickA_perm (is := [1, 1, 1, 0]) rfl, rfl, .inr ⟨fl1, f, gs, c0, [], ⟨HO g o ps'.length cc, ps', fs.set f { fo with an := false, ha := some ⟨g2, if fo.hc - 1 = 0 then o2 else o2 + 1, none⟩, hn := fo.hn - 1, hc := fo.hc - 1, d := 0 }, C.set f (csA { fo with an := false, ha := some ⟨g2, if fo.hc - 1 = 0 then o2 else o2 + 1, none⟩, hn := fo.hn - 1, hc := fo.hc - 1, d := 0 } ([]))⟩, hR, hc, h5, by rw [e1]; rfl, rfl, ?_, by exact (map_b_set hf (by rfl)).trans hB1⟩⟩
          have hs := hM1.set (x := srvX (fl1 f) c0 ([])) (f' := { fo with an := false, ha := some ⟨g2, if fo.hc - 1 = 0 then o2 else o2 + 1, none⟩, hn := fo.hn - 1, hc := fo.hc - 1, d := 0 }) (A := csA { fo with an := false, ha := some ⟨g2, if fo.hc - 1 = 0 then o2 else o2 + 1, none⟩, hn := fo.hn - 1, hc := fo.hc - 1, d := 0 } ([])) hfm hf rfl rfl e2 rfl rfl rfl rfl
          refine hs.turn ?_
          show ps' = (srvR f gs ([])).map (bOf (fs.set f { fo with an := false, ha := some ⟨g2, if fo.hc - 1 = 0 then o2 else o2 + 1, none⟩, hn := fo.hn - 1, hc := fo.hc - 1, d := 0 }))
          have hb := fun j => bOf_set (f' := { fo with an := false, ha := some ⟨g2, if fo.hc - 1 = 0 then o2 else o2 + 1, none⟩, hn := fo.hn - 1, hc := fo.hc - 1, d := 0 }) hf rfl j
          simp only [srvR, List.isEmpty_cons, List.isEmpty_nil, if_true, Bool.false_eq_true, if_false, List.map_cons, hb, hgp, bOf_get hf]
          try rw [List.map_congr_left (fun j _ => hb j), hgp]

        case' cons =>
          skip
          have hsv := serve_A1 (bR := bR) (mo := mo) (g := g) (o := o) (m := mm) (cc := cc) (g2 := g2) (o2 := o2) (ps := ps') (c1 := c1) (cs := cs2) hi1 hn1 hkn1 (by omega) hmm e5 hh hnb (by omega : 0 ≤ c0 ∧ c0 ≤ 1000000) (by show 0 ≤ cr (fl1 f) ∧ cr (fl1 f) ≤ 1000000; omega)
          rw [hcs1, List.set_set] at hsv
          have hi3 := set_get (f' := { fo with an := false, ha := some ⟨g2, if fo.hc - 1 = 0 then o2 else o2 + 1, none⟩, hn := fo.hn - 1, hc := fo.hc - 1, d := cr (fl1 f) - c0 }) hf
          refine C_drawX P3 (fun ph => match ph with
            | 0 => [.abs (flA (fs.set f { fo with d := cr (fl1 f), an := false })), .abs (slO (HO g2 o2 fo.hn fo.hc) 3 1 ((c0 :: c1 :: cs2).map I64)), .abs (packA (C.take f ++ C.drop (f + 1))), .abs (ringA bR mo (HO g o mm cc)), .abs (rwA (HO g o mm cc) (fo.b :: ps'))]
            | _ => [.abs (ringA bR mo (HO g o mm cc)), .abs (rwA (HO g o mm cc) (fo.b :: ps')), .abs (flA (fs.set f { fo with an := false, ha := some ⟨g2, if fo.hc - 1 = 0 then o2 else o2 + 1, none⟩, hn := fo.hn - 1, hc := fo.hc - 1, d := cr (fl1 f) - c0 })), .abs (csA { fo with an := false, ha := some ⟨g2, if fo.hc - 1 = 0 then o2 else o2 + 1, none⟩, hn := fo.hn - 1, hc := fo.hc - 1, d := cr (fl1 f) - c0 } (c1 :: cs2)), .abs (packA (C.take f ++ C.drop (f + 1)))]) rfl rfl (by decide) rfl ?_
          refine sx rfl ⟨trivial, ?_⟩
          refine sx rfl ⟨trivial, ?_⟩
          refine sx rfl ⟨trivial, ?_⟩
          refine SXr2 (I64 fo.num) rfl rfl rfl rfl (X_loadP 0 (reads_flows hi1 0) rfl rfl rfl rfl rfl rfl) (X_loadP 2 (reads_flows hi3 0) rfl rfl rfl rfl rfl rfl) ?_
          refine sx rfl ⟨trivial, ?_⟩
          refine sx rfl ⟨trivial, ?_⟩
          refine SXw (I64 c0) 0 rfl rfl rfl rfl (X_callA [3, 3, 0, 0] hsv rfl rfl rfl rfl rfl) ?_
          refine sx rfl ⟨trivial, ?_⟩
          refine sx rfl ⟨trivial, ?_⟩
          refine sx rfl ⟨trivial, ?_⟩
          refine sx rfl ?_
          refine C_le _ (Le.packAt 3 3 e6 rfl) ?_
          repeat (first | refine sc rfl ?_ | refine so rfl ?_ | refine sb rfl ?_)
          refine ⟨_, [ringA bR mo (HO g o mm cc), rwA (HO g o mm cc) (fo.b :: ps'), flA (fs.set f { fo with an := false, ha := some ⟨g2, if fo.hc - 1 = 0 then o2 else o2 + 1, none⟩, hn := fo.hn - 1, hc := fo.hc - 1, d := cr (fl1 f) - c0 }), packA (C.set f (csA { fo with an := false, ha := some ⟨g2, if fo.hc - 1 = 0 then o2 else o2 + 1, none⟩, hn := fo.hn - 1, hc := fo.hc - 1, d := cr (fl1 f) - c0 } (c1 :: cs2)))], [], rfl, pickA_perm (is := [1, 1, 1, 0]) rfl, rfl, .inr ⟨fl1, f, gs, c0, c1 :: cs2, ⟨HO g o mm cc, fo.b :: ps', fs.set f { fo with an := false, ha := some ⟨g2, if fo.hc - 1 = 0 then o2 else o2 + 1, none⟩, hn := fo.hn - 1, hc := fo.hc - 1, d := cr (fl1 f) - c0 }, C.set f (csA { fo with an := false, ha := some ⟨g2, if fo.hc - 1 = 0 then o2 else o2 + 1, none⟩, hn := fo.hn - 1, hc := fo.hc - 1, d := cr (fl1 f) - c0 } (c1 :: cs2))⟩, hR, hc, h5, by rw [e1]; rfl, rfl, ?_, by exact (map_b_set hf (by rfl)).trans hB1⟩⟩
          have hs := hM1.set (x := srvX (fl1 f) c0 (c1 :: cs2)) (f' := { fo with an := false, ha := some ⟨g2, if fo.hc - 1 = 0 then o2 else o2 + 1, none⟩, hn := fo.hn - 1, hc := fo.hc - 1, d := cr (fl1 f) - c0 }) (A := csA { fo with an := false, ha := some ⟨g2, if fo.hc - 1 = 0 then o2 else o2 + 1, none⟩, hn := fo.hn - 1, hc := fo.hc - 1, d := cr (fl1 f) - c0 } (c1 :: cs2)) hfm hf rfl rfl e2 rfl rfl rfl rfl
          refine hs.turn ?_
          show fo.b :: ps' = (srvR f gs (c1 :: cs2)).map (bOf (fs.set f { fo with an := false, ha := some ⟨g2, if fo.hc - 1 = 0 then o2 else o2 + 1, none⟩, hn := fo.hn - 1, hc := fo.hc - 1, d := cr (fl1 f) - c0 }))
          have hb := fun j => bOf_set (f' := { fo with an := false, ha := some ⟨g2, if fo.hc - 1 = 0 then o2 else o2 + 1, none⟩, hn := fo.hn - 1, hc := fo.hc - 1, d := cr (fl1 f) - c0 }) hf rfl j
          simp only [srvR, List.isEmpty_cons, List.isEmpty_nil, if_true, Bool.false_eq_true, if_false, List.map_cons, hb, hgp, bOf_get hf]
          try rw [List.map_congr_left (fun j _ => hb j), hgp]

      · have hanf : (fl1 f).an = false := by
          cases hx : (fl1 f).an with
          | false => rfl
          | true =>
            have : cr (fl1 f) = (fl1 f).d + (fl1 f).q := by unfold cr; rw [hx]; rfl
            omega
        have hcrd : cr (fl1 f) = (fl1 f).d := by unfold cr; rw [hanf]; rfl
        have w4 := writes_flows (t := 60) (o := 5) (x := B true) (f' := { fo with d := cr (fl1 f), an := true }) hi1 hn1 rfl (by decide) rfl
        rw [List.set_set] at w4
        repeat (first | refine sc rfl ?_ | refine so rfl ?_ | refine sb rfl ?_)
        refine O_Xn (X_storeP 0 w4 rfl rfl rfl rfl rfl rfl rfl) ?_
        repeat (first | refine sc rfl ?_ | refine so rfl ?_ | refine sb rfl ?_)
        refine O_loadP 3 (reads_box 1) rfl rfl rfl rfl rfl rfl ?_
        refine O_Xd (X_slice (i := 1) rfl rfl rfl rfl rfl rfl rfl (by omega) (by omega) (by omega) h3) ?_
        refine O_le _ (Le.retell 4 (A' := slO (HO g (if cc - 1 = 0 then o else o + 1 * 1) (mm - 1) (cc - 1)) 58 1 (ptrs ps')) rfl rfl (fun G w hok => slO_drop 1 (by omega) G w hok)) ?_
        repeat (first | refine sc rfl ?_ | refine so rfl ?_ | refine sb rfl ?_)
        refine O_le _ (Le.freeze 66 rfl rfl) ?_
        refine O_appendO 0 (x := PT fo.b 0) rfl rfl rfl rfl rfl rfl rfl (by simp; omega) (by simp [maxLen]; omega) (fun v' hv' => ?_)
        obtain ⟨g9, o9, m9, cc9, rfl⟩ := hv'
        repeat (first | refine sc rfl ?_ | refine so rfl ?_ | refine sb rfl ?_)
        refine O_Xn (X_storeP 4 (writes_box (by show 1 < 2; decide)) rfl rfl rfl rfl rfl rfl rfl) ?_
        have hrow : slO (HO g9 o9 m9 cc9) 58 1 (List.map (fun b => PT b 0) ps' ++ [PT fo.b 0]) = rwA (HO g9 o9 m9 cc9) (ps' ++ [fo.b]) := by simp [rwA]
        have hcs4 : slO (HO g2 o2 fo.hn fo.hc) 3 1 ((c0 :: csr).map I64) = csA { fo with d := cr (fl1 f), an := true } (c0 :: csr) := (hcs _).symm
        rw [hrow, hcs4]
        refine O_le _ (Le.packAt 3 3 e6 rfl) ?_
        repeat (first | refine sc rfl ?_ | refine so rfl ?_ | refine sb rfl ?_)
        obtain ⟨rfl, hrw⟩ := hR.front hI rfl hanf
        subst hrw
        refine ⟨(⟨HO g9 o9 m9 cc9, ps' ++ [fo.b], fs.set f { fo with d := cr (fl1 f), an := true }, C.set f (csA { fo with d := cr (fl1 f), an := true } (c0 :: csr))⟩, rotF fl1 f, gs ++ [f]), ⟨?_, rot_inv (c := 0) hI1 hc hanf (by omega), .inr ⟨f, gs, c0, csr, rfl, rfl, rfl, hc, hanf, by omega⟩, by exact (map_b_set hf (by rfl)).trans hB1⟩, ?_, Le.perm [] ⟨rfl, trivial⟩ (by exact pickA_perm (is := [1, 1, 1, 0]) (As := [ringA bR mo (HO g9 o9 m9 cc9), rwA (HO g9 o9 m9 cc9) (ps' ++ [fo.b]), flA (fs.set f { fo with d := cr (fl1 f), an := true }), packA (C.set f (csA { fo with d := cr (fl1 f), an := true } (c0 :: csr)))]) (r := []) rfl)⟩
        · have hs := hM1.set (x := { fl1 f with an := true }) (f' := { fo with d := cr (fl1 f), an := true }) (A := csA { fo with d := cr (fl1 f), an := true } (c0 :: csr)) hfm hf rfl rfl e2 hcrd rfl rfl (by rw [hc])
          refine hs.turn ?_
          show ps' ++ [fo.b] = (gs ++ [f]).map (bOf (fs.set f { fo with d := cr (fl1 f), an := true }))
          rw [List.map_congr_left (fun j _ => bOf_set (f' := { fo with d := cr (fl1 f), an := true }) hf rfl j), List.map_append, hgp, List.map_cons, List.map_nil, bOf_get hf]
        · simp only []
          rw [rot_an hI1]
          simp [anF, hanf]
end Go.Proofs

/- The symbolic walk, part 40: calls in drawn regions over memory that they only read; an element struck from an owned slice; chunks of no blocks. -/
set_option linter.unusedSimpArgs false
set_option linter.unusedVariables false
namespace Go.Sy
open Go.RowKit

section
variable {P : Program} {T : Tab} {X : Ctx P T} {n : Nat} {e : Env} {st : St} {a : Act} {w : World} {ops : Array Oper} {K : St → Prop}

/-- A chunk without blocks. -/
theorem Le.addAbs (A : Abs) {s : List (Nat × AV)} {c : List Ch} (hbs : A.bs = []) (hok : ∀ G w, A.ok G w) : Le X n ⟨s, c⟩ ⟨s, .abs A :: c⟩ :=
  Le.absPerm (As := []) (As' := [A]) (.refl _) (by simp [blocks, hbs]) (fun G w _ B hB => by simp only [List.mem_singleton] at hB; subst hB; exact hok G w)

/-- A call, in a region whose order is drawn, that reads memory at known addresses. -/
theorem D_callA (is : List Nat) {base : List (Nat × AV)} {c : List Ch} {done : Done} {f : FuncId} {dst : Nat} {args : Array Operand} {tys : Array TypeId} {ty : TypeId} {pos : String} {aft : Array Edge} {gd : Option (Nat × Bool)} {rest : List Oper} {avs : List AV} {x : AV} {cs : List Abs} {cr : List Ch}
    (hf : FnA P f avs cs (fun r cs' => r = x ∧ cs' = cs)) (hg : guardA ops ⟨availL done aft.toList base, c⟩ ⟨some dst, .call ⟨.value (.func f), args, tys⟩, ty, pos, aft, gd⟩ = some true) (ha : opds (availL done aft.toList base) args.toList = some avs) (himm : AV.imm.immL avs = true) (hp : pickA is c = some (cs, cr)) (hd : Nat.blt dst n = true)
    (k : SymD X n ops base c K rest (done ++ [(some dst, x)])) :
    SymD X n ops base c K (⟨some dst, .call ⟨.value (.func f), args, tys⟩, ty, pos, aft, gd⟩ :: rest) done := by
  refine ⟨x, fun e a w S K' Q r hS hk => ?_, k⟩
  have r' : Rel X n e ⟨availL done aft.toList base, c⟩ a w := r.less hS (fun h => h)
  rw [if_pos (guardA_sound r' hg)]
  refine .inl ?_
  unfold Oper.wp
  rw [run_call hf.1 a.eval rfl w, Oper.upon_enter]
  have h1 := RepT.toI avs himm (opds_sound r' ha)
  rw [map_eval]
  have hpp := pickA_perm hp
  have hd2 := (r.heap.perm hpp).absOK
  refine (hf.2 e.G w _ ⟨r.im, r.mz⟩ h1 hd2.1).mono ?_
  rintro en w' ⟨rv, cv, cs', G', ⟨rfl, rfl⟩, rfl, g1, g2, g3, g4, g5, g6, o1, o2, o3, o4, o5⟩
  have r2 := r.swapAbs (st := ⟨S, c⟩) hpp g2 g4 g3 g5 g6 ⟨o1, o2, o3⟩ o4 o5
  have r3 : Rel X n ⟨G', e.μ, e.hd⟩ ⟨S, c⟩ a w' := { r2 with heap := r2.heap.perm hpp.symm }
  exact hk _ _ _ (r3.put hd (RepI.toRep (e := ⟨G', e.μ, e.hd⟩) rv g1))

/-! ### Cells written in a row -/
def writeAt (cur : Array Value) : Nat → List Value → Array Value
  | _, [] => cur
  | o, v :: vs => writeAt (cur.setIfInBounds o v) (o + 1) vs
theorem writeAt_size : ∀ (vs : List Value) (cur : Array Value) (o : Nat), (writeAt cur o vs).size = cur.size
  | [], cur, o => rfl
  | v :: vs, cur, o => by simp only [writeAt]; rw [writeAt_size vs]; simp
theorem writeAt_get : ∀ (vs : List Value) (cur : Array Value) (o j : Nat), o + vs.length ≤ cur.size → (writeAt cur o vs)[j]? = if o ≤ j ∧ j < o + vs.length then vs[j - o]? else cur[j]?
  | [], cur, o, j, _ => by simp only [writeAt, List.length_nil]; rw [if_neg (by omega)]
  | v :: vs, cur, o, j, h => by
    simp only [List.length_cons] at h
    simp only [writeAt]
    rw [writeAt_get vs _ (o + 1) j (by simp; omega)]
    simp only [List.length_cons]
    by_cases h1 : j = o
    · subst h1
      rw [if_neg (by omega), if_pos (by omega), Nat.sub_self, List.getElem?_cons_zero, Array.getElem?_setIfInBounds_self_of_lt (by omega)]
    · by_cases h2 : o + 1 ≤ j ∧ j < o + 1 + vs.length
      · rw [if_pos h2, if_pos (by omega)]
        obtain ⟨q, rfl⟩ : ∃ q, j = o + 1 + q := ⟨j - (o + 1), by omega⟩
        rw [show o + 1 + q - (o + 1) = q by omega, show o + 1 + q - o = q + 1 by omega]
        simp
      · rw [if_neg h2, if_neg (by omega)]
        rw [Array.getElem?_setIfInBounds_ne (Ne.symm h1)]

theorem setCells_heap : ∀ (vs : List Value) (b o : Nat) (w : World) (cur : Array Value) (t : TypeId) (fz : Nat × Nat), w.heap[b]? = some (.cells cur t fz) → (w.setCells b o vs).heap[b]? = some (.cells (writeAt cur o vs) t fz)
  | [], b, o, w, cur, t, fz, h => h
  | v :: vs, b, o, w, cur, t, fz, h => by
    simp only [World.setCells, writeAt]
    exact setCells_heap vs b (o + 1) _ _ t fz (setCell_heap h)
theorem setCells_other : ∀ (vs : List Value) (b o k : Nat) (w : World), k ≠ b → (w.setCells b o vs).heap[k]? = w.heap[k]?
  | [], b, o, k, w, h => rfl
  | v :: vs, b, o, k, w, h => by
    simp only [World.setCells]
    rw [setCells_other vs b (o + 1) k _ h, setCell_other h]
theorem setCells_misc : ∀ (vs : List Value) (b o : Nat) (w : World), (w.setCells b o vs).heap.size = w.heap.size ∧ (w.setCells b o vs).os = w.os ∧ (w.setCells b o vs).tape = w.tape ∧ (w.setCells b o vs).output = w.output
  | [], b, o, w => ⟨rfl, rfl, rfl, rfl⟩
  | v :: vs, b, o, w => by
    simp only [World.setCells]
    obtain ⟨h1, h2, h3, h4⟩ := setCells_misc vs b (o + 1) (w.setCell ⟨b, o, none⟩ v)
    exact ⟨by rw [h1, setCell_size], h2, h3, h4⟩

/-- append(s[:at], s[at+1:]...): an element is struck. -/
theorem X_strike (q : Nat) {p : Pl} {t el ty sz0 b0 by_ esz : Nat} {ag0 ag1 : Bool} {z0 z1 : List Value} {d1 : TD} {so_ xo : Operand} {g o' m cc c' k at_ : Nat} {row row' : Nat → List AV} {d : Option Nat} {pos : String} {aft : Array Edge} {gd : Option (Nat × Bool)} {i : Nat} {Si : List (Nat × AV)} {c cr : List Ch}
    (hTs : T t = some ⟨sz0, b0, ag0, z0, .slice el⟩) (hTe : T el = some ⟨esz, by_, ag1, z1, d1⟩) (hg : guardA ops ⟨Si, c⟩ ⟨d, .call ⟨.builtin .append, #[so_, xo], #[t, t]⟩, ty, pos, aft, gd⟩ = some true)
    (hso : opd Si so_ = some (.v (HO g 0 at_ cc))) (hxo : opd Si xo = some (.v (HO g o' k c'))) (hp : nthA q c = some (vecA (HD g m cc) el esz m row, cr)) (hd : dstOK n d = true) (hk : at_ + k + 1 = m) (ho : k = 0 ∨ o' = (at_ + 1) * esz)
    (hrow : ∀ j, j < m - 1 → row' j = if j < at_ then row j else row (j + 1)) :
    StepX X n ops p Si c (.abs (vecA (HD g (at_ + k) cc) el esz (at_ + k) row') :: cr) i ⟨d, .call ⟨.builtin .append, #[so_, xo], #[t, t]⟩, ty, pos, aft, gd⟩ (.v (HO g 0 (at_ + k) cc)) :=
  StepX.val hg hd (fun e a w S r r' => by
    have h1 := opd_sound r' hso
    have h2 := opd_sound r' hxo
    simp only [Rep] at h1 h2
    obtain ⟨pi, z, i1, i2, i3, i4, i5, i6, i7⟩ := (X.ok _ _ hTe).info
    obtain ⟨dd, e1, _, e3⟩ := (X.ok _ _ hTs).desc
    simp only [TDOK] at e3
    subst e3
    simp only at i2
    obtain ⟨⟨xs, hown, hrows⟩, hgood, _⟩ := r.heap.nth hp
    have hxl := hown.1
    rcases hown.2 with ⟨hnil, _⟩ | ⟨g', cap, cur, hsl, _, hgb, hcap, hmax, hcs, htake⟩
    · cases hnil
    simp only [HD, Value.slice.injEq, Option.some.injEq, Addr.mk.injEq, and_true, true_and] at hsl
    obtain ⟨rfl, rfl⟩ := hsl
    have hmc : m * esz ≤ cc * esz := Nat.mul_le_mul_right _ hcap
    have em : m * esz = at_ * esz + k * esz + esz := by rw [← hk, Nat.add_mul, Nat.add_mul, Nat.one_mul]
    have ea : (at_ + 1) * esz = at_ * esz + esz := by rw [Nat.add_mul, Nat.one_mul]
    have eak : (at_ + k) * esz = at_ * esz + k * esz := Nat.add_mul ..
    have hxs1 : ∀ u ∈ xs, u.oneCell' = true := by
      intro u hu
      obtain ⟨jj, hjj, rfl⟩ := List.getElem_of_mem hu
      have hesz : 0 < esz := by
        rcases Nat.eq_zero_or_pos esz with h | h
        · subst h; simp at hxl; subst hxl; simp at hjj
        · exact h
      have hq : jj / esz < m := Nat.div_lt_of_lt_mul (by rw [Nat.mul_comm, ← hxl]; exact hjj)
      have hr := hrows (jj / esz) hq
      have hlen := hr.len
      have hmod := Nat.mod_lt jj hesz
      have hdm := Nat.div_add_mod jj esz
      have hrl : (row (jj / esz)).length = esz := by
        rw [← hlen, List.length_take, List.length_drop, hxl]
        have : (jj / esz + 1) * esz ≤ m * esz := Nat.mul_le_mul_right _ hq
        rw [Nat.add_mul, Nat.one_mul] at this
        omega
      obtain ⟨z, z1, _, z3⟩ := hr.get (jj % esz) (row (jj / esz))[jj % esz] (List.getElem?_eq_getElem (by omega))
      rw [List.getElem?_take, if_pos hmod, List.getElem?_drop, Nat.mul_comm (jj / esz) esz, hdm, List.getElem?_eq_getElem hjj] at z1
      cases z1; exact z3
    let news := (xs.drop ((at_ + 1) * esz)).take (k * esz)
    have hnl : news.length = k * esz := by simp only [news, List.length_take, List.length_drop, hxl]; omega
    have hcell : ∀ jj, jj < m * esz → w.cell? ⟨g, jj, none⟩ = xs[jj]? := by
      intro jj hjj
      rw [cell_of_row w g _ cur el (0, 0) hgb, ← htake, List.getElem?_take, if_pos hjj]; simp
    have hnews : ∀ (jj : Nat) (u : Value), news[jj]? = some u → w.cell? ((⟨g, o', none⟩ : Addr).add jj) = some u := by
      intro jj u hu
      have hjk : jj < k * esz := by
        rcases Nat.lt_or_ge jj (k * esz) with h | h
        · exact h
        · rw [List.getElem?_eq_none (by omega)] at hu; cases hu
      rcases ho with h0 | h0
      · subst h0; omega
      · subst h0
        rw [add_addr, hcell _ (by omega)]
        simp only [news] at hu
        rw [List.getElem?_take, if_pos hjk, List.getElem?_drop] at hu
        exact hu
    have hone : ∀ u ∈ news, u.oneCell' = true := fun u hu => hxs1 u (List.mem_of_mem_drop (List.mem_of_mem_take hu))
    have hrun := run_append_room_cells (P := P) w t ty el pi e1 i1 g 0 at_ cc ⟨g, o', none⟩ k c' news (by rw [i2]; exact hnl) hnews hone (by omega)
      (fun jj hjj => by rw [i2, hcell _ (by omega), List.getElem?_eq_getElem (by omega)]; rfl)
      (fun jj hjj => by simp [World.frozen?, hgb])
    rw [i2] at hrun
    obtain ⟨s1, s2, s3, s4⟩ := setCells_misc news g (0 + at_ * esz) w
    have hfit : 0 + at_ * esz + news.length ≤ cur.size := by omega
    refine ⟨HO g 0 (at_ + k) cc, w.setCells g (0 + at_ * esz) news, e, ?_, r.absTurn (st := ⟨S, c⟩) (w' := w.setCells g (0 + at_ * esz) news) hp rfl ?_ (fun b hb => ?_) ⟨s2, s3, s4⟩ s1, by simp only [Rep]⟩
    · simp only [execOp, resolve, invoke, builtin, Sem.run_bind, Sem.run_pure, Result.andThen_ok, List.map_toArray, List.map_cons, List.map_nil, h1, h2, hrun]
    · have hcur := setCells_heap news g (0 + at_ * esz) w cur el (0, 0) hgb
      let ys := (xs.take (at_ * esz)) ++ news
      have hyl : ys.length = (at_ + k) * esz := by simp only [ys, List.length_append, hnl, List.length_take, hxl]; omega
      refine ⟨ys, ⟨hyl, .inr ⟨g, cc, _, rfl, Nat.zero_le _, hcur, by omega, hmax, by rw [writeAt_size]; exact hcs, ?_⟩⟩, ?_⟩
      · apply List.ext_getElem?
        intro jj
        rw [List.getElem?_take]
        by_cases hj : jj < (at_ + k) * esz
        · rw [if_pos hj, Array.getElem?_toList, writeAt_get _ _ _ _ hfit]
          simp only [ys]
          by_cases hja : jj < at_ * esz
          · rw [if_neg (by omega), List.getElem?_append_left (by rw [List.length_take, hxl]; omega), List.getElem?_take, if_pos hja, ← htake, List.getElem?_take, if_pos (by omega)]
            simp
          · have hl0 : (xs.take (at_ * esz)).length = at_ * esz := by rw [List.length_take, hxl]; omega
            rw [if_pos (by omega), List.getElem?_append_right (by omega), hl0, Nat.zero_add]
        · rw [if_neg hj, List.getElem?_eq_none (by omega)]
      · intro jj hjj
        rw [hrow jj (by omega)]
        by_cases hja : jj < at_
        · rw [if_pos hja]
          have := hrows jj (by omega)
          have e5 : (jj + 1) * esz ≤ at_ * esz := Nat.mul_le_mul_right _ hja
          rw [Nat.add_mul, Nat.one_mul] at e5
          have : (ys.drop (jj * esz)).take esz = (xs.drop (jj * esz)).take esz := by
            apply List.ext_getElem?
            intro q
            rw [List.getElem?_take, List.getElem?_take]
            split
            · rename_i hq
              simp only [ys]
              rw [List.getElem?_drop, List.getElem?_drop, List.getElem?_append_left (by rw [List.length_take, hxl]; omega), List.getElem?_take, if_pos (by omega)]
            · rfl
          rw [this]; assumption
        · rw [if_neg hja]
          have h6 := hrows (jj + 1) (by omega)
          have e5 : at_ * esz ≤ jj * esz := Nat.mul_le_mul_right _ (by omega)
          have e6 : (jj + 1) * esz ≤ (at_ + k) * esz := Nat.mul_le_mul_right _ hjj
          have e7 : (jj + 1) * esz = jj * esz + esz := by rw [Nat.add_mul, Nat.one_mul]
          have hl0 : (xs.take (at_ * esz)).length = at_ * esz := by rw [List.length_take, hxl]; omega
          have : (ys.drop (jj * esz)).take esz = (xs.drop ((jj + 1) * esz)).take esz := by
            apply List.ext_getElem?
            intro q
            rw [List.getElem?_take, List.getElem?_take]
            split
            · rename_i hq
              simp only [ys, news]
              rw [List.getElem?_drop, List.getElem?_drop, List.getElem?_append_right (by omega), hl0, List.getElem?_take, if_pos (by omega), List.getElem?_drop]
              congr 1; omega
            · rfl
          rw [this]; exact h6
    · exact setCells_other news g _ b w (fun hh => hb (by subst hh; simp [vecA, Value.ownBlock])))
end
end Go.Sy

/- The law of the ring: lemmas. -/
set_option linter.unusedSimpArgs false
set_option linter.unusedVariables false
set_option maxRecDepth 100000
namespace Go.Proofs
open Go.Sy Go.Lib Go.Ring

/-- The map's entries. -/
def mkEs : Nat → List Nat → List (Int × AV)
  | _, [] => []
  | s, b :: bs => ((s : Int) + 1, PT b 0) :: mkEs (s + 1) bs
theorem mkEs_snoc : ∀ (s : Nat) (bs : List Nat) (b : Nat), mkEs s (bs ++ [b]) = mkEs s bs ++ [(((s + bs.length : Nat) : Int) + 1, PT b 0)]
  | s, [], b => by simp [mkEs]
  | s, x :: bs, b => by
    simp only [List.cons_append, mkEs, mkEs_snoc (s + 1) bs b, List.length_cons]
    congr 4; omega
theorem mkEs_none : ∀ (s : Nat) (bs : List Nat) (k : Int), k > ((s + bs.length : Nat) : Int) → lookE k (mkEs s bs) = none
  | s, [], k, _ => rfl
  | s, x :: bs, k, h => by
    simp only [List.length_cons] at h
    simp only [mkEs, lookE]
    rw [if_neg (by omega)]
    exact mkEs_none (s + 1) bs k (by omega)
theorem mkEs_get : ∀ (s : Nat) (bs : List Nat) (j b : Nat), bs[j]? = some b → lookE (((s + j : Nat) : Int) + 1) (mkEs s bs) = some (PT b 0)
  | s, [], j, b, h => by simp at h
  | s, x :: bs, j, b, h => by
    simp only [mkEs, lookE]
    cases j with
    | zero => simp at h; subst h; rw [if_pos (by omega)]
    | succ j =>
      rw [if_neg (by omega)]
      have := mkEs_get (s + 1) bs j b (by simpa using h)
      rw [← this]; congr 1; omega

theorem Mem.look {c : Cfg} {fl : FM} {row : List Nat} {m : Nat} {bs : List Nat} (hb : c.fs.map (·.b) = bs) {i : Nat} {f : FS} (hf : c.fs[i]? = some f) : lookE ((i : Int) + 1) (mkEs 0 bs) = some (PT f.b 0) := by
  have := mkEs_get 0 bs i f.b (by rw [← hb]; simp [hf])
  simpa using this

/-- Push, told once. -/
theorem Push_B {bR : Nat} {mo : Option Nat} {hr : Value} {es : List (Int × AV)} {fs : List FS} {i : Nat} {f : FS} {ps : List Nat} {cs : List Int} {k c : Int} (hi : fs[i]? = some f) (hk : lookE k es = some (PT f.b 0)) (hn : (fs.map (·.b)).Nodup) (hps : ∀ x ∈ ps, Known fs x)
    (hl : ps.length ≤ 1000) (hre : f.rests = false) (hc : 1 ≤ c ∧ c ≤ 1040) (hcl : cs.length ≤ 1000) :
    FnA Try.prog 9 [PT bR 0, I64 k, I64 c] [ringA bR mo hr, mpA mo es, flA fs, csA f cs, rwA hr ps]
      (fun r cs' => r = I64 0 ∧ ∃ f1 hr' ps' g2 o2, cs' = [ringA bR mo hr', mpA mo es, flA (fs.set i f1), csA f1 (cs ++ [c]), rwA hr' ps'] ∧ f1.b = f.b ∧ f1.num = f.num ∧ f1.q = f.q ∧ f1.rests = f.rests ∧ f1.ha = some ⟨g2, o2, none⟩ ∧
        ((f.b ∈ ps ∧ ps' = ps ∧ f1.d = f.d ∧ f1.an = f.an) ∨ (f.b ∉ ps ∧ ps' = ps ++ [f.b] ∧ f1.d = 0 ∧ f1.an = true))) :=
  (Push_A hi hk hn hps hl hre hc hcl).mono (fun r cs' h => by
    obtain ⟨rfl, g2, o2, hc', h⟩ := h
    refine ⟨rfl, ?_⟩
    rcases h with ⟨h1, rfl⟩ | ⟨h1, g, o, m, cc, rfl⟩
    · exact ⟨_, _, _, g2, o2, rfl, rfl, rfl, rfl, rfl, rfl, .inl ⟨h1, rfl, rfl, rfl⟩⟩
    · exact ⟨_, _, _, g2, o2, rfl, rfl, rfl, rfl, rfl, rfl, .inr ⟨h1, rfl, rfl, rfl⟩⟩)

theorem Mem.push {c : Cfg} {fl : FM} {row : List Nat} {m : Nat} (h : Mem c fl row m) (hI : Ring.Inv fl row m) {i : Nat} {f f1 : FS} {hr' : Value} {ps' : List Nat} {x : Int} (hi : i < m) (hf : c.fs[i]? = some f) (hb : f1.b = f.b) (hnum : f1.num = f.num) (hq : f1.q = f.q) (hre : f1.rests = f.rests)
    (hcase : (f.b ∈ c.ps ∧ ps' = c.ps ∧ f1.d = f.d ∧ f1.an = f.an) ∨ (f.b ∉ c.ps ∧ ps' = c.ps ++ [f.b] ∧ f1.d = 0 ∧ f1.an = true)) :
    Mem ⟨hr', ps', c.fs.set i f1, c.C.set i (csA f1 ((fl i).cs ++ [x]))⟩ (pushF fl i x) (pushR fl row i) m := by
  obtain ⟨f0, hf0, k1, k2, k3, k4, k5, k6⟩ := h.at_ i hi
  rw [hf] at hf0; cases hf0
  have hmem := h.mem_iff (fun j hj => hI.lt hj) hi hf
  have hm2 := hI.mem i
  rcases hcase with ⟨h1, rfl, h3, h4⟩ | ⟨h1, rfl, h3, h4⟩
  · have hne := (hm2.1 (hmem.1 h1)).2
    have hemp : (fl i).cs.isEmpty = false := by cases hx : (fl i).cs with
      | nil => exact absurd hx hne
      | cons _ _ => rfl
    have hs := h.set (x := joinX (fl i) x) (f' := f1) (A := csA f1 ((fl i).cs ++ [x])) hi hf hb hnum (by rw [hq, k2, joinX_q]) (by simp [joinX, hemp, h3, k3]) (by simp [joinX, hemp, h4, k4]) hre (by rw [joinX_cs])
    have : pushR fl row i = row := by simp [pushR, hemp]
    rw [this]
    exact hs.turn (by
      show c.ps = row.map (bOf (c.fs.set i f1))
      rw [h.row]; exact List.map_congr_left (fun j _ => (bOf_set hf hb j).symm))
  · have hne : (fl i).cs = [] := by
      cases hx : (fl i).cs with
      | nil => rfl
      | cons a l => exact absurd (hmem.2 (hm2.2 ⟨hi, by rw [hx]; simp⟩)) h1
    have hemp : (fl i).cs.isEmpty = true := by rw [hne]; rfl
    have hs := h.set (x := joinX (fl i) x) (f' := f1) (A := csA f1 ((fl i).cs ++ [x])) hi hf hb hnum (by rw [hq, k2, joinX_q]) (by simp [joinX, hemp, h3]) (by simp [joinX, hemp, h4]) hre (by rw [joinX_cs])
    have : pushR fl row i = row ++ [i] := by simp [pushR, hemp]
    rw [this]
    exact hs.turn (by
      show c.ps ++ [f.b] = (row ++ [i]).map (bOf (c.fs.set i f1))
      rw [List.map_append, List.map_congr_left (fun j _ => bOf_set hf hb j), ← h.row, List.map_cons, List.map_nil, bOf_set hf hb, bOf_get hf])

theorem set_map_b {fs : List FS} {i : Nat} {f f' : FS} (hi : fs[i]? = some f) (hb : f'.b = f.b) {bs : List Nat} (h : fs.map (·.b) = bs) : (fs.set i f').map (·.b) = bs := by rw [map_b_set hi hb, h]

theorem Mem.snoc {hr : Value} {fs : List FS} {C : List Abs} {fl : FM} {i : Nat} {f : FS} {A : Abs} (h : Mem ⟨hr, [], fs, C⟩ fl [] i) (hn : ((fs ++ [f]).map (·.b)).Nodup) (hnum : f.num = i + 1) (hq : f.q = (fl i).q) (hd : f.d = (fl i).d) (ha : f.an = (fl i).an) (hre : f.rests = false) (hA : A = csA f (fl i).cs) :
    Mem ⟨hr, [], fs ++ [f], C ++ [A]⟩ fl [] (i + 1) := by
  have h1 := h.len
  have h2 := h.clen
  simp only [] at h1 h2
  refine ⟨by simp [h1], by simp [h2], fun j hj => ?_, hn, rfl⟩
  by_cases e : j < i
  · obtain ⟨g, g1, g2⟩ := h.at_ j e
    simp only [] at g1
    refine ⟨g, by rw [List.getElem?_append_left (by omega)]; exact g1, g2.1, g2.2.1, g2.2.2.1, g2.2.2.2.1, g2.2.2.2.2.1, ?_⟩
    rw [List.getElem?_append_left (by omega)]; exact g2.2.2.2.2.2
  · obtain rfl : j = i := by omega
    refine ⟨f, by rw [List.getElem?_append_right (by omega), h1]; simp, hnum, hq, hd, ha, hre, ?_⟩
    rw [List.getElem?_append_right (by omega), h2]; simp [hA]

instance : Inhabited Wt := ⟨⟨0, 0, 0, 0⟩⟩
abbrev Wt.cells (w : Wt) : List AV := [I64 ((w.f + 1 : Nat) : Int), I64 w.c, I64 w.t, I64 w.most]
abbrev INT (x : Int) : List AV := [I64 x]

def clampQ (x : Int) : Int := max 1040 (min x 3000)
theorem clampQ_bd (x : Int) : 1040 ≤ clampQ x ∧ clampQ x ≤ 3000 := by unfold clampQ; omega

/-- Rings without costs. -/
def fl0 (qs : List Int) : FM := fun j => ⟨qs.getD j 0, 0, [], false⟩
theorem fl0_inv {qs : List Int} {m : Nat} (hm : qs.length = m) (hq : ∀ x ∈ qs, 1040 ≤ x ∧ x ≤ 3000) : Ring.Inv (fl0 qs) [] m := by
  refine ⟨fun i hi => ?_, List.nodup_nil, fun i => ?_, fun i hi c hc => ?_, fun i hi => ?_, fun i hi => ?_⟩
  · have : qs.getD i 0 ∈ qs := by rw [List.getD_eq_getElem?_getD, List.getElem?_eq_getElem (by omega)]; exact List.getElem_mem _
    exact hq _ this
  · simp [fl0]
  · simp [fl0] at hc
  · simp at hi
  · simp at hi
theorem fl0_winv {qs : List Int} {m : Nat} (hm : qs.length = m) (hq : ∀ x ∈ qs, 1040 ≤ x ∧ x ≤ 3000) : WInv (fl0 qs) [] m [] :=
  ⟨fl0_inv hm hq, fun w hw => absurd hw (by simp), fun i hi => rfl, fun A w B h => absurd h (by simp)⟩

theorem RR_eq {fl : FM} {qs : List Int} {m : Nat} (hm : qs.length = m) (hq : ∀ x ∈ qs, 1040 ≤ x ∧ x ≤ 3000) (h : ∀ i, i < m → (fl i).q = qs.getD i 0) (hm8 : m ≤ 8) : RR fl m = sumR (qs.take 8) := by
  rw [List.take_of_length_le (by omega)]
  have h1 : RR fl m = isum (qs.map round) := by
    unfold RR
    congr 1
    apply List.ext_getElem?
    intro i
    simp only [List.getElem?_map]
    rcases Nat.lt_or_ge i m with hi | hi
    · rw [List.getElem?_range hi, List.getElem?_eq_getElem (by omega)]
      simp only [Option.map_some]
      have h2 := h i hi
      rw [List.getD_eq_getElem?_getD, List.getElem?_eq_getElem (by omega)] at h2
      simp only [Option.getD_some] at h2
      have h3 := hq _ (List.getElem_mem (show i < qs.length by omega))
      unfold rnd round
      rw [h2]
      congr 2; omega
    · rw [List.getElem?_eq_none (by simpa using hi), List.getElem?_eq_none (by omega)]
      rfl
  rw [h1]
  have : ∀ (l : List Int) (s : Int), l.foldl (fun s x => s + round x) s = s + isum (l.map round) := by
    intro l
    induction l with
    | nil => intro s; simp
    | cons a l ih => intro s; simp only [List.foldl_cons, ih, List.map_cons, isum_cons]; omega
  unfold sumR
  rw [this]; omega

theorem isum_bd {l : List Int} (h : ∀ x ∈ l, 16 ≤ x ∧ x ≤ 1040) : 0 ≤ isum l ∧ isum l ≤ 1040 * l.length := by
  induction l with
  | nil => simp
  | cons a l ih =>
    have h1 := h a (by simp); have h2 := ih (fun x hx => h x (by simp [hx]))
    simp only [isum_cons, List.length_cons]; omega

/-- What holds at the head of each round. -/
structure Ok2 (m : Nat) (qs : List Int) (bs : List Nat) (k k2 : Nat) (c : Cfg) (fl : FM) (row : List Nat) (W : List Wt) : Prop where
  mem : Mem c fl row m
  win : WInv fl row m W
  wl : W.length ≤ k2
  q : ∀ i, i < m → (fl i).q = qs.getD i 0
  t : ∀ w ∈ W, 0 ≤ w.t ∧ w.t ≤ k
  cl : ∀ i, i < m → (fl i).cs.length ≤ 20
  bs : c.fs.map (·.b) = bs

theorem u64_nn (x : Int) : 0 ≤ IntKind.u64.wrap x := by
  unfold IntKind.wrap IntKind.bits IntKind.signed
  simp
  exact Int.emod_nonneg _ (by decide)

theorem pick_bd (x : Int) : ∃ P : Int, 0 ≤ P ∧ P < 16640 ∧ IntKind.i64.wrap ((IntKind.u64.wrap x).tmod 16640) = P := by
  have h1 := Int.tmod_nonneg 16640 (u64_nn x)
  have h2 := Int.tmod_lt_of_pos (IntKind.u64.wrap x) (show (0 : Int) < 16640 by decide)
  exact ⟨_, h1, h2, w64 (by omega) (by omega)⟩

theorem tmod_bd {a b : Int} (ha : 0 ≤ a) (hb : 0 < b) : 0 ≤ a.tmod b ∧ a.tmod b < b := ⟨Int.tmod_nonneg b ha, Int.tmod_lt_of_pos a hb⟩

theorem Ok2.push {m : Nat} {qs : List Int} {bs : List Nat} {k : Nat} {c : Cfg} {fl : FM} {row : List Nat} {W : List Wt} (h : Ok2 m qs bs k k c fl row W) {i : Nat} {f f1 : FS} {hr' : Value} {ps' : List Nat} {x : Int} (hi : i < m) (hf : c.fs[i]? = some f) (hb : f1.b = f.b) (hnum : f1.num = f.num) (hq : f1.q = f.q) (hre : f1.rests = f.rests)
    (hcase : (f.b ∈ c.ps ∧ ps' = c.ps ∧ f1.d = f.d ∧ f1.an = f.an) ∨ (f.b ∉ c.ps ∧ ps' = c.ps ++ [f.b] ∧ f1.d = 0 ∧ f1.an = true)) (hx : 16 ≤ x ∧ x ≤ 1040) (hl : (fl i).cs.length < 20) (hql : qs.length = m) (hqb : ∀ x ∈ qs, 1040 ≤ x ∧ x ≤ 3000) (hm : m ≤ 8) :
    Ok2 m qs bs k (k + 1) ⟨hr', ps', c.fs.set i f1, c.C.set i (csA f1 ((fl i).cs ++ [x]))⟩ (pushF fl i x) (pushR fl row i) (W ++ [⟨i, x, 0, most (isum ((fl i).cs ++ [x])) (qs.getD (i : Int).toNat default) qs⟩]) := by
  have hcs := h.win.cs i hi
  have hcost := isum_bd (h.win.inv.cost i hi)
  have hqi := h.q i hi
  have hqq := h.win.inv.q i hi
  have hgd : qs.getD (i : Int).toNat default = (fl i).q := by rw [hqi]; rfl
  refine ⟨h.mem.push h.win.inv hi hf hb hnum hq hre hcase, h.win.push hi hx ?_, ?_, fun j hj => ?_, fun w hw => ?_, fun j hj => ?_, set_map_b hf hb h.bs⟩
  · rw [← hcs, RR_eq hql hqb h.q hm, hgd]
    unfold most
    have e1 : isum ((fl i).cs ++ [x]) = isum (fl i).cs + x := by simp
    have h3 : ((fl i).cs.length : Int) ≤ 19 := by omega
    rw [e1, show max 0 (min (isum (fl i).cs + x) 1048576) = isum (fl i).cs + x by omega, show max 1 (min (fl i).q 1048576) = (fl i).q by omega]
    exact Int.le_refl _
  · have := h.wl; simp; omega
  · rw [← h.q j hj]; unfold pushF Go.Ring.upd; split <;> first | rfl | (subst_vars; exact joinX_q _ _)
  · rcases List.mem_append.1 hw with hw | hw
    · exact h.t w hw
    · simp only [List.mem_singleton] at hw; subst hw; exact ⟨Int.le_refl _, by show (0 : Int) ≤ k; omega⟩
  · by_cases e : j = i
    · subst e; simp [pushF, joinX_cs]; omega
    · unfold pushF; rw [upd_ne _ _ e]; exact h.cl j hj

/-- What waits, behind i rounds of the loop that tells of a turn more. -/
def incs (W : List Wt) (i : Nat) : List Wt := (W.take i).map inc ++ W.drop i
theorem incs_len (W : List Wt) (i : Nat) : (incs W i).length = W.length := by simp [incs]; omega
theorem incs_zero (W : List Wt) : incs W 0 = W := by simp [incs]
theorem incs_all (W : List Wt) : incs W W.length = W.map inc := by simp [incs]
theorem incs_getD (W : List Wt) (i : Nat) (hi : i < W.length) : (incs W i).getD i default = W[i] := by
  unfold incs
  rw [List.getD_eq_getElem?_getD, List.getElem?_append_right (by simp; omega)]
  simp [Nat.min_eq_left (Nat.le_of_lt hi), hi]
theorem incs_succ (W : List Wt) (i : Nat) (hi : i < W.length) : incs W (i + 1) = (incs W i).set i (inc W[i]) := by
  unfold incs
  rw [List.take_succ_eq_append_getElem hi, List.map_append, List.set_append_right _ _ (by simp; omega)]
  simp [Nat.min_eq_left (Nat.le_of_lt hi)]
  rw [List.drop_eq_getElem_cons hi, List.set_cons_zero]

theorem incs_getD2 (W : List Wt) (i : Nat) (hi : i < W.length) : (incs W (i + 1)).getD i default = inc W[i] := by
  rw [incs_succ W i hi, List.getD_eq_getElem?_getD, List.getElem?_set, if_pos rfl, if_pos (by rw [incs_len]; omega)]; rfl

theorem Ok2.turn {m : Nat} {qs : List Int} {bs : List Nat} {k : Nat} {c c' : Cfg} {fl fl1 : FM} {row gs : List Nat} {W A B : List Wt} {w0 : Wt} {f : Nat} {c0 : Int} {cs : List Int} (h : Ok2 m qs bs k (k + 1) c fl row W) (hR : Reach fl row fl1 (f :: gs)) (hc : (fl1 f).cs = c0 :: cs) (hW : WInv (srvF fl1 f c0 cs) (srvR f gs cs) m ((A ++ B).map inc)) (e : W = A ++ w0 :: B)
    (hM : Mem c' (srvF fl1 f c0 cs) (srvR f gs cs) m) (hB : c'.fs.map (·.b) = bs) : Ok2 m qs bs (k + 1) (k + 1) c' (srvF fl1 f c0 cs) (srvR f gs cs) ((A ++ B).map inc) := by
  have hfl : ∀ j, (fl1 j).q = (fl j).q ∧ (fl1 j).cs = (fl j).cs := by
    intro j
    rcases hR with ⟨rfl, _⟩ | ⟨g, gs0, c1, cs1, _, _, rfl, _⟩
    · exact ⟨rfl, rfl⟩
    · unfold rotF Go.Ring.upd; split <;> first | exact ⟨rfl, rfl⟩ | (subst_vars; exact ⟨rfl, rfl⟩)
  refine ⟨hM, hW, ?_, fun j hj => ?_, fun w hw => ?_, fun j hj => ?_, hB⟩
  · have := h.wl; rw [e] at this; simp at this ⊢; omega
  · rw [← h.q j hj, ← (hfl j).1]; unfold srvF Go.Ring.upd srvX; split <;> first | rfl | (subst_vars; rfl)
  · obtain ⟨x, hx, rfl⟩ := List.mem_map.1 hw
    have := h.t x (by rw [e]; rcases List.mem_append.1 hx with h | h <;> simp [h])
    simp only [inc]; omega
  · have := h.cl j hj
    by_cases ej : j = f
    · subst ej
      rw [← (hfl j).2, hc] at this
      simp [srvF, srvX] at this ⊢; omega
    · unfold srvF; rw [upd_ne _ _ ej, (hfl j).2]; exact this
end Go.Proofs
