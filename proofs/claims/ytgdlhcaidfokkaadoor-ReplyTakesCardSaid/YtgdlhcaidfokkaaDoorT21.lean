/- Contracts at the door seat, part one: utf. -/
import Derived.Test.YtgdlhcaidfokkaaDoorTbd
import Derived.Test.YtgdlhcaidfokkaaDoorU1
import Derived.Shelf.Unicode.DecodeAny
set_option linter.unusedSimpArgs false
set_option linter.unusedVariables false
namespace Go.Proofs
open Go.Sy Go.Lib
theorem Tryd.wide_ : Tryd.prog.follows .mixedOrders = true := by kernel_rfl

theorem FnB.ofCalls {P : Program} {Gb : IM} {f : FuncId} {avs : List AV} {vs : List Value} {x : AV} {v : Value} (hc : Callable P f) (ha : flatL avs = some vs) (hxi : ∀ G, RepI G x v)
    (h : ∀ w, ImOK Gb w → Calls P f vs.toArray w fun e w' => e = .returned v ∧ RowKit.Below w.heap.size w w') : FnB P Gb f avs (· = x) := by
  refine ⟨hc, fun G w cargs hGb him hr => ?_⟩
  rw [flatL_sound ha hr]
  refine (h w (fun b o u hu => him b o u (hGb b o u hu))).mono ?_
  rintro e w' ⟨rfl, hb⟩
  exact ⟨x, v, G, rfl, rfl, hxi G, IM.le_refl _, fun b o u hu => .inl hu, fun b o u hu => by
    have h1 := him b o u hu
    have h2 := Go.block_lt_of_cell h1
    simp only [World.cell?] at h1 ⊢
    rw [hb.block b h2]
    exact h1, hb⟩

theorem get_mk (l : List UInt8) (i : Nat) : ((ByteArray.mk l.toArray).get! i).toNat = by_ l i := by
  unfold by_
  rw [show (ByteArray.mk l.toArray).get! i = l.toArray[i]! from rfl]
  congr 1
  rw [List.getD_eq_getElem?_getD]
  simp [Array.getElem!_eq_getD, Array.getD_eq_getD_getElem?]
  rfl
theorem by_drop (l : List UInt8) (p i : Nat) : by_ (l.drop p) i = by_ l (p + i) := by
  unfold by_; rw [List.getD_eq_getElem?_getD, List.getD_eq_getElem?_getD, List.getElem?_drop]
theorem dec_rn (l : List UInt8) (p : Nat) : Utf8.decode ⟨l.toArray⟩ p = rn (l.drop p) := by
  rw [decode_at, get_mk, get_mk, get_mk, get_mk, rn, by_drop, by_drop, by_drop, by_drop, List.length_drop, Go.Sy.len_S]
  rfl
theorem rn_pos (l : List UInt8) : 1 ≤ (rn l).2 := by
  unfold rn decodeN
  repeat' split
  all_goals simp only [] <;> omega
theorem wd_of_ne {l : List UInt8} (h : (rn l).1 ≠ 65533) : wd l = (rn l).2 := by
  unfold wd wdN; rw [if_neg (by omega)]
theorem wd_of_two {l : List UInt8} (h : ¬ (rn l).2 < 2) : wd l = (rn l).2 := by
  unfold wd wdN; rw [if_neg (by omega)]
theorem wd_of_bad {l : List UInt8} (h : (rn l).1 = 65533) (h2 : (rn l).2 < 2) : wd l = 0 := by
  unfold wd wdN; rw [if_pos ⟨h, h2⟩]

/-- The two tables of utf8, as their initialisers lay them. -/
def utfG : IM := fun b o =>
  if b = 0 then (if o < 256 then some (.int .u8 (firstT o)) else none)
  else if b = 1 then (if o < 32 then (if o % 2 = 0 then some (.int .u8 (accLo (o / 2))) else some (.int .u8 (accHi (o / 2)))) else none)
  else none
theorem utfG_tabs {w : World} (h : ImOK utfG w) : Lib.Utf8Tabs 0 1 w := by
  refine ⟨fun c hc => h 0 c _ (by simp [utfG, hc]), fun i hi => ⟨?_, ?_⟩⟩
  · refine h 1 (2 * i) _ ?_
    simp [utfG, show 2 * i < 32 by omega, show 2 * i % 2 = 0 by omega, show 2 * i / 2 = i by omega]
  · refine h 1 (2 * i + 1) _ ?_
    simp [utfG, show 2 * i + 1 < 32 by omega, show (2 * i + 1) % 2 = 1 by omega, show (2 * i + 1) / 2 = i by omega]
theorem utfG_of {w : World} (h : Lib.Utf8Tabs 0 1 w) : ImOK utfG w := by
  intro b o v hv
  unfold utfG at hv
  split at hv
  · subst b
    split at hv
    · rename_i ho
      cases hv
      exact h.1 o ho
    · cases hv
  · split at hv
    · subst b
      split at hv
      · rename_i ho
        have := h.2 (o / 2) (by omega)
        split at hv
        · rename_i he
          cases hv
          rw [show 2 * (o / 2) = o by omega] at this
          exact this.1
        · rename_i he
          cases hv
          rw [show 2 * (o / 2) + 1 = o by omega] at this
          exact this.2
      · cases hv
    · cases hv

theorem Decode_p (hD : ∀ (s : ByteArray) (w : World), Lib.Utf8Tabs 0 1 w → Calls Tryd.prog 31 #[.string s] w fun e w' => e = .returned (.tuple #[.int .i32 (Lib.decodeGo s).1, .int .i64 (Lib.decodeGo s).2]) ∧ RowKit.Below w.heap.size w w')
    (l : List UInt8) (hl : l ≠ []) : FnB Tryd.prog utfG 31 [.s l] (· = .tup [.v (.int .i32 (rn l).1), I64 (rn l).2]) := by
  refine FnB.ofCalls (vs := [S l]) (v := .tuple #[.int .i32 (rn l).1, .int .i64 (rn l).2]) ⟨_, Tryd.func31, rfl, by decide⟩ rfl (fun G => by simp [RepI, RepIT]) (fun w hw => ?_)
  have h1 := hD ⟨l.toArray⟩ w (utfG_tabs hw)
  have h2 : Lib.decodeGo ⟨l.toArray⟩ = rn l := by
    unfold Lib.decodeGo
    rw [if_neg (by rw [Go.Sy.len_S]; exact fun h => hl (List.eq_nil_of_length_eq_zero h)), dec_rn]
    rfl
  rw [h2] at h1
  exact h1

theorem Bad_p (hD : ∀ l : List UInt8, l ≠ [] → FnB Tryd.prog utfG 31 [.s l] (· = .tup [.v (.int .i32 (rn l).1), I64 (rn l).2])) (l : List UInt8) (hl : l.length ≤ 9223372036854775807) : FnB Tryd.prog utfG 11 [.s l] (· = I64 (badL l)) := by
  refine FnB.intro Tryd.tabOK Tryd.wide_ Tryd.func11 rfl (by decide) rfl (fun X hX => ?_)
  repeat (first | refine sc rfl ?_ | refine so rfl ?_ | refine sb rfl ?_)
  refine O_range rfl rfl rfl rfl rfl rfl rfl ?_
  repeat (first | refine sc rfl ?_ | refine so rfl ?_ | refine sb rfl ?_)
  refine C_loop (fun p : Nat => ⟨[(0, .s l), (8, .bp 8 0)], [.obj 8 (.stringIter ⟨l.toArray⟩ p)]⟩) (fun p => p ≤ l.length ∧ scan (l.drop p) p = badL l) (fun p => l.length - p) 0 ⟨by omega, rfl⟩ (Le.sub [8] ⟨rfl, rfl, trivial⟩ rfl) (fun p hp => ?_)
  repeat (first | refine sc rfl ?_ | refine so rfl ?_ | refine sb rfl ?_)
  refine O_next rfl rfl rfl rfl (fun h => ?_) (fun h => ?_)
  · rw [dec_rn]
    have hne : l.drop p ≠ [] := fun he => by
      have := congrArg List.length he
      simp at this; omega
    have h1 := rn_pos (l.drop p)
    have h2 := wd_len (l.drop p) hne
    rw [List.length_drop] at h2
    repeat (first | refine sc rfl ?_ | refine so rfl ?_ | refine sb rfl ?_)
    refine C_true rfl rfl ?_
    repeat (first | refine sc rfl ?_ | refine so rfl ?_ | refine sb rfl ?_)
    refine C_if rfl (fun hc => ?_) (fun hc => ?_)
    · have hc' : (rn (l.drop p)).1 ≠ 65533 := by simp at hc; omega
      have hw := wd_of_ne hc'
      repeat (first | refine sc rfl ?_ | refine so rfl ?_ | refine sb rfl ?_)
      refine ⟨p + (rn (l.drop p)).2, ⟨by omega, ?_⟩, by omega, Le.sub [8] ⟨rfl, rfl, trivial⟩ rfl⟩
      rw [← hp.2, scan_step hne (by omega), hw, List.drop_drop]
    · have hc' : (rn (l.drop p)).1 = 65533 := by simp at hc; omega
      repeat (first | refine sc rfl ?_ | refine so rfl ?_ | refine sb rfl ?_ | refine ⟨by omega, ?_⟩)
      refine O_callB hX (hD (l.drop p) hne) (by rfl) (by rfl) (by rfl) (by rfl) (fun r hr => ?_)
      subst hr
      repeat (first | refine sc rfl ?_ | refine so rfl ?_ | refine sb rfl ?_)
      refine C_if rfl (fun hd => ?_) (fun hd => ?_) <;> simp only [decide_eq_true_eq, decide_eq_false_iff_not] at hd
      · repeat (first | refine sc rfl ?_ | refine so rfl ?_ | refine sb rfl ?_)
        refine ⟨_, rfl, rfl, ?_⟩
        rw [← hp.2, scan_bad hne (wd_of_bad hc' (by omega))]
      · have hw := wd_of_two (l := l.drop p) (by omega)
        repeat (first | refine sc rfl ?_ | refine so rfl ?_ | refine sb rfl ?_)
        refine ⟨p + (rn (l.drop p)).2, ⟨by omega, ?_⟩, by omega, Le.sub [8] ⟨rfl, rfl, trivial⟩ rfl⟩
        rw [← hp.2, scan_step hne (by omega), hw, List.drop_drop]
  · repeat (first | refine sc rfl ?_ | refine so rfl ?_ | refine sb rfl ?_)
    refine C_false rfl rfl ?_
    repeat (first | refine sc rfl ?_ | refine so rfl ?_ | refine sb rfl ?_)
    refine ⟨_, rfl, rfl, ?_⟩
    rw [← hp.2, show l.drop p = [] from List.drop_eq_nil_of_le (by omega)]
    rfl
end Go.Proofs
