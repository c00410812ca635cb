/- strings.Builder at this seat's numbers, with the exact frame: what each call leaves as it was. Turned from the worked proofs of the shelf. -/
import Derived.Shelf.Strings.Builder1
import Derived.Test.YtgdlhcaidfokkaaProg
import Derived.Test.YtgdlhcaidfokkaaSA
set_option linter.unusedVariables false
set_option linter.unusedSimpArgs false
namespace Go.Proofs
open Go.RowKit

def Kept (S : Nat → Prop) (w w' : World) : Prop :=
  w'.os = w.os ∧ w'.tape = w.tape ∧ w'.output = w.output ∧ w.heap.size ≤ w'.heap.size ∧ ∀ k, k < w.heap.size → ¬ S k → w'.heap[k]? = w.heap[k]?

theorem Kept.trans {S : Nat → Prop} {a b c : World} (h : Kept S a b) (k : Kept S b c) : Kept S a c :=
  ⟨k.1.trans h.1, k.2.1.trans h.2.1, k.2.2.1.trans h.2.2.1, Nat.le_trans h.2.2.2.1 k.2.2.2.1, fun i hi hS => (k.2.2.2.2 i (Nat.lt_of_lt_of_le hi h.2.2.2.1) hS).trans (h.2.2.2.2 i hi hS)⟩
theorem Kept.refl (S : Nat → Prop) (w : World) : Kept S w w := ⟨rfl, rfl, rfl, Nat.le_refl _, fun _ _ _ => rfl⟩
theorem Kept.set {S : Nat → Prop} {w : World} {b o : Nat} {v : Value} (hb : S b) : Kept S w (w.setCell ⟨b, o, none⟩ v) :=
  ⟨rfl, rfl, rfl, by simp [World.setCell], fun k _ hk => Below.heap_setCell _ _ _ _ (fun e => hk (by subst e; exact hb))⟩

set_option maxHeartbeats 1000000 in
set_option maxRecDepth 100000 in
theorem Try.copyCheck_used (b : Nat) (w : World) (h0 : w.cell? ⟨b, 0, none⟩ = some (.pointer (some ⟨b, 0, none⟩))) :
    Calls Try.prog 126 #[.pointer (some ⟨b, 0, none⟩)] w fun e w' => e = .returned (.tuple #[]) ∧ w' = w := by
  have mixed : Try.prog.follows .mixedOrders = true := by kernel_rfl
  have t72 := Try.underlying171; have a72 := Try.isAgg171; have z72 := Try.sizeOf171; have v72 := Try.zeroValue171
  have t70 := Try.underlying169; have a70 := Try.isAgg169; have z70 := Try.sizeOf169; have v70 := Try.zeroValue169
  obtain ⟨j, hj⟩ : ∃ j, Try.prog.info? 171 = some j := by
    cases h : Try.prog.info? 171 with
    | some j => exact ⟨j, rfl⟩
    | none => exact absurd (show (Try.prog.info? 171).isSome = true by kernel_rfl) (by simp [h])
  go_enter Try.func126, Try.ntmps126
  go_wp2
  rw [Lib.run_neq_ptr_same w _ t70 hj]
  go_wp2
  go_end0
  exact ⟨rfl, rfl⟩

theorem Try.infoB : ∃ j, Try.prog.info? 171 = some j ∧ j.size = 2 := by
  have h : (Try.prog.info? 171).map (·.size) = some 2 := by kernel_rfl
  obtain ⟨j, hj, hs⟩ := Option.map_eq_some_iff.1 h
  exact ⟨j, hj, hs⟩

set_option maxHeartbeats 1000000 in
set_option maxRecDepth 100000 in
theorem Try.copyCheck_fresh (b : Nat) (w : World) (h0 : w.cell? ⟨b, 0, none⟩ = some (.pointer none)) (hsh : w.shape? b = some (171, 2)) (hfz : w.frozen? ⟨b, 0, none⟩ = false) :
    Calls Try.prog 126 #[.pointer (some ⟨b, 0, none⟩)] w fun e w' => e = .returned (.tuple #[]) ∧ w' = w.setCell ⟨b, 0, none⟩ (.pointer (some ⟨b, 0, none⟩)) := by
  have mixed : Try.prog.follows .mixedOrders = true := by kernel_rfl
  have t72 := Try.underlying171; have a72 := Try.isAgg171; have z72 := Try.sizeOf171; have v72 := Try.zeroValue171
  have t70 := Try.underlying169; have a70 := Try.isAgg169; have z70 := Try.sizeOf169; have v70 := Try.zeroValue169
  have t164 := Try.underlying239; have a164 := Try.isAgg239; have z164 := Try.sizeOf239; have v164 := Try.zeroValue239
  obtain ⟨j, hj, hjs⟩ := Try.infoB
  go_enter Try.func126, Try.ntmps126
  go_wp2
  rw [Lib.run_to_unsafe w ⟨b, 0, none⟩ t70 t164 hj (by rw [hjs]; decide) hsh (Nat.zero_lt_succ 1)]
  simp only [Result.andThen]
  rw [Oper.upon_value]
  go_wp2
  rw [run_callFunc_extern Try.func148 (by kernel_rfl) (by kernel_rfl) (by kernel_rfl) (e := Extern.AbiNoEscape.same) (by kernel_rfl)]
  rw [Lib.run_noEscape]
  simp only [Result.andThen]
  rw [Oper.upon_value]
  go_wp2
  rw [Lib.run_from_unsafe w ⟨b, 0, none⟩ t164 t70 hj hsh (by kernel_rfl)]
  simp only [Result.andThen]
  rw [Oper.upon_value]
  go_wp2
  go_end0
  exact ⟨rfl, rfl⟩

theorem Try.copyCheck_x (b : Nat) (p v : Value) (w : World) (hp : p = .pointer none ∨ p = .pointer (some ⟨b, 0, none⟩)) (hb : w.heap[b]? = some (.cells #[p, v] 171 (0, 0))) :
    Calls Try.prog 126 #[.pointer (some ⟨b, 0, none⟩)] w fun e w' => e = .returned (.tuple #[]) ∧ w'.heap[b]? = some (.cells #[.pointer (some ⟨b, 0, none⟩), v] 171 (0, 0)) ∧ Kept (· = b) w w' := by
  rcases hp with rfl | rfl
  · refine (Try.copyCheck_fresh b w (by rw [Lib.cell_of_heap hb]; rfl) (by simp [World.shape?, hb]) (by simp [World.frozen?, hb])).mono ?_
    rintro e w' ⟨rfl, rfl⟩
    refine ⟨rfl, ?_, Kept.set rfl⟩
    simp [World.setCell, Array.getElem?_modify, hb]
  · refine (Try.copyCheck_used b w (by rw [Lib.cell_of_heap hb]; rfl)).mono ?_
    rintro e w' ⟨rfl, rfl⟩
    exact ⟨rfl, hb, Kept.refl _ _⟩


theorem append_str_block {P : Program} {w : World} (t u ty e : TypeId) (i : TypeInfo) (ht : P.underlying t = some (.slice e)) (hu : P.underlying u = some .string) (hi : P.info? e = some i) (hz : i.zero = some (.int .u8 0))
    (hsize : i.size = 1) (hby : i.bytes = 1) (v : Value) (n : Nat) (xs : List Value) (hown : w.ownsRow 0 e 1 v n xs) (s : ByteArray) (h63 : n + s.size ≤ maxLen) (hbytes : n + s.size ≤ 140737488355328)
    {v' : Value} {w' : World} (hr : (Builtin.append_ #[t, u] ty #[v, .string s]).run P w = .ok v' w') : ∀ k, v'.ownBlock = some k → v.ownBlock = some k ∨ w.heap.size ≤ k := by
  have hsmall : n + s.size ≤ 9223372036854775807 := by simp only [maxLen] at h63; omega
  have hxl : xs.length = n := by simpa using hown.1
  rcases hown.2 with ⟨rfl, rfl⟩ | ⟨g, cap, cur, rfl, hbg, hg, hnc, hcm, hcs, htake⟩
  · have hx : xs = [] := List.eq_nil_of_length_eq_zero hxl
    subst hx
    obtain ⟨v2, w2, h1, h2, _, _⟩ := Lib.run_append_own_string (P := P) w w.heap.size t u ty e i ht hu hi hz hsize hby (.slice none 0 0) 0 [] (World.ownsRow_nil w _ e 1) s h63 hbytes (Nat.le_refl _)
    rw [h1] at hr
    simp only [Result.ok.injEq] at hr
    obtain ⟨rfl, _⟩ := hr
    intro k hk
    rcases h2.2 with ⟨hn, _⟩ | ⟨g, cap, cur, hv, hb, _⟩
    · rw [hn] at hk; cases hk
    · rw [hv] at hk
      simp only [Value.ownBlock, Option.some.injEq] at hk
      exact .inr (by omega)
  · have hcs' : cur.size = cap := by simpa using hcs
    by_cases hroom : n + s.size ≤ cap
    · have h1 := Lib.run_append_room_string (P := P) w t u ty e i ht hu hi hsize g n cap cur hg s hroom (by omega)
      rw [h1] at hr
      simp only [Result.ok.injEq] at hr
      obtain ⟨rfl, _⟩ := hr
      exact fun k hk => .inl hk
    · have holds : ∀ j u, xs[j]? = some u → w.cell? ((⟨g, 0, none⟩ : Addr).add j) = some u := hown.cells (g := g) rfl
      have h1 := Lib.run_append_grow_string (P := P) w t u ty e i (.int .u8 0) ht hu hi hz ⟨g, 0, none⟩ n cap xs (by rw [hsize]; simpa using hxl) holds s (by omega) (by omega) (by rw [hby]; exact growslice_fits (by omega) (by omega))
      rw [h1] at hr
      simp only [Result.ok.injEq] at hr
      obtain ⟨rfl, _⟩ := hr
      intro k hk
      simp only [Value.ownBlock, Option.some.injEq] at hk
      exact .inr (by omega)

theorem wpList_append_str {P : Program} {w : World} {ops : Array Oper} {rest : List Oper} {o : Oper} {a : Act} {Q : Exit → Act → World → Prop} (hgd : o.guard = none) (sl x : Operand) (t u : TypeId)
    (ho : o.op = .call { callee := .builtin .append, args := #[sl, x], argTypes := #[t, u] })
    (e : TypeId) (i : TypeInfo) (ht : P.underlying t = some (.slice e)) (hu : P.underlying u = some .string) (hi : P.info? e = some i) (hz : i.zero = some (.int .u8 0))
    (hsize : i.size = 1) (hby : i.bytes = 1)
    (v : Value) (n : Nat) (xs : List Value) (hs : a.eval sl = v) (hown : w.ownsRow 0 e 1 v n xs) (s : ByteArray) (hx : a.eval x = .string s)
    (h63 : n + s.size ≤ maxLen) (hbytes : n + s.size ≤ 140737488355328)
    (h : ∀ v' w', w'.ownsRow 0 e 1 v' (n + s.size) (xs ++ Lib.strCells s) → w.grownBy w' v.ownBlock → (∀ k, v'.ownBlock = some k → v.ownBlock = some k ∨ w.heap.size ≤ k) → wpList P ops Q rest (a.put o.dst v') w') : wpList P ops Q (o :: rest) a w := by
  refine wpList_plain hgd fun K hK => ?_
  obtain ⟨v', w', hr, h2, h3, h4⟩ := Lib.run_append_own_string (P := P) w 0 t u o.type e i ht hu hi hz hsize hby v n xs hown s h63 hbytes (Nat.zero_le _)
  have h5 := append_str_block t u o.type e i ht hu hi hz hsize hby v n xs hown s h63 hbytes hr
  unfold Oper.wp execOp
  simp only [ho, resolve, invoke, builtin, Sem.run_bind, Sem.run_pure, Result.andThen_ok, List.map_toArray, List.map_cons, List.map_nil, hs, hx, hr]
  exact hK _ _ (h v' w' h2 h3 h5)

set_option maxHeartbeats 2000000 in
set_option maxRecDepth 100000 in
theorem Try.WriteString_x (b : Nat) (p v : Value) (bs : List Value) (s : ByteArray) (w : World) (hp : p = .pointer none ∨ p = .pointer (some ⟨b, 0, none⟩)) (hb : w.heap[b]? = some (.cells #[p, v] 171 (0, 0)))
    (hown : w.ownsRow 0 5 1 v bs.length bs) (hne : v.ownBlock ≠ some b) (hlen : bs.length + s.size ≤ 140737488355328) :
    Calls Try.prog 98 #[.pointer (some ⟨b, 0, none⟩), .string s] w fun e w' => e = .returned (.tuple #[.int .i64 s.size, .nilIface]) ∧
      ∃ v', w'.heap[b]? = some (.cells #[.pointer (some ⟨b, 0, none⟩), v'] 171 (0, 0)) ∧ w'.ownsRow 0 5 1 v' (bs.length + s.size) (bs ++ Lib.strCells s) ∧ v'.ownBlock ≠ some b ∧
        (∀ k, v'.ownBlock = some k → v.ownBlock = some k ∨ w.heap.size ≤ k) ∧ Kept (fun k => k = b ∨ v.ownBlock = some k) w w' := by
  have mixed : Try.prog.follows .mixedOrders = true := by kernel_rfl
  have t72 := Try.underlying171; have a72 := Try.isAgg171; have z72 := Try.sizeOf171; have v72 := Try.zeroValue171
  have t70 := Try.underlying169; have a70 := Try.isAgg169; have z70 := Try.sizeOf169; have v70 := Try.zeroValue169
  have t37 := Try.underlying139; have a37 := Try.isAgg139; have z37 := Try.sizeOf139; have v37 := Try.zeroValue139
  have t3 := Try.underlying3; have a3 := Try.isAgg3; have z3 := Try.sizeOf3; have v3 := Try.zeroValue3
  have t9 := Try.underlying9; have a9 := Try.isAgg9; have z9 := Try.sizeOf9; have v9 := Try.zeroValue9
  have t5 := Try.underlying5; have a5 := Try.isAgg5; have z5 := Try.sizeOf5; have v5 := Try.zeroValue5
  obtain ⟨i0, hi, hz0, hz1, hz2⟩ : ∃ i, Try.prog.info? 5 = some i ∧ i.size = 1 ∧ i.bytes = 1 ∧ i.zero = some (.int .u8 0) := by
    obtain ⟨i, hi, hx⟩ := Option.map_eq_some_iff.1 (show (Try.prog.info? 5).map (fun i => decide (i.size = 1 ∧ i.bytes = 1) && (match i.zero with | some (.int .u8 0) => true | _ => false)) = some true by kernel_rfl)
    simp only [Bool.and_eq_true, decide_eq_true_eq] at hx
    refine ⟨i, hi, hx.1.1, hx.1.2, ?_⟩
    have := hx.2
    split at this
    · assumption
    · cases this
  have e240 : ∀ args w, (callFunc 126 args).run Try.prog w = .ok (.enter 126 args) w := enters_of Try.func126 (by kernel_rfl) rfl
  go_enter Try.func98, Try.ntmps98
  go_wp2_with (go_at_fn 126; refine (Try.copyCheck_x b p v _ hp hb).mono ?_)
  rintro e w1 ⟨rfl, hbk, hk1⟩
  have hown1 : w1.ownsRow 0 5 1 v bs.length bs := by
    refine ⟨hown.1, ?_⟩
    rcases hown.2 with hn | ⟨g, cap, cur, rfl, hbb, hg, rest⟩
    · exact .inl hn
    · refine .inr ⟨g, cap, cur, rfl, hbb, ?_, rest⟩
      rw [hk1.2.2.2.2 g (by
        rcases Nat.lt_or_ge g w.heap.size with h | h
        · exact h
        · rw [Array.getElem?_eq_none h] at hg; cases hg) (fun h => hne (by subst h; rfl))]
      exact hg
  have c0 : w1.cell? ⟨b, 0, none⟩ = some (.pointer (some ⟨b, 0, none⟩)) := by rw [Lib.cell_of_heap hbk]; rfl
  have c1 : w1.cell? ⟨b, 1, none⟩ = some v := by rw [Lib.cell_of_heap hbk]; rfl
  go_wp2_with (at_builtin; refine wpList_append_str rfl _ _ 139 9 rfl 5 i0 t37 t9 hi hz2 hz0 hz1 _ _ _ rfl hown1 s rfl ?c3 ?c4 ?_)
  case c3 => unfold maxLen; omega
  case c4 => omega
  intro v' w2 hown' hgrow hblk
  have hlt : b < w1.heap.size := by
    rcases Nat.lt_or_ge b w1.heap.size with h' | h'
    · exact h'
    · simp [Array.getElem?_eq_none h'] at hbk
  have hb2 : w2.heap[b]? = some (.cells #[.pointer (some ⟨b, 0, none⟩), v] 171 (0, 0)) := by
    rw [hgrow.block b hlt (fun e => hne e.symm)]
    exact hbk
  have d0 : w2.cell? ⟨b, 0, none⟩ = some (.pointer (some ⟨b, 0, none⟩)) := by rw [Lib.cell_of_heap hb2]; rfl
  have d1 : w2.cell? ⟨b, 1, none⟩ = some v := by rw [Lib.cell_of_heap hb2]; rfl
  have f1 : w2.frozen? ⟨b, 1, none⟩ = false := Lib.frozen_of_heap hb2 1
  obtain ⟨ao, n', cap, rfl⟩ : ∃ ao n' cap, v' = .slice ao n' cap := by
    rcases hown'.2 with ⟨hv, _⟩ | ⟨g, cap, cur, hv, _⟩
    · exact ⟨_, _, _, hv⟩
    · exact ⟨_, _, _, hv⟩
  go_wp2
  go_ret2
  have hne' : (Value.slice ao n' cap).ownBlock ≠ some b := Lib.ownBlock_ne hown' hb2 (by decide)
  have hset : ∀ k, k ≠ b → (w2.setCell ⟨b, 1, none⟩ (.slice ao n' cap)).heap[k]? = w2.heap[k]? := fun k hk => Below.heap_setCell _ _ _ _ (fun e => hk e)
  refine ⟨rfl, .slice ao n' cap, ?_, ?_, hne', ?_, ?_⟩
  · simp [World.setCell, Array.getElem?_modify, hb2]
  · refine ⟨hown'.1, ?_⟩
    rcases hown'.2 with hn | ⟨g, cap', cur, hv, hbb, hg, rest⟩
    · exact .inl hn
    · refine .inr ⟨g, cap', cur, hv, hbb, ?_, rest⟩
      rw [hset g (fun he => hne' (by rw [hv]; subst he; rfl))]
      exact hg
  · intro k hk
    rcases hblk k hk with h | h
    · exact .inl h
    · exact .inr (Nat.le_trans hk1.2.2.2.1 h)
  · refine ⟨hgrow.os.trans hk1.1, hgrow.tape.trans hk1.2.1, hgrow.output.trans hk1.2.2.1, ?_, fun k hk hS => ?_⟩
    · have := hgrow.size
      have := hk1.2.2.2.1
      simp [World.setCell]; omega
    · have h1 : k ≠ b := fun h => hS (.inl h)
      have h2 : some k ≠ v.ownBlock := fun h => hS (.inr h.symm)
      rw [hset k h1, hgrow.block k (Nat.lt_of_lt_of_le hk hk1.2.2.2.1) h2]
      exact hk1.2.2.2.2 k hk h1
end Go.Proofs

/- strings.Builder: String, with the exact frame. Turned from the worked proofs of the shelf. -/
set_option linter.unusedVariables false
set_option linter.unusedSimpArgs false
namespace Go.Proofs
open Go.RowKit

theorem Kept.drew {S : Nat → Prop} {w w' : World} (h : Kept S w w') : Kept S w w'.drew := h
theorem Kept.freeze {w : World} {g n : Nat} : Kept (· = g) w (w.drew.freeze ⟨g, 0, none⟩ n) := by
  unfold World.freeze
  split
  · exact Kept.refl _ _
  · refine ⟨rfl, rfl, rfl, ?_, fun k hk hS => ?_⟩
    · show w.heap.size ≤ (w.heap.modify _ _).size
      simp
    · show (w.heap.modify g _)[k]? = w.heap[k]?
      simp [Array.getElem?_modify, Ne.symm hS]
theorem Kept.alloc {S : Nat → Prop} {w : World} (o : Obj) : Kept S w (w.alloc o) :=
  ⟨rfl, rfl, rfl, by simp, fun k hk _ => Go.heap_alloc_old w o hk⟩

set_option maxHeartbeats 2000000 in
set_option maxRecDepth 100000 in
theorem Try.String_x (b g cap : Nat) (p : Value) (cur : Array Value) (l : List UInt8) (w : World) (h0 : l ≠ []) (hbk : w.heap[b]? = some (.cells #[p, .slice (some ⟨g, 0, none⟩) l.length cap] 171 (0, 0)))
    (hg : w.heap[g]? = some (.cells cur 5 (0, 0))) (hnc : l.length ≤ cap) (hcm : cap ≤ maxLen) (hcs : cur.size = cap * 1) (htake : cur.toList.take (l.length * 1) = Lib.byteCells l) :
    Calls Try.prog 99 #[.pointer (some ⟨b, 0, none⟩)] w fun e w' => e = .returned (.string ⟨l.toArray⟩) ∧ Kept (· = g) w w' := by
  have hl0 : l.length ≠ 0 := by simpa using h0
  have hown : w.ownsRow 0 5 1 (.slice (some ⟨g, 0, none⟩) l.length cap) l.length (Lib.byteCells l) := ⟨by simp [Lib.byteCells_length], .inr ⟨g, cap, cur, rfl, Nat.zero_le _, hg, hnc, hcm, hcs, htake⟩⟩
  have c1 : w.drew.cell? ⟨b, 1, none⟩ = some (.slice (some ⟨g, 0, none⟩) l.length cap) := by
    have : w.drew.heap[b]? = some (.cells #[p, .slice (some ⟨g, 0, none⟩) l.length cap] 171 (0, 0)) := hbk
    rw [Lib.cell_of_heap this]; rfl
  have hSD : (Builtin.unsafeSliceData_ #[139] 210 #[.slice (some ⟨g, 0, none⟩) l.length cap]).run Try.prog w.drew = .ok (.pointer (some ⟨g, 0, none⟩)) w.drew :=
    Lib.run_unsafeSliceData_row _ _ _ _ _ _ (by omega)
  have hUS : (Builtin.unsafeString_ #[210, 3] 9 #[.pointer (some ⟨g, 0, none⟩), .int .i64 l.length]).run Try.prog w.drew = .ok (.string ⟨l.toArray⟩) (w.drew.freeze ⟨g, 0, none⟩ l.length) := by
    refine Lib.run_unsafeString_row w.drew 210 3 9 5 Try.underlying210 (by kernel_rfl) g cur.size (by have hg' : w.drew.heap[g]? = some (.cells cur 5 (0, 0)) := hg; simp [World.shape?, hg']) l h0 (by omega) (by unfold maxLen at hcm; omega) ?_
    intro j x hx
    have := hown.cells (g := g) rfl j (.int .u8 x.toNat) (by simp [Lib.byteCells, hx])
    exact this
  have mixed : Try.prog.follows .mixedOrders = true := by kernel_rfl
  have t72 := Try.underlying171; have a72 := Try.isAgg171; have z72 := Try.sizeOf171; have v72 := Try.zeroValue171
  have t70 := Try.underlying169; have a70 := Try.isAgg169; have z70 := Try.sizeOf169; have v70 := Try.zeroValue169
  have t37 := Try.underlying139; have a37 := Try.isAgg139; have z37 := Try.sizeOf139; have v37 := Try.zeroValue139
  have t127 := Try.underlying210; have a127 := Try.isAgg210; have z127 := Try.sizeOf210; have v127 := Try.zeroValue210
  have t3 := Try.underlying3; have a3 := Try.isAgg3; have z3 := Try.sizeOf3; have v3 := Try.zeroValue3
  have t9 := Try.underlying9; have a9 := Try.isAgg9; have z9 := Try.sizeOf9; have v9 := Try.zeroValue9
  have t5 := Try.underlying5; have a5 := Try.isAgg5; have z5 := Try.sizeOf5; have v5 := Try.zeroValue5
  clear hown htake hcs hg
  go_enter Try.func99, Try.ntmps99
  go_wp2
  go_region_o
  all_goals (go_wp2; go_ret; exact ⟨rfl, Kept.freeze⟩)

theorem Try.unsafeString_none (W : World) (q : Option Addr) : (Builtin.unsafeString_ #[210, 3] 9 #[.pointer q, .int .i64 0]).run Try.prog W = .ok (.string .empty) W :=
  Lib.run_unsafeString_none W _ _ _ q

set_option maxHeartbeats 2000000 in
set_option maxRecDepth 100000 in
theorem Try.String_nil (b : Nat) (p : Value) (w : World) (hbk : w.heap[b]? = some (.cells #[p, .slice none 0 0] 171 (0, 0))) :
    Calls Try.prog 99 #[.pointer (some ⟨b, 0, none⟩)] w fun e w' => e = .returned (.string ⟨#[]⟩) ∧ Kept (fun _ => False) w w' := by
  have hUS := Try.unsafeString_none
  have c1 : w.drew.cell? ⟨b, 1, none⟩ = some (.slice none 0 0) := by
    have : w.drew.heap[b]? = some (.cells #[p, .slice none 0 0] 171 (0, 0)) := hbk
    rw [Lib.cell_of_heap this]; rfl
  have hSD : (Builtin.unsafeSliceData_ #[139] 210 #[.slice none 0 0]).run Try.prog w.drew = .ok (.pointer none) w.drew := rfl
  have mixed : Try.prog.follows .mixedOrders = true := by kernel_rfl
  have t72 := Try.underlying171; have a72 := Try.isAgg171; have z72 := Try.sizeOf171; have v72 := Try.zeroValue171
  have t70 := Try.underlying169; have a70 := Try.isAgg169; have z70 := Try.sizeOf169; have v70 := Try.zeroValue169
  have t37 := Try.underlying139; have a37 := Try.isAgg139; have z37 := Try.sizeOf139; have v37 := Try.zeroValue139
  have t127 := Try.underlying210; have a127 := Try.isAgg210; have z127 := Try.sizeOf210; have v127 := Try.zeroValue210
  have t3 := Try.underlying3; have a3 := Try.isAgg3; have z3 := Try.sizeOf3; have v3 := Try.zeroValue3
  have t9 := Try.underlying9; have a9 := Try.isAgg9; have z9 := Try.sizeOf9; have v9 := Try.zeroValue9
  have t5 := Try.underlying5; have a5 := Try.isAgg5; have z5 := Try.sizeOf5; have v5 := Try.zeroValue5
  go_enter Try.func99, Try.ntmps99
  go_wp2
  go_region_o
  all_goals (go_wp2; go_ret; exact ⟨rfl, Kept.refl _ _⟩)

set_option maxHeartbeats 2000000 in
set_option maxRecDepth 100000 in
theorem Try.String_noroom (b g : Nat) (p : Value) (cur : Array Value) (w : World) (hbk : w.heap[b]? = some (.cells #[p, .slice (some ⟨g, 0, none⟩) 0 0] 171 (0, 0))) (hg : w.heap[g]? = some (.cells cur 5 (0, 0))) :
    Calls Try.prog 99 #[.pointer (some ⟨b, 0, none⟩)] w fun e w' => e = .returned (.string ⟨#[]⟩) ∧ Kept (fun _ => False) w w' := by
  have hUS := Try.unsafeString_none
  have hlt : b < w.heap.size := by
    rcases Nat.lt_or_ge b w.heap.size with h' | h'
    · exact h'
    · simp [Array.getElem?_eq_none h'] at hbk
  have c1 : w.drew.cell? ⟨b, 1, none⟩ = some (.slice (some ⟨g, 0, none⟩) 0 0) := by
    have : w.drew.heap[b]? = some (.cells #[p, .slice (some ⟨g, 0, none⟩) 0 0] 171 (0, 0)) := hbk
    rw [Lib.cell_of_heap this]; rfl
  have hSD : (Builtin.unsafeSliceData_ #[139] 210 #[.slice (some ⟨g, 0, none⟩) 0 0]).run Try.prog w.drew = .ok (.pointer (some ⟨w.drew.heap.size, 0, none⟩)) (w.drew.alloc (.view ⟨g, 0, none⟩ 5)) :=
    Lib.run_unsafeSliceData_zero w.drew _ _ 5 Try.underlying210 ⟨g, 0, none⟩ 0 (5, cur.size) (by have hg' : w.drew.heap[g]? = some (.cells cur 5 (0, 0)) := hg; simp [World.shape?, hg'])
  have c2 : (w.drew.alloc (.view ⟨g, 0, none⟩ 5)).cell? ⟨b, 1, none⟩ = some (.slice (some ⟨g, 0, none⟩) 0 0) := by
    have : (w.drew.alloc (.view ⟨g, 0, none⟩ 5)).heap[b]? = _ := (Lib.alloc_old w.drew _ b hlt).trans hbk
    rw [Lib.cell_of_heap this]; rfl
  have c3 : (w.alloc (.view ⟨g, 0, none⟩ 5)).drew.cell? ⟨b, 1, none⟩ = some (.slice (some ⟨g, 0, none⟩) 0 0) := c2
  have c0 : w.cell? ⟨b, 1, none⟩ = some (.slice (some ⟨g, 0, none⟩) 0 0) := c1
  have mixed : Try.prog.follows .mixedOrders = true := by kernel_rfl
  have t72 := Try.underlying171; have a72 := Try.isAgg171; have z72 := Try.sizeOf171; have v72 := Try.zeroValue171
  have t70 := Try.underlying169; have a70 := Try.isAgg169; have z70 := Try.sizeOf169; have v70 := Try.zeroValue169
  have t37 := Try.underlying139; have a37 := Try.isAgg139; have z37 := Try.sizeOf139; have v37 := Try.zeroValue139
  have t127 := Try.underlying210; have a127 := Try.isAgg210; have z127 := Try.sizeOf210; have v127 := Try.zeroValue210
  have t3 := Try.underlying3; have a3 := Try.isAgg3; have z3 := Try.sizeOf3; have v3 := Try.zeroValue3
  have t9 := Try.underlying9; have a9 := Try.isAgg9; have z9 := Try.sizeOf9; have v9 := Try.zeroValue9
  have t5 := Try.underlying5; have a5 := Try.isAgg5; have z5 := Try.sizeOf5; have v5 := Try.zeroValue5
  go_enter Try.func99, Try.ntmps99
  go_wp2
  go_region_o
  all_goals (go_wp2; go_ret; exact ⟨rfl, Kept.alloc (w := w) _⟩)

set_option maxHeartbeats 2000000 in
set_option maxRecDepth 100000 in
theorem Try.String_room (b g cap : Nat) (p : Value) (w : World) (hc0 : cap ≠ 0) (hbk : w.heap[b]? = some (.cells #[p, .slice (some ⟨g, 0, none⟩) 0 cap] 171 (0, 0))) :
    Calls Try.prog 99 #[.pointer (some ⟨b, 0, none⟩)] w fun e w' => e = .returned (.string ⟨#[]⟩) ∧ Kept (fun _ => False) w w' := by
  have hUS := Try.unsafeString_none
  have c1 : w.drew.cell? ⟨b, 1, none⟩ = some (.slice (some ⟨g, 0, none⟩) 0 cap) := by
    have : w.drew.heap[b]? = some (.cells #[p, .slice (some ⟨g, 0, none⟩) 0 cap] 171 (0, 0)) := hbk
    rw [Lib.cell_of_heap this]; rfl
  have hSD : (Builtin.unsafeSliceData_ #[139] 210 #[.slice (some ⟨g, 0, none⟩) 0 cap]).run Try.prog w.drew = .ok (.pointer (some ⟨g, 0, none⟩)) w.drew :=
    Lib.run_unsafeSliceData_row _ _ _ _ _ _ hc0
  clear hc0
  have mixed : Try.prog.follows .mixedOrders = true := by kernel_rfl
  have t72 := Try.underlying171; have a72 := Try.isAgg171; have z72 := Try.sizeOf171; have v72 := Try.zeroValue171
  have t70 := Try.underlying169; have a70 := Try.isAgg169; have z70 := Try.sizeOf169; have v70 := Try.zeroValue169
  have t37 := Try.underlying139; have a37 := Try.isAgg139; have z37 := Try.sizeOf139; have v37 := Try.zeroValue139
  have t127 := Try.underlying210; have a127 := Try.isAgg210; have z127 := Try.sizeOf210; have v127 := Try.zeroValue210
  have t3 := Try.underlying3; have a3 := Try.isAgg3; have z3 := Try.sizeOf3; have v3 := Try.zeroValue3
  have t9 := Try.underlying9; have a9 := Try.isAgg9; have z9 := Try.sizeOf9; have v9 := Try.zeroValue9
  have t5 := Try.underlying5; have a5 := Try.isAgg5; have z5 := Try.sizeOf5; have v5 := Try.zeroValue5
  go_enter Try.func99, Try.ntmps99
  go_wp2
  go_region_o
  all_goals (go_wp2; go_ret; exact ⟨rfl, Kept.refl _ _⟩)
end Go.Proofs

/- strings.Builder as contracts over memory at known addresses. -/
set_option linter.unusedVariables false
set_option linter.unusedSimpArgs false
namespace Go.Proofs
open Go.RowKit Go.Sy

abbrev rowB (l : List UInt8) : Nat → List AV := fun i => U8c (l.getD i default)

theorem str_rows {G : IM} (s : List UInt8) : RowsL G 1 s.length (rowB s) (Lib.strCells ⟨s.toArray⟩) := by
  intro i hi
  have h1 : ((Lib.strCells ⟨s.toArray⟩).drop (i * 1)).take 1 = [.int .u8 ((s.getD i default).toNat : Int)] := by
    simp only [Lib.strCells, Nat.mul_one, List.toList_toArray]
    rw [← List.map_drop, ← List.map_take]
    have : (s.drop i).take 1 = [s.getD i default] := by
      rw [List.drop_eq_getElem_cons hi]
      simp [List.getD, List.getElem?_eq_getElem hi]
      rw [List.drop_eq_getElem_cons hi]; rfl
    rw [this]; rfl
  rw [h1]
  simp only [RepIL, rowB, U8c, RepI]
  exact ⟨_, _, rfl, rfl, rfl, rfl⟩

theorem rows_bytes {G : IM} {l : List UInt8} {xs : List Value} (hl : xs.length = l.length * 1) (h : RowsL G 1 l.length (rowB l) xs) : xs = Lib.byteCells l := by
  apply List.ext_getElem?
  intro i
  rcases Nat.lt_or_ge i l.length with hi | hi
  · have h0 := h i hi
    simp only [RepIL, rowB, U8c, RepI] at h0
    obtain ⟨z, zs, h1, rfl, _, rfl⟩ := h0
    have h2 : ((xs.drop (i * 1)).take 1)[0]? = some (.int .u8 ((l.getD i default).toNat : Int)) := by rw [h1]; rfl
    rw [List.getElem?_take, if_pos (by decide), List.getElem?_drop, Nat.mul_one, Nat.add_zero] at h2
    rw [h2]
    simp [Lib.byteCells, List.getD, List.getElem?_eq_getElem hi]
  · rw [List.getElem?_eq_none (by omega), List.getElem?_eq_none (by rw [Lib.byteCells_length]; omega)]

theorem rows_appB {G : IM} {l s : List UInt8} {xs ys : List Value} (hl : xs.length = l.length * 1) (h1 : RowsL G 1 l.length (rowB l) xs) (h2 : RowsL G 1 s.length (rowB s) ys) : RowsL G 1 (l ++ s).length (rowB (l ++ s)) (xs ++ ys) := by
  have := rows_app hl h1 h2
  intro i hi
  rw [List.length_append] at hi
  have h3 := this i hi
  have : rowB (l ++ s) i = appRow l.length (rowB l) (rowB s) i := by
    unfold appRow
    split
    · rename_i h; simp [rowB, List.getD, List.getElem?_append_left h]
    · rename_i h; simp [rowB, List.getD, List.getElem?_append_right (Nat.le_of_not_lt h)]
  rw [this]
  exact h3

theorem bld_facts {G : IM} {w : World} {b : Nat} {p h : Value} {l : List UInt8} (hok : AbsOK G w [boxA b 171 [.v p, .v h], vecA h 5 1 l.length (rowB l)]) :
    w.heap[b]? = some (.cells #[p, h] 171 (0, 0)) ∧ (∃ xs, w.ownsRow 0 5 1 h l.length xs ∧ RowsL G 1 l.length (rowB l) xs) ∧ h.ownBlock ≠ some b ∧ (∀ o, G b o = none) ∧ (∀ k, h.ownBlock = some k → k < w.heap.size ∧ ∀ o, G k o = none) ∧ b < w.heap.size := by
  obtain ⟨h1, h2, h3⟩ := hok
  obtain ⟨arr, g1, g2⟩ := h1 (boxA b 171 [.v p, .v h]) (by simp)
  have g3 := h1 (vecA h 5 1 l.length (rowB l)) (by simp)
  have harr : arr = #[p, h] := by
    simp only [RepIL, RepI] at g2
    obtain ⟨z, zs, e1, rfl, _, z2, zs2, rfl, rfl, _, rfl⟩ := g2
    exact Array.ext' (by simpa using e1)
  subst harr
  have hb : blocks [boxA b 171 [.v p, .v h], vecA h 5 1 l.length (rowB l)] = b :: h.ownBlock.toList := by simp [blocks, boxA, vecA]
  rw [hb] at h2 h3
  refine ⟨g1, g3, fun hh => ?_, (h3 b (by simp)).2, fun k hk => h3 k (by simp [hk]), (h3 b (by simp)).1⟩
  rw [hh] at h2
  simp at h2

theorem WriteString_A (b : Nat) (p h : Value) (l s : List UInt8) (hp : p = .pointer none ∨ p = .pointer (some ⟨b, 0, none⟩)) (hlen : l.length + s.length ≤ 140737488355328) :
    FnA Try.prog 98 [PT b 0, .s s] [boxA b 171 [.v p, .v h], vecA h 5 1 l.length (rowB l)]
      (fun r cs' => ∃ h', r = .tup [I64 (s.length : Nat), .v .nilIface] ∧ cs' = [boxA b 171 [PT b 0, .v h'], vecA h' 5 1 (l ++ s).length (rowB (l ++ s))]) := by
  refine ⟨⟨_, Try.func98, by kernel_rfl, by kernel_rfl⟩, fun G w cargs him hrep hok => ?_⟩
  obtain ⟨hb, ⟨xs, hx1, hx2⟩, hne, hGb, hGk, hbl⟩ := bld_facts hok
  simp only [RepIT, RepI] at hrep
  obtain ⟨z, zs, rfl, rfl, z2, zs2, rfl, rfl, rfl⟩ := hrep
  have hxl : xs.length = l.length := by simpa using hx1.1
  have hsz : (ByteArray.mk s.toArray).size = s.length := len_S s
  have hc := Try.WriteString_x b p h xs ⟨s.toArray⟩ w hp hb (by rw [hxl]; exact hx1) hne (by rw [hxl, hsz]; exact hlen)
  refine hc.mono ?_
  rintro e w' ⟨rfl, h', k1, k2, k3, k4, o1, o2, o3, o4, o5⟩
  rw [hxl, hsz] at k2
  rw [hsz]
  have hbs : blocks [boxA b 171 [.v p, .v h], vecA h 5 1 l.length (rowB l)] = b :: h.ownBlock.toList := by simp [blocks, boxA, vecA]
  have hbs' : blocks [boxA b 171 [PT b 0, .v h'], vecA h' 5 1 (l ++ s).length (rowB (l ++ s))] = b :: h'.ownBlock.toList := by simp [blocks, boxA, vecA]
  have hlt : ∀ k o v, G k o = some v → k < w.heap.size := fun k o v hv => Go.block_lt_of_cell (him k o v hv)
  refine ⟨_, _, _, G, ⟨h', rfl, rfl⟩, rfl, ?_, IM.le_refl _, fun b o v hv => .inl hv, ?_, ⟨?_, ?_, ?_⟩, ?_, o1, o2, o3, o4, ?_⟩
  · simp only [RepI]
    exact ⟨_, rfl, by simp [RepIT, RepI]⟩
  · intro k o v hv
    have h1 := him k o v hv
    have hk : ¬ (k = b ∨ h.ownBlock = some k) := by
      rintro (rfl | hk)
      · rw [hGb o] at hv; cases hv
      · rw [(hGk k hk).2 o] at hv; cases hv
    simp only [World.cell?] at h1 ⊢
    rw [o5 k (hlt k o v hv) hk]
    exact h1
  · intro A hA
    simp only [List.mem_cons, List.not_mem_nil, or_false] at hA
    rcases hA with rfl | rfl
    · exact ⟨_, k1, by simp only [RepIL, RepI]; exact ⟨_, _, rfl, rfl, rfl, _, _, rfl, rfl, by
        rcases k2.2 with ⟨hn, _⟩ | ⟨g, cap, cur, hv, _⟩
        · rw [hn]; rfl
        · rw [hv]; rfl, rfl⟩⟩
    · exact ⟨_, by rw [List.length_append]; exact k2, rows_appB hx1.1 hx2 (str_rows s)⟩
  · rw [hbs']
    cases hh : h'.ownBlock with
    | none => simp
    | some k => simp; intro hk; subst hk; exact k3 hh
  · rw [hbs']
    intro k hk
    rcases List.mem_cons.1 hk with rfl | hk
    · exact ⟨by omega, hGb⟩
    · have hk' : h'.ownBlock = some k := by
        cases hh : h'.ownBlock with
        | none => rw [hh] at hk; simp at hk
        | some j => rw [hh] at hk; simp at hk; rw [hk]
      refine ⟨?_, fun o => ?_⟩
      · rcases k2.2 with ⟨hn, _⟩ | ⟨g, cap, cur, hv, _, hg, _⟩
        · rw [hn] at hk'; cases hk'
        · rw [hv] at hk'
          simp only [Value.ownBlock, Option.some.injEq] at hk'
          subst hk'
          rcases Nat.lt_or_ge g w'.heap.size with hq | hq
          · exact hq
          · rw [Array.getElem?_eq_none hq] at hg; cases hg
      · rcases k4 k hk' with hq | hq
        · exact (hGk k hq).2 o
        · cases hg : G k o with
          | none => rfl
          | some v => have := hlt k o v hg; omega
  · rw [hbs', hbs]
    intro k hk
    rcases List.mem_cons.1 hk with rfl | hk
    · exact .inr (by simp)
    · have hk' : h'.ownBlock = some k := by
        cases hh : h'.ownBlock with
        | none => rw [hh] at hk; simp at hk
        | some j => rw [hh] at hk; simp at hk; rw [hk]
      rcases k4 k hk' with hq | hq
      · exact .inr (by simp [hq])
      · exact .inl hq
  · rw [hbs]
    intro k hk hnin
    refine o5 k hk ?_
    rintro (rfl | hq)
    · simp at hnin
    · simp [hq] at hnin

theorem String_A (b : Nat) (p h : Value) (l : List UInt8) :
    FnA Try.prog 99 [PT b 0] [boxA b 171 [.v p, .v h], vecA h 5 1 l.length (rowB l)] (fun r cs' => r = .s l ∧ cs' = []) := by
  refine ⟨⟨_, Try.func99, by kernel_rfl, by kernel_rfl⟩, fun G w cargs him hrep hok => ?_⟩
  obtain ⟨hb, ⟨xs, hx1, hx2⟩, hne, hGb, hGk, hbl⟩ := bld_facts hok
  simp only [RepIT, RepI] at hrep
  obtain ⟨z, zs, rfl, rfl, rfl⟩ := hrep
  have hxs := rows_bytes hx1.1 hx2
  subst hxs
  have hbs : blocks [boxA b 171 [.v p, .v h], vecA h 5 1 l.length (rowB l)] = b :: h.ownBlock.toList := by simp [blocks, boxA, vecA]
  have hlt : ∀ k o v, G k o = some v → k < w.heap.size := fun k o v hv => Go.block_lt_of_cell (him k o v hv)
  have fin : ∀ w', Kept (fun k => h.ownBlock = some k) w w' → ∃ r cr cs' G', (r = AV.s l ∧ cs' = ([] : List Abs)) ∧ Ending.returned (.string ⟨l.toArray⟩) = .returned cr ∧ RepI G' r cr ∧ IM.le G G' ∧
      (∀ kb o v, G' kb o = some v → G kb o = some v ∨ w.heap.size ≤ kb ∨ kb ∈ blocks [boxA b 171 [.v p, .v h], vecA h 5 1 l.length (rowB l)]) ∧ ImOK G' w' ∧ AbsOK G' w' cs' ∧
      (∀ kb ∈ blocks cs', w.heap.size ≤ kb ∨ kb ∈ blocks [boxA b 171 [.v p, .v h], vecA h 5 1 l.length (rowB l)]) ∧
      w'.os = w.os ∧ w'.tape = w.tape ∧ w'.output = w.output ∧ w.heap.size ≤ w'.heap.size ∧ ∀ k, k < w.heap.size → k ∉ blocks [boxA b 171 [.v p, .v h], vecA h 5 1 l.length (rowB l)] → w'.heap[k]? = w.heap[k]? := by
    rintro w' ⟨o1, o2, o3, o4, o5⟩
    refine ⟨_, _, _, G, ⟨rfl, rfl⟩, rfl, by simp [RepI, Go.Sy.S], IM.le_refl _, fun b o v hv => .inl hv, ?_, ⟨by simp, by simp [blocks], by simp [blocks]⟩, by simp [blocks], o1, o2, o3, o4, ?_⟩
    · intro k o v hv
      have h1 := him k o v hv
      have hk : ¬ (h.ownBlock = some k) := fun hk => by rw [(hGk k hk).2 o] at hv; cases hv
      simp only [World.cell?] at h1 ⊢
      rw [o5 k (hlt k o v hv) hk]
      exact h1
    · rw [hbs]
      intro k hk hnin
      exact o5 k hk (fun hq => by simp [hq] at hnin)
  have weak : ∀ {w'}, Kept (fun _ => False) w w' → Kept (fun k => h.ownBlock = some k) w w' := fun hk => ⟨hk.1, hk.2.1, hk.2.2.1, hk.2.2.2.1, fun k h1 _ => hk.2.2.2.2 k h1 id⟩
  have emp : l.length = 0 → (.string ⟨l.toArray⟩ : Value) = .string ⟨#[]⟩ := fun h0 => by rw [List.eq_nil_of_length_eq_zero h0]
  rcases hx1.2 with ⟨rfl, h0⟩ | ⟨g, cap, cur, rfl, _, hg, hnc, hcm, hcs, htake⟩
  · refine (Try.String_nil b p w hb).mono ?_
    rintro e w' ⟨rfl, hk⟩
    have hf := fin w' (weak hk)
    rw [emp h0] at hf
    obtain ⟨r1, r2, r3, r4, q1, q2, q3, q4, q5, q6, q7, q8, q9⟩ := hf
    refine ⟨r1, r2, r3, r4, q1, q2, q3, q4, q5, q6, q7, q8, q9⟩
  · by_cases h0 : l.length = 0
    · rw [h0] at hb
      by_cases hc0 : cap = 0
      · subst hc0
        refine (Try.String_noroom b g p cur w hb hg).mono ?_
        rintro e w' ⟨rfl, hk⟩
        have hf := fin w' (weak hk)
        rw [emp h0] at hf
        obtain ⟨r1, r2, r3, r4, q1, q2, q3, q4, q5, q6, q7, q8, q9⟩ := hf
        refine ⟨r1, r2, r3, r4, q1, q2, q3, q4, q5, q6, q7, q8, q9⟩
      · refine (Try.String_room b g cap p w hc0 hb).mono ?_
        rintro e w' ⟨rfl, hk⟩
        have hf := fin w' (weak hk)
        rw [emp h0] at hf
        obtain ⟨r1, r2, r3, r4, q1, q2, q3, q4, q5, q6, q7, q8, q9⟩ := hf
        refine ⟨r1, r2, r3, r4, q1, q2, q3, q4, q5, q6, q7, q8, q9⟩
    · refine (Try.String_x b g cap p cur l w (by intro h; simp [h] at h0) hb hg hnc hcm hcs htake).mono ?_
      rintro e w' ⟨rfl, o1, o2, o3, o4, o5⟩
      exact fin w' ⟨o1, o2, o3, o4, fun k h1 h2 => o5 k h1 (fun hk => h2 (by subst hk; rfl))⟩
end Go.Proofs
