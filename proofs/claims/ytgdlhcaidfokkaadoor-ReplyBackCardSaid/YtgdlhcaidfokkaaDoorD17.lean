/- Contracts, part sixteen: reply. -/
import Derived.Test.YtgdlhcaidfokkaaDoorD16
set_option linter.unusedSimpArgs false
set_option linter.unusedVariables false
namespace Go.Proofs
open Go.Sy

abbrev row3 (x y z : List UInt8) : AV := .sl 3 1 (chunkRow 1 [.s x, .s y, .s z])

theorem Join_p (x y z : List UInt8) (h : x.length + y.length + z.length ≤ 140737488355328) : FnP Tryd.prog 69 [row3 x y z, .s []] (· = .s (x ++ y ++ z)) := by
  refine ⟨⟨_, Tryd.func69, rfl, by decide⟩, fun G w cargs him hr => ?_⟩
  simp only [RepIT, RepI] at hr
  obtain ⟨v0, zs, rfl, ⟨aa, c, rfl, hc, ha⟩, v1, zs1, rfl, rfl, rfl⟩ := hr
  rcases ha with ha | ⟨b, o, rfl, ha⟩
  · omega
  have hcell : ∀ (j : Nat) (u : List UInt8), j < 3 → (chunkRow 1 [AV.s x, AV.s y, AV.s z]) j = [.s u] → w.cell? ⟨b, o + j, none⟩ = some (S u) := by
    intro j u hj he
    have h1 := ha j hj
    rw [he] at h1
    simp only [CellsAt, RepI] at h1
    obtain ⟨⟨q, q1, q2, _⟩, _⟩ := h1
    have := him b _ q q1
    rw [q2] at this
    rw [Nat.mul_one] at this
    exact this
  have c0 := hcell 0 x (by omega) rfl
  have hj := Tryd.strings_Join b o c [⟨x.toArray⟩, ⟨y.toArray⟩, ⟨z.toArray⟩] ⟨#[]⟩ w (fun j u hu => by
    match j, hu with
    | 0, hu => simp at hu; subst hu; exact c0
    | 1, hu => simp at hu; subst hu; exact hcell 1 y (by omega) rfl
    | 2, hu => simp at hu; subst hu; exact hcell 2 z (by omega) rfl
    | j + 3, hu => simp at hu) (block_lt_of_cell c0) (by simp only [List.length_cons, List.length_nil]; omega) hc (by simp [Lib.join]; omega)
  refine (show Calls Tryd.prog 69 _ w _ from hj).mono ?_
  rintro e w' ⟨rfl, hb⟩
  refine ⟨_, _, G, rfl, rfl, ?_, IM.le_refl _, fun b o u hu => .inl hu, fun b o u hu => ?_, hb⟩
  · simp [RepI, S, Lib.join]
  · have h1 := him b o u hu
    have h2 := Go.block_lt_of_cell h1
    simp only [World.cell?] at h1 ⊢
    rw [hb.block b h2]
    exact h1

theorem row_p (x y z : List UInt8) (h : x.length + y.length + z.length ≤ 140737488355328) : FnP Tryd.prog 39 [row3 x y z] (· = .s (x ++ y ++ z)) := by
  refine FnP.intro Tryd.tabOK Tryd.wide_ Tryd.func39 rfl (by decide) rfl (fun X => ?_)
  repeat (first | refine sc rfl ?_ | refine so rfl ?_ | refine sb rfl ?_)
  refine O_call (Join_p x y z h) (by rfl) (by rfl) (by rfl) (by rfl) (fun r hr => ?_)
  subst hr
  repeat (first | refine sc rfl ?_ | refine so rfl ?_ | refine sb rfl ?_)
  exact ⟨_, rfl, rfl, rfl⟩

theorem bounded_p (e : Int) : FnP Tryd.prog 38 [I64 e] (· = B (decide (0 ≤ e ∧ e ≤ 1048576))) := by
  refine FnP.intro Tryd.tabOK Tryd.wide_ Tryd.func38 rfl (by decide) rfl (fun X => ?_)
  repeat (first | refine sc rfl ?_ | refine so rfl ?_ | refine sb rfl ?_)
  refine O_case 5 rfl (fun h => ?_) (fun h => ?_)
  · repeat (first | refine sc rfl ?_ | refine so rfl ?_ | refine sb rfl ?_)
    refine ⟨_, rfl, rfl, congrArg B ?_⟩
    simp at h
    simp [h]
  · repeat (first | refine sc rfl ?_ | refine so rfl ?_ | refine sb rfl ?_)
    refine ⟨_, rfl, rfl, congrArg B ?_⟩
    simp at h
    simp; omega

theorem Long_p (n : Int) : FnP Tryd.prog 29 [I64 n] (· = B (decide (1011 < n))) := by
  refine FnP.intro Tryd.tabOK Tryd.wide_ Tryd.func29 rfl (by decide) rfl (fun X => ?_)
  repeat (first | refine sc rfl ?_ | refine so rfl ?_ | refine sb rfl ?_)
  refine O_call Most_p (by rfl) (by rfl) (by rfl) (by rfl) (fun r hr => ?_)
  subst hr
  repeat (first | refine sc rfl ?_ | refine so rfl ?_ | refine sb rfl ?_)
  exact ⟨_, rfl, rfl, congrArg B (by rw [show IntKind.i64.wrap (1022 - 11) = 1011 by decide])⟩

theorem ours35_p (id st : Int) (d : List UInt8) : FnP Tryd.prog 25 [.agg [U64 id, I64 st, .s d]] (· = .agg [U64 id, I64 st, .s d]) := by
  refine FnP.intro Tryd.tabOK Tryd.wide_ Tryd.func25 rfl (by decide) rfl (fun X => ?_)
  repeat (first | refine sc rfl ?_ | refine so rfl ?_ | refine sb rfl ?_)
  exact ⟨_, rfl, rfl, rfl⟩
end Go.Proofs
