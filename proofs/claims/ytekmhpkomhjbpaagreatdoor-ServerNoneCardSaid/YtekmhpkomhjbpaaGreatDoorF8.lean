/- The kit's contracts of library functions at this seat, as its tool lay-plain wrote them; remarks are struck. -/
import Derived.Shelf.Strings.Builder1
import Derived.Shelf.Strings.Builder2
import Derived.Shelf.Strings.OnBuilder
import Derived.Shelf.Strings.BuilderF
import Derived.Shelf.Strings.Builder2Cap
import Derived.Shelf.Strings.Prefix
import Derived.Shelf.Bits.Mul64
import Derived.Shelf.Strings.Repeat
import Derived.Ground.Names2Prog
import Derived.Shelf.Slices.SearchI
import Derived.Test.YtekmhpkomhjbpaaGreatDoorProg
import Derived.Test.YtekmhpkomhjbpaaGreatDoorF7
import Derived.Test.YtekmhpkomhjbpaaGreatDoorF3
import Derived.Test.YtekmhpkomhjbpaaGreatDoorF6
import Derived.Test.YtekmhpkomhjbpaaGreatDoorF4
namespace Go.Proofs
open Go.Shelf

def Tryz.lays156_ren : Go.Shelf.Ren := ⟨fun | 156 => 230 | 165 => 272 | 166 => 214 | 169 => 215 | 240 => 249 | 241 => 311 | 276 => 287 | 277 => 341 | n => n, fun | 31 => 185 | 9 => 9 | 3 => 3 | 4 => 4 | 0 => 0 | 20 => 20 | 72 => 358 | 76 => 361 | 70 => 355 | 37 => 356 | 75 => 360 | 127 => 398 | 164 => 452 | 5 => 5 | 80 => 151 | n => n, fun | n => n⟩
theorem Tryz.lays156 : Go.Proofs.Lays.n156 Tryz.prog Tryz.lays156_ren := {
  mixed := by kernel_rfl
  f156 := Tryz.func230.trans (congrArg some (by kernel_rfl))
  f165 := Tryz.func272.trans (congrArg some (by kernel_rfl))
  f166 := Tryz.func214.trans (congrArg some (by kernel_rfl))
  f169 := Tryz.func215.trans (congrArg some (by kernel_rfl))
  f240 := Tryz.func249.trans (congrArg some (by kernel_rfl))
  f241 := Tryz.func311.trans (congrArg some (by kernel_rfl))
  f276 := Tryz.func287.trans (congrArg some (by kernel_rfl))
  f277 := Tryz.func341.trans (congrArg some (by kernel_rfl))
  t0 := Tryz.underlying0
  a0 := Tryz.isAgg0
  z0 := Tryz.sizeOf0
  v0 := Tryz.zeroValue0
  t3 := Tryz.underlying3
  a3 := Tryz.isAgg3
  z3 := Tryz.sizeOf3
  v3 := Tryz.zeroValue3
  t4 := Tryz.underlying4
  a4 := Tryz.isAgg4
  z4 := Tryz.sizeOf4
  v4 := Tryz.zeroValue4
  t9 := Tryz.underlying9
  a9 := Tryz.isAgg9
  z9 := Tryz.sizeOf9
  v9 := Tryz.zeroValue9
  t20 := Tryz.underlying20
  a20 := Tryz.isAgg20
  z20 := Tryz.sizeOf20
  v20 := Tryz.zeroValue20
  t31 := Tryz.underlying185
  a31 := Tryz.isAgg185
  z31 := Tryz.sizeOf185
  v31 := Tryz.zeroValue185
  t37 := Tryz.underlying356
  a37 := Tryz.isAgg356
  z37 := Tryz.sizeOf356
  v37 := Tryz.zeroValue356
  t70 := Tryz.underlying355
  a70 := Tryz.isAgg355
  z70 := Tryz.sizeOf355
  v70 := Tryz.zeroValue355
  t72 := Tryz.underlying358
  a72 := Tryz.isAgg358
  z72 := Tryz.sizeOf358
  v72 := Tryz.zeroValue358
  t75 := Tryz.underlying360
  a75 := Tryz.isAgg360
  z75 := Tryz.sizeOf360
  v75 := Tryz.zeroValue360
  t76 := Tryz.underlying361
  a76 := Tryz.isAgg361
  z76 := Tryz.sizeOf361
  v76 := Tryz.zeroValue361
  t127 := Tryz.underlying398
  a127 := Tryz.isAgg398
  z127 := Tryz.sizeOf398
  v127 := Tryz.zeroValue398
  t164 := Tryz.underlying452
  a164 := Tryz.isAgg452
  z164 := Tryz.sizeOf452
  v164 := Tryz.zeroValue452 }
theorem Tryz.Builder_Extra_156 : Builder.Extra Tryz.prog Tryz.lays156_ren := {
  sizeBuilder := by kernel_rfl
  liesBuilder := by kernel_rfl
  t5 := Tryz.underlying5
  a5 := Tryz.isAgg5
  z5 := Tryz.sizeOf5
  v5 := Tryz.zeroValue5
  infoByte := by kernel_rfl
  cellsByte := by kernel_rfl
  sizeByte := by kernel_rfl
  neB5 := by decide }
open Go.RowKit in
theorem Tryz.strings_Join (bk o c : Nat) (xs : List ByteArray) (sep : ByteArray) (w : World) (hcells : ∀ (j : Nat) x, xs[j]? = some x → w.cell? ⟨bk, o + j, none⟩ = some (.string x)) (hbk : bk < w.heap.size) (hN : xs.length ≤ 140737488355328) (hcap : xs.length ≤ c) (hlen : (Lib.join (xs.map (·.data.toList)) sep.data.toList).length ≤ 140737488355328) :
    Calls Tryz.prog 230 #[.slice (some ⟨bk, o, none⟩) xs.length c, .string sep] w fun e w' => e = .returned (.string ⟨(Lib.join (xs.map (·.data.toList)) sep.data.toList).toArray⟩) ∧ Below w.heap.size w w' := Any.strings_Join Tryz.lays156 Tryz.Builder_Extra_156 bk o c xs sep w hcells hbk hN hcap hlen

def Tryz.lays105_ren : Go.Shelf.Ren := ⟨fun | 105 => 229 | 212 => 270 | 99 => 271 | 165 => 272 | 166 => 214 | 170 => 273 | 169 => 215 | 263 => 308 | 264 => 309 | 206 => 310 | 240 => 249 | 241 => 311 | 276 => 287 | 277 => 341 | n => n, fun | 9 => 9 | 3 => 3 | 4 => 4 | 20 => 20 | 0 => 0 | 46 => 322 | 109 => 417 | 5 => 5 | 72 => 358 | 76 => 361 | 51 => 415 | 146 => 467 | 53 => 26 | 148 => 469 | 70 => 355 | 37 => 356 | 75 => 360 | 127 => 398 | 164 => 452 | 80 => 151 | n => n, fun | n => n⟩
theorem Tryz.lays105 : Go.Proofs.Lays.n105 Tryz.prog Tryz.lays105_ren := {
  mixed := by kernel_rfl
  f99 := Tryz.func271.trans (congrArg some (by kernel_rfl))
  f105 := Tryz.func229.trans (congrArg some (by kernel_rfl))
  f165 := Tryz.func272.trans (congrArg some (by kernel_rfl))
  f166 := Tryz.func214.trans (congrArg some (by kernel_rfl))
  f169 := Tryz.func215.trans (congrArg some (by kernel_rfl))
  f170 := Tryz.func273.trans (congrArg some (by kernel_rfl))
  f206 := Tryz.func310.trans (congrArg some (by kernel_rfl))
  f212 := Tryz.func270.trans (congrArg some (by kernel_rfl))
  f240 := Tryz.func249.trans (congrArg some (by kernel_rfl))
  f241 := Tryz.func311.trans (congrArg some (by kernel_rfl))
  f263 := Tryz.func308.trans (congrArg some (by kernel_rfl))
  f264 := Tryz.func309.trans (congrArg some (by kernel_rfl))
  f276 := Tryz.func287.trans (congrArg some (by kernel_rfl))
  f277 := Tryz.func341.trans (congrArg some (by kernel_rfl))
  t0 := Tryz.underlying0
  a0 := Tryz.isAgg0
  z0 := Tryz.sizeOf0
  v0 := Tryz.zeroValue0
  t3 := Tryz.underlying3
  a3 := Tryz.isAgg3
  z3 := Tryz.sizeOf3
  v3 := Tryz.zeroValue3
  t4 := Tryz.underlying4
  a4 := Tryz.isAgg4
  z4 := Tryz.sizeOf4
  v4 := Tryz.zeroValue4
  t5 := Tryz.underlying5
  a5 := Tryz.isAgg5
  z5 := Tryz.sizeOf5
  v5 := Tryz.zeroValue5
  t9 := Tryz.underlying9
  a9 := Tryz.isAgg9
  z9 := Tryz.sizeOf9
  v9 := Tryz.zeroValue9
  t20 := Tryz.underlying20
  a20 := Tryz.isAgg20
  z20 := Tryz.sizeOf20
  v20 := Tryz.zeroValue20
  t37 := Tryz.underlying356
  a37 := Tryz.isAgg356
  z37 := Tryz.sizeOf356
  v37 := Tryz.zeroValue356
  t46 := Tryz.underlying322
  a46 := Tryz.isAgg322
  z46 := Tryz.sizeOf322
  v46 := Tryz.zeroValue322
  t51 := Tryz.underlying415
  a51 := Tryz.isAgg415
  z51 := Tryz.sizeOf415
  v51 := Tryz.zeroValue415
  t53 := Tryz.underlying26
  a53 := Tryz.isAgg26
  z53 := Tryz.sizeOf26
  v53 := Tryz.zeroValue26
  t70 := Tryz.underlying355
  a70 := Tryz.isAgg355
  z70 := Tryz.sizeOf355
  v70 := Tryz.zeroValue355
  t72 := Tryz.underlying358
  a72 := Tryz.isAgg358
  z72 := Tryz.sizeOf358
  v72 := Tryz.zeroValue358
  t75 := Tryz.underlying360
  a75 := Tryz.isAgg360
  z75 := Tryz.sizeOf360
  v75 := Tryz.zeroValue360
  t76 := Tryz.underlying361
  a76 := Tryz.isAgg361
  z76 := Tryz.sizeOf361
  v76 := Tryz.zeroValue361
  t109 := Tryz.underlying417
  a109 := Tryz.isAgg417
  z109 := Tryz.sizeOf417
  v109 := Tryz.zeroValue417
  t127 := Tryz.underlying398
  a127 := Tryz.isAgg398
  z127 := Tryz.sizeOf398
  v127 := Tryz.zeroValue398
  t146 := Tryz.underlying467
  a146 := Tryz.isAgg467
  z146 := Tryz.sizeOf467
  v146 := Tryz.zeroValue467
  t148 := Tryz.underlying469
  a148 := Tryz.isAgg469
  z148 := Tryz.sizeOf469
  v148 := Tryz.zeroValue469
  t164 := Tryz.underlying452
  a164 := Tryz.isAgg452
  z164 := Tryz.sizeOf452
  v164 := Tryz.zeroValue452 }
theorem Tryz.Builder_Extra_105 : Builder.Extra Tryz.prog Tryz.lays105_ren := {
  sizeBuilder := by kernel_rfl
  liesBuilder := by kernel_rfl
  t5 := Tryz.underlying5
  a5 := Tryz.isAgg5
  z5 := Tryz.sizeOf5
  v5 := Tryz.zeroValue5
  infoByte := by kernel_rfl
  cellsByte := by kernel_rfl
  sizeByte := by kernel_rfl
  neB5 := by decide }
open Go.RowKit Go.Lib in
theorem Tryz.strings_Repeat (s : ByteArray) (c : Nat) (w : World) (hc : c ≤ 9223372036854775807) (hlen : s.size * c ≤ 140737488355328) :
    Calls Tryz.prog 229 #[.string s, .int .i64 c] w fun e w' => e = .returned (.string ⟨(Lib.repeatL s.data.toList c).toArray⟩) ∧ Below w.heap.size w w' := Any.strings_Repeat Tryz.lays105 Tryz.Builder_Extra_105 s c w hc hlen
end Go.Proofs

/- Replies' bytes. -/
set_option linter.unusedSimpArgs false
set_option linter.unusedVariables false
set_option maxRecDepth 100000
namespace Go.Proofs
open Go.Sy Go.Lib

def cls (n : Int) : Int := if n < 0 then 0 else if n ≤ 30 then 32 else if n ≤ 62 then 64 else if n ≤ 126 then 128 else if n ≤ 254 then 256 else if n ≤ 510 then 512 else if n ≤ 1022 then 1024 else 0
def clsE (n : Int) : Int := if n < 0 then 1 else if 1022 < n then 3 else 0
theorem Most_p : FnP Tryz.prog 269 [] (· = I64 1022) := by
  refine FnP.intro Tryz.tabOK Tryz.wide_ Tryz.func269 rfl (by decide) rfl (fun X => ?_)
  repeat (first | refine sc rfl ?_ | refine so rfl ?_ | refine sb rfl ?_)
  exact ⟨_, rfl, rfl, rfl⟩
def clsInv (n c : Int) : Prop := c = 32 ∨ (c = 64 ∧ 30 < n) ∨ (c = 128 ∧ 62 < n) ∨ (c = 256 ∧ 126 < n) ∨ (c = 512 ∧ 254 < n) ∨ (c = 1024 ∧ 510 < n)
theorem clsInv_cls {n c : Int} (h0 : 0 ≤ n) (h1 : n ≤ 1022) (hi : clsInv n c) (h : n ≤ c - 2) : cls n = c := by
  unfold clsInv at hi
  unfold cls
  repeat' split
  all_goals omega
theorem Class_p (n : Int) : FnP Tryz.prog 228 [I64 n] (· = .tup [I64 (cls n), I64 (clsE n)]) := by
  refine FnP.intro Tryz.tabOK Tryz.wide_ Tryz.func228 rfl (by decide) rfl (fun X => ?_)
  repeat (first | refine sc rfl ?_ | refine so rfl ?_ | refine sb rfl ?_ | refine C_scope ?_)
  refine C_if rfl (fun h => ?_) (fun h => ?_) <;> simp only [decide_eq_true_eq, decide_eq_false_iff_not] at h
  · repeat (first | refine sc rfl ?_ | refine so rfl ?_ | refine sb rfl ?_ | refine C_scope ?_)
    exact ⟨_, rfl, rfl, by simp only [cls, clsE, if_pos h]⟩
  repeat (first | refine sc rfl ?_ | refine so rfl ?_ | refine sb rfl ?_ | refine C_scope ?_)
  refine O_call Most_p (by rfl) (by rfl) (by rfl) (by rfl) (fun r hr => ?_)
  subst hr
  repeat (first | refine sc rfl ?_ | refine so rfl ?_ | refine sb rfl ?_ | refine C_scope ?_)
  refine C_if rfl (fun h2 => ?_) (fun h2 => ?_) <;> simp only [decide_eq_true_eq, decide_eq_false_iff_not] at h2
  · repeat (first | refine sc rfl ?_ | refine so rfl ?_ | refine sb rfl ?_ | refine C_scope ?_)
    refine ⟨_, rfl, rfl, ?_⟩
    have e1 : cls n = 0 := by unfold cls; repeat' split <;> omega
    have e2 : clsE n = 3 := by unfold clsE; rw [if_neg h, if_pos (by omega)]
    rw [e1, e2]
  repeat (first | refine sc rfl ?_ | refine so rfl ?_ | refine sb rfl ?_ | refine C_scope ?_)
  refine C_loop (fun c : Int => ⟨[(0, I64 n), (4, I64 c)], []⟩) (clsInv n) (fun c => (1024 - c).toNat) 32 (.inl rfl)
      (Le.sub [] ⟨rfl, rfl, trivial⟩ rfl) ?_
  intro c hc
  have hb : 32 ≤ c ∧ c ≤ 1024 := by unfold clsInv at hc; omega
  repeat (first | refine sc rfl ?_ | refine so rfl ?_ | refine sb rfl ?_ | refine C_scope ?_)
  rw [w64 (x := c - 2) (by omega) (by omega)]
  repeat (first | refine sc rfl ?_ | refine so rfl ?_ | refine sb rfl ?_ | refine C_scope ?_)
  refine C_if rfl (fun h3 => ?_) (fun h3 => ?_) <;> simp only [decide_eq_true_eq, decide_eq_false_iff_not] at h3
  · repeat (first | refine sc rfl ?_ | refine so rfl ?_ | refine sb rfl ?_ | refine C_scope ?_)
    refine ⟨_, rfl, rfl, ?_⟩
    have e2 : clsE n = 0 := by unfold clsE; rw [if_neg h, if_neg (by omega)]
    rw [clsInv_cls (by omega) (by omega) hc (by omega), e2]
  · repeat (first | refine sc rfl ?_ | refine so rfl ?_ | refine sb rfl ?_ | refine C_scope ?_)
    rw [w64 (x := c * 2) (by omega) (by omega)]
    exact ⟨c * 2, by unfold clsInv at hc ⊢; omega, by unfold clsInv at hc; omega, Le.sub [] ⟨rfl, rfl, trivial⟩ rfl⟩
theorem rep0 : ∀ k : Nat, Lib.repeatL [(0 : UInt8)] k = List.replicate k 0
  | 0 => rfl
  | k + 1 => by
    have := rep0 k
    simp only [Lib.repeatL] at this ⊢
    simp_all [List.replicate_succ]
theorem Repeat_p (k : Nat) (hk : k ≤ 1024) : FnP Tryz.prog 229 [.s [0], I64 (k : Int)] (· = .s (List.replicate k 0)) := by
  refine FnP.ofCalls (vs := [S [0], .int .i64 (k : Int)]) (v := S (List.replicate k 0)) ⟨_, Tryz.func229, rfl, by decide⟩ rfl rfl (fun G => by simp only [RepI]) (fun w => ?_)
  have := Tryz.strings_Repeat ⟨#[0]⟩ k w (by omega) (by simp only [ByteArray.size]; simp; omega)
  rw [show (⟨#[0]⟩ : ByteArray).data.toList = [0] from rfl, rep0] at this
  exact this
def hd2 (n : Int) : List UInt8 := [UInt8.ofNat (IntKind.u8.wrap (n / 256)).toNat, UInt8.ofNat (IntKind.u8.wrap n).toNat]
def padL (s : List UInt8) : List UInt8 := if s.length ≤ 1022 then hd2 s.length ++ s ++ List.replicate (cls s.length - 2 - s.length).toNat 0 else []
theorem cls_bd {n : Int} (h0 : 0 ≤ n) (h1 : n ≤ 1022) : n ≤ cls n - 2 ∧ cls n ≤ 1024 := by
  unfold cls; repeat' split
  all_goals omega
theorem Pad_p (s : List UInt8) (hs : s.length ≤ 9223372036854775807) : FnP Tryz.prog 188 [.s s] (· = .tup [.s (padL s), I64 (clsE s.length)]) := by
  refine FnP.intro Tryz.tabOK Tryz.wide_ Tryz.func188 rfl (by decide) rfl (fun X => ?_)
  repeat (first | refine sc rfl ?_ | refine so rfl ?_ | refine sb rfl ?_)
  refine O_call (Class_p _) (by rfl) (by rfl) (by rfl) (by rfl) (fun r hr => ?_)
  subst hr
  repeat (first | refine sc rfl ?_ | refine so rfl ?_ | refine sb rfl ?_)
  refine C_if rfl (fun h => ?_) (fun h => ?_)
  · repeat (first | refine sc rfl ?_ | refine so rfl ?_ | refine sb rfl ?_)
    refine ⟨_, rfl, rfl, ?_⟩
    have h' : ¬ s.length ≤ 1022 := by
      intro h2
      have : clsE s.length = 0 := by unfold clsE; rw [if_neg (by omega), if_neg (by omega)]
      rw [this] at h
      exact absurd h (by decide)
    rw [padL, if_neg h']
  · have h' : s.length ≤ 1022 := by
      rcases Nat.lt_or_ge 1022 s.length with h2 | h2
      · have : clsE s.length = 3 := by unfold clsE; rw [if_neg (by omega), if_pos (by omega)]
        rw [this] at h
        exact absurd h (by decide)
      · exact h2
    have e0 : clsE s.length = 0 := by unfold clsE; rw [if_neg (by omega), if_neg (by omega)]
    obtain ⟨b1, b2⟩ := cls_bd (n := (s.length : Int)) (by omega) (by omega)
    have e1 : padL s = hd2 s.length ++ s ++ List.replicate (cls s.length - 2 - s.length).toNat 0 := by rw [padL, if_pos h']
    have e2 : ((cls s.length - 2 - s.length).toNat : Int) = cls s.length - 2 - s.length := by omega
    rw [e0, e1]
    have e3 : (cls s.length - 2 - s.length).toNat ≤ 1024 := by omega
    generalize (cls s.length - 2 - s.length).toNat = k at *
    repeat (first | refine sc rfl ?_ | refine so rfl ?_ | refine sb rfl ?_)
    refine C_drawD rfl (by kernel_rfl) ?_
    repeat (first | refine sd rfl ?_ | refine sds rfl ?_ | refine sdv rfl ?_ | refine ⟨by decide, ?_⟩)
    have hh : List.map (fun n : Int => UInt8.ofNat n.toNat) [IntKind.u8.wrap ((s.length : Int).fdiv (2 ^ min (Int.toNat 8) IntKind.i64.bits)), IntKind.u8.wrap (s.length : Int)] = hd2 s.length := by
      simp only [List.map, hd2]
      rw [show (2 : Int) ^ min (Int.toNat 8) IntKind.i64.bits = 256 by decide, Int.fdiv_eq_ediv_of_nonneg _ (by decide)]
    rw [hh]
    have hl2 : (hd2 s.length).length = 2 := rfl
    refine ⟨by omega, ?_⟩
    repeat (first | refine sd rfl ?_)
    rw [w64 (x := cls s.length - 2) (by omega) (by omega), w64 (x := cls s.length - 2 - s.length) (by omega) (by omega), ← e2]
    refine D_call (Repeat_p k e3) rfl rfl rfl rfl ?_
    refine sd rfl ?_
    refine ⟨by rw [List.length_append, List.length_replicate]; omega, ?_⟩
    repeat (first | refine sd rfl ?_ | refine sc rfl ?_)
    exact ⟨_, rfl, rfl, rfl⟩
theorem known_p (k : Int) : FnP Tryz.prog 231 [I64 k] (· = B (decide (1 ≤ k ∧ k ≤ 9))) := by
  refine FnP.intro Tryz.tabOK Tryz.wide_ Tryz.func231 rfl (by decide) rfl (fun X => ?_)
  repeat (first | refine sc rfl ?_ | refine so rfl ?_ | refine sb rfl ?_)
  refine O_case 5 rfl (fun h => ?_) (fun h => ?_)
  · repeat (first | refine sc rfl ?_ | refine so rfl ?_ | refine sb rfl ?_)
    refine ⟨_, rfl, rfl, congrArg B ?_⟩
    simp at h
    simp [h]
  · repeat (first | refine sc rfl ?_ | refine so rfl ?_ | refine sb rfl ?_)
    refine ⟨_, rfl, rfl, congrArg B ?_⟩
    simp at h
    simp; omega

/-- A frame's bytes. -/
def b8 (n : Int) : UInt8 := UInt8.ofNat (IntKind.u8.wrap n).toNat
def fputL (k fl : Int) (b : List UInt8) : List UInt8 := if 1 ≤ k ∧ k ≤ 9 ∧ 0 ≤ fl ∧ fl ≤ 255 ∧ b.length ≤ 1024 then [b8 k, b8 fl, b8 (b.length / 256), b8 b.length] ++ b else []
def fputE (k fl : Int) (b : List UInt8) : Int := if ¬ (1 ≤ k ∧ k ≤ 9) then 4 else if ¬ (0 ≤ fl ∧ fl ≤ 255) then 1 else if 1024 < b.length then 3 else 0
theorem Put84_p (k fl : Int) (b : List UInt8) (hb : b.length ≤ 9223372036854775807) : FnP Tryz.prog 191 [.agg [I64 k, I64 fl, .s b]] (· = .tup [.s (fputL k fl b), I64 (fputE k fl b)]) := by
  refine FnP.intro Tryz.tabOK Tryz.wide_ Tryz.func191 rfl (by decide) rfl (fun X => ?_)
  repeat (first | refine sc rfl ?_ | refine so rfl ?_ | refine sb rfl ?_ | refine C_scope ?_)
  refine O_call (known_p k) (by rfl) (by rfl) (by rfl) (by rfl) (fun r hr => ?_)
  subst hr
  repeat (first | refine sc rfl ?_ | refine so rfl ?_ | refine sb rfl ?_)
  refine C_if rfl (fun h1 => ?_) (fun h1 => ?_) <;> simp only [Bool.not_eq_true', Bool.not_eq_false', decide_eq_true_eq, decide_eq_false_iff_not] at h1
  · repeat (first | refine sc rfl ?_ | refine so rfl ?_ | refine sb rfl ?_)
    refine ⟨_, rfl, rfl, ?_⟩
    rw [fputL, fputE, if_neg (by omega), if_pos (by omega)]
  repeat (first | refine sc rfl ?_ | refine so rfl ?_ | refine sb rfl ?_)
  refine O_join ⟨[(1, .bp 1 0), (2, .s []), (3, I64 0), (4, I64 (b.length : Int)), (14, B (decide (fl < 0 ∨ 255 < fl)))], [.box 1 102 [I64 k, I64 fl, .s b]]⟩ ?_ (fun s h => C_le _ h ?_)
  · refine O_case 18 rfl (fun h => ?_) (fun h => ?_) <;> simp at h
    · repeat (first | refine sc rfl ?_ | refine so rfl ?_ | refine sb rfl ?_)
      exact Le.sub [1] ⟨rfl, rfl, rfl, rfl, congrArg (fun x => some (B x)) (by rw [Bool.eq_iff_iff]; simp; omega), trivial⟩ rfl
    · repeat (first | refine sc rfl ?_ | refine so rfl ?_ | refine sb rfl ?_)
      exact Le.sub [1] ⟨rfl, rfl, rfl, rfl, congrArg (fun x => some (B x)) (by rw [Bool.eq_iff_iff]; simp; omega), trivial⟩ rfl
  refine C_if rfl (fun h2 => ?_) (fun h2 => ?_) <;> simp only [decide_eq_true_eq, decide_eq_false_iff_not] at h2
  · repeat (first | refine sc rfl ?_ | refine so rfl ?_ | refine sb rfl ?_)
    refine ⟨_, rfl, rfl, ?_⟩
    rw [fputL, fputE, if_neg (by omega), if_neg (by omega), if_pos (by omega)]
  repeat (first | refine sc rfl ?_ | refine so rfl ?_ | refine sb rfl ?_)
  refine C_if rfl (fun h3 => ?_) (fun h3 => ?_) <;> simp only [decide_eq_true_eq, decide_eq_false_iff_not] at h3
  · repeat (first | refine sc rfl ?_ | refine so rfl ?_ | refine sb rfl ?_)
    refine ⟨_, rfl, rfl, ?_⟩
    rw [fputL, fputE, if_neg (by omega), if_neg (by omega), if_neg (by omega), if_pos (by omega)]
  have e0 : fputE k fl b = 0 := by rw [fputE, if_neg (by omega), if_neg (by omega), if_neg (by omega)]
  have e1 : fputL k fl b = [b8 k, b8 fl, b8 (b.length / 256), b8 b.length] ++ b := by rw [fputL, if_pos (by omega)]
  rw [e0, e1]
  repeat (first | refine sc rfl ?_ | refine so rfl ?_ | refine sb rfl ?_ | refine ⟨by decide, ?_⟩)
  refine C_le _ (Le.freezebox 5 rfl rfl rfl) ?_
  refine C_drawD rfl (by kernel_rfl) ?_
  repeat (first | refine sd rfl ?_ | refine sda rfl ?_ | refine sdv rfl ?_ | refine ⟨by simp only [List.length_map, List.length_cons, List.length_nil]; omega, ?_⟩)
  repeat (first | refine sc rfl ?_)
  refine ⟨_, rfl, rfl, ?_⟩
  rw [show (2 : Int) ^ min (Int.toNat 8) IntKind.i64.bits = 256 by decide, Int.fdiv_eq_ediv_of_nonneg _ (by decide)]
  rfl
abbrev row3 (x y z : List UInt8) : AV := .sl 3 1 (chunkRow 1 [.s x, .s y, .s z])
theorem Join_p (x y z : List UInt8) (h : x.length + y.length + z.length ≤ 140737488355328) : FnP Tryz.prog 230 [row3 x y z, .s []] (· = .s (x ++ y ++ z)) := by
  refine FnP.ofHand ⟨_, Tryz.func230, rfl, by decide⟩ (fun G w cargs him hr => ?_)
  simp only [RepIT, RepI] at hr
  obtain ⟨v0, zs, rfl, ⟨aa, c, rfl, hc, ha⟩, v1, zs1, rfl, rfl, rfl⟩ := hr
  rcases ha with ha | ⟨b, o, rfl, ha⟩
  · omega
  have hcell : ∀ (j : Nat) (u : List UInt8), j < 3 → (chunkRow 1 [AV.s x, AV.s y, AV.s z]) j = [.s u] → w.cell? ⟨b, o + j, none⟩ = some (S u) := by
    intro j u hj he
    have h1 := ha j hj
    rw [he] at h1
    simp only [CellsAt, RepI] at h1
    obtain ⟨⟨q, q1, q2, _⟩, _⟩ := h1
    have := him.1 b _ q q1
    rw [q2] at this
    rw [Nat.mul_one] at this
    exact this
  have c0 := hcell 0 x (by omega) rfl
  have hj := Tryz.strings_Join b o c [⟨x.toArray⟩, ⟨y.toArray⟩, ⟨z.toArray⟩] ⟨#[]⟩ w (fun j u hu => by
    match j, hu with
    | 0, hu => simp at hu; subst hu; exact c0
    | 1, hu => simp at hu; subst hu; exact hcell 1 y (by omega) rfl
    | 2, hu => simp at hu; subst hu; exact hcell 2 z (by omega) rfl
    | j + 3, hu => simp at hu) (block_lt_of_cell c0) (by simp only [List.length_cons, List.length_nil]; omega) hc (by simp [Lib.join]; omega)
  refine (show Calls Tryz.prog 230 _ w _ from hj).mono ?_
  rintro e w' ⟨rfl, hb⟩
  exact ⟨⟨_, rfl, fun H => by simp [RepI, S, Lib.join]⟩, hb⟩
theorem row_p (x y z : List UInt8) (h : x.length + y.length + z.length ≤ 140737488355328) : FnP Tryz.prog 189 [row3 x y z] (· = .s (x ++ y ++ z)) := by
  refine FnP.intro Tryz.tabOK Tryz.wide_ Tryz.func189 rfl (by decide) rfl (fun X => ?_)
  repeat (first | refine sc rfl ?_ | refine so rfl ?_ | refine sb rfl ?_)
  refine O_call (Join_p x y z h) (by rfl) (by rfl) (by rfl) (by rfl) (fun r hr => ?_)
  subst hr
  repeat (first | refine sc rfl ?_ | refine so rfl ?_ | refine sb rfl ?_)
  exact ⟨_, rfl, rfl, rfl⟩
theorem bounded_p (e : Int) : FnP Tryz.prog 128 [I64 e] (· = B (decide (0 ≤ e ∧ e ≤ 1048576))) := by
  refine FnP.intro Tryz.tabOK Tryz.wide_ Tryz.func128 rfl (by decide) rfl (fun X => ?_)
  repeat (first | refine sc rfl ?_ | refine so rfl ?_ | refine sb rfl ?_)
  refine O_case 5 rfl (fun h => ?_) (fun h => ?_)
  · repeat (first | refine sc rfl ?_ | refine so rfl ?_ | refine sb rfl ?_)
    refine ⟨_, rfl, rfl, congrArg B ?_⟩
    simp at h
    simp [h]
  · repeat (first | refine sc rfl ?_ | refine so rfl ?_ | refine sb rfl ?_)
    refine ⟨_, rfl, rfl, congrArg B ?_⟩
    simp at h
    simp; omega
def rp (n : Nat) (st : Int) (d : List UInt8) : List UInt8 := vput st.toNat ++ vput n ++ d
def rputL (n : Nat) (st : Int) (d : List UInt8) : List UInt8 := if 0 ≤ st ∧ st ≤ 1048576 then (if clsE (rp n st d).length = 0 then fputL 9 0 (padL (rp n st d)) else []) else []
def rputE (n : Nat) (st : Int) (d : List UInt8) : Int := if 0 ≤ st ∧ st ≤ 1048576 then (if clsE (rp n st d).length = 0 then fputE 9 0 (padL (rp n st d)) else 3) else 1
theorem padL_len (s : List UInt8) : (padL s).length ≤ 4096 := by
  unfold padL
  split
  · have := cls_bd (n := (s.length : Int)) (by omega) (by omega)
    rw [List.length_append, List.length_append, List.length_replicate, show (hd2 (s.length : Int)).length = 2 from rfl]
    omega
  · simp
theorem rPut_p (n : Nat) (st : Int) (d : List UInt8) (hn : n < 18446744073709551616) (hd : d.length ≤ 140737488355308) : FnP Tryz.prog 129 [.agg [U64 (n : Int), I64 st, .s d]] (· = .tup [.s (rputL n st d), I64 (rputE n st d)]) := by
  refine FnP.intro Tryz.tabOK Tryz.wide_ Tryz.func129 rfl (by decide) rfl (fun X => ?_)
  repeat (first | refine sc rfl ?_ | refine so rfl ?_ | refine sb rfl ?_)
  refine O_call (bounded_p st) (by rfl) (by rfl) (by rfl) (by rfl) (fun r hr => ?_)
  subst hr
  repeat (first | refine sc rfl ?_ | refine so rfl ?_ | refine sb rfl ?_)
  refine C_if rfl (fun h1 => ?_) (fun h1 => ?_) <;> simp only [Bool.not_eq_true', Bool.not_eq_false', decide_eq_true_eq, decide_eq_false_iff_not] at h1
  · repeat (first | refine sc rfl ?_ | refine so rfl ?_ | refine sb rfl ?_)
    exact ⟨_, rfl, rfl, by rw [rputL, rputE, if_neg h1, if_neg h1]⟩
  have l1 := vput_len10 (n := st.toNat) (by omega)
  have l2 := vput_len10 hn
  have hrp : (rp n st d).length = (vput st.toNat).length + (vput n).length + d.length := by unfold rp; rw [List.length_append, List.length_append]
  rw [rputL, rputE, if_pos h1, if_pos h1]
  repeat (first | refine sc rfl ?_ | refine so rfl ?_ | refine sb rfl ?_)
  refine C_drawD rfl (by kernel_rfl) ?_
  repeat (first | refine sd rfl ?_)
  rw [show IntKind.u64.wrap st = ((st.toNat : Nat) : Int) by rw [u64wrap (by omega) (by omega)]; omega]
  refine D_call (Put83_p st.toNat (by omega)) rfl rfl rfl rfl ?_
  repeat (first | refine sd rfl ?_)
  refine D_call (Put83_p n hn) rfl rfl rfl rfl ?_
  repeat (first | refine sd rfl ?_)
  refine sds rfl ?_
  refine D_call (row_p (vput st.toNat) (vput n) d (by omega)) rfl rfl rfl rfl ?_
  rw [show vput st.toNat ++ vput n ++ d = rp n st d from rfl]
  refine D_call (Pad_p (rp n st d) (by omega)) rfl rfl rfl rfl ?_
  repeat (first | refine sd rfl ?_ | refine sc rfl ?_ | refine so rfl ?_)
  have lp := padL_len (rp n st d)
  generalize rp n st d = q at *
  refine C_if rfl (fun h2 => ?_) (fun h2 => ?_)
  · have h3 : ¬ clsE q.length = 0 := by simpa using h2
    repeat (first | refine sc rfl ?_ | refine so rfl ?_ | refine sb rfl ?_)
    exact ⟨_, rfl, rfl, by rw [if_neg h3, if_neg h3]⟩
  · have h3 : clsE q.length = 0 := by simpa using h2
    rw [if_pos h3, if_pos h3]
    repeat (first | refine sc rfl ?_ | refine so rfl ?_ | refine sb rfl ?_)
    refine O_call (Put84_p 9 0 (padL q) (by omega)) (by rfl) (by rfl) (by rfl) (by rfl) (fun r hr => ?_)
    subst hr
    repeat (first | refine sc rfl ?_ | refine so rfl ?_ | refine sb rfl ?_)
    exact ⟨_, rfl, rfl, rfl⟩
def rfail (n : Nat) (st : Int) : List UInt8 := rputL n (if 0 ≤ st ∧ st ≤ 1048576 then st else 1) []
theorem rFail_p (n : Nat) (st : Int) (hn : n < 18446744073709551616) : FnP Tryz.prog 79 [U64 (n : Int), I64 st] (· = .s (rfail n st)) := by
  refine FnP.intro Tryz.tabOK Tryz.wide_ Tryz.func79 rfl (by decide) rfl (fun X => ?_)
  repeat (first | refine sc rfl ?_ | refine so rfl ?_ | refine sb rfl ?_)
  refine O_call (bounded_p st) (by rfl) (by rfl) (by rfl) (by rfl) (fun r hr => ?_)
  subst hr
  repeat (first | refine sc rfl ?_ | refine so rfl ?_ | refine sb rfl ?_)
  refine C_ifJ ⟨[(0, U64 (n : Int)), (1, I64 (if 0 ≤ st ∧ st ≤ 1048576 then st else 1))], []⟩ rfl (fun h1 => ?_) (fun h1 => ?_) (fun s' h => C_le _ h ?_)
  · have h2 : ¬ (0 ≤ st ∧ st ≤ 1048576) := by simp at h1; omega
    repeat (first | refine sc rfl ?_ | refine so rfl ?_ | refine sb rfl ?_)
    exact Le.sub [] ⟨rfl, by rw [if_neg h2]; rfl, trivial⟩ rfl
  · have h2 : 0 ≤ st ∧ st ≤ 1048576 := by simp at h1; omega
    repeat (first | refine sc rfl ?_ | refine so rfl ?_ | refine sb rfl ?_)
    exact Le.sub [] ⟨rfl, by rw [if_pos h2]; rfl, trivial⟩ rfl
  repeat (first | refine sc rfl ?_ | refine so rfl ?_ | refine sb rfl ?_)
  refine O_call (rPut_p n (if 0 ≤ st ∧ st ≤ 1048576 then st else 1) [] hn (by decide)) (by rfl) (by rfl) (by rfl) (by rfl) (fun r hr => ?_)
  subst hr
  repeat (first | refine sc rfl ?_ | refine so rfl ?_ | refine sb rfl ?_)
  exact ⟨_, rfl, rfl, rfl⟩
end Go.Proofs

/- The symbolic walk, part 57: method values. -/
set_option linter.unusedSimpArgs false
set_option linter.unusedVariables false
namespace Go.Sy
open Go.RowKit

/-- A function with its first arguments. -/
def bndRP (f : FuncId) (fs : List AV) : RP :=
  { R := fun G y => ∃ vs : Array Value, y = .func (.func f) vs #[] ∧ RepIT G fs vs.toList
    mono := by
      rintro G H h v ⟨vs, e, r⟩
      exact ⟨vs, e, RepIT.mono h fs r⟩
    one := by
      rintro G v ⟨vs, e, r⟩
      subst e; rfl }

section
variable {P : Program} {T : Tab} {X : Ctx P T} {n : Nat} {e : Env} {st : St} {a : Act} {w : World} {ops : Array Oper} {K : St → Prop}

theorem O_makeBound {f : FuncId} {fs : Array Operand} {favs : List AV} {d : Nat} {ty : TypeId} {pos : String} {aft : Array Edge} {gd : Option (Nat × Bool)} {rest : List Oper} {s : List (Nat × AV)} {c : List Ch}
    (hg : guardA ops ⟨s, c⟩ ⟨some d, .makeFunc (.func f) fs #[], ty, pos, aft, gd⟩ = some true) (ha : opds s fs.toList = some favs) (himm : AV.imm.immL favs = true) (hd : Nat.blt d n = true)
    (kk : SymO X n ops rest ⟨(d, .p (bndRP f favs)) :: s, c⟩ K) : SymO X n ops (⟨some d, .makeFunc (.func f) fs #[], ty, pos, aft, gd⟩ :: rest) ⟨s, c⟩ K := by
  intro e a w Q r hq
  unfold wpList
  rw [if_pos (guardA_sound r hg)]
  refine .inl ?_
  have h1 := RepT.toI favs himm (opds_sound r ha)
  have hrun : (execOp a.eval ⟨some d, .makeFunc (.func f) fs #[], ty, pos, aft, gd⟩).run P w = .ok (.value (.func (.func f) (fs.map a.eval) #[])) w := by
    simp [execOp, Instr.makeFunc]
  unfold Oper.wp
  rw [hrun]
  exact kk _ _ _ Q (r.put hd (by simp only [Rep]; exact ⟨_, rfl, by rw [map_eval]; exact h1⟩)) hq

theorem run_callBound {f : FuncId} (hc : Callable P f) {dst : Option Tmp} {x : Operand} {args : Array Operand} {tys : Array TypeId} {ty : TypeId} {pos : String} {aft : Array Edge} {gd : Option (Nat × Bool)} (ρ : Operand → Value)
    {vs : Array Value} (hρ : ρ x = .func (.func f) vs #[]) (w : World) :
    (execOp ρ ⟨dst, .call ⟨.value x, args, tys⟩, ty, pos, aft, gd⟩).run P w = .ok (.enter f (vs ++ args.map ρ)) w := by
  obtain ⟨fn, h1, h2, h3⟩ := hc
  simp only [execOp, resolve, hρ, Deferred.ofValue, Sem.run_bind, Sem.run_pure, Result.andThen_ok, invoke]
  have h4 : ¬ fn.body = none := by intro h; simp [h] at h2
  have h5 : ¬ fn.name = "runtime.NumGoroutine" := by simpa using h3
  simp [callFunc, h1, h4, h5]

/-- A call of a method value that may change memory at known addresses. -/
theorem O_callBound (is : List Nat) {f : FuncId} {xo : Operand} {fs : List AV} {dst : Nat} {args : Array Operand} {tys : Array TypeId} {ty : TypeId} {pos : String} {aft : Array Edge} {gd : Option (Nat × Bool)} {rest : List Oper} {avs : List AV} {cs : List Abs} {cr : List Ch} {post : AV → List Abs → Prop}
    {s : List (Nat × AV)} {c : List Ch} (hf : FnA P f (fs ++ avs) cs post) (hxo : opd s xo = some (.p (bndRP f fs)))
    (hg : guardA ops ⟨s, c⟩ ⟨some dst, .call ⟨.value xo, args, tys⟩, ty, pos, aft, gd⟩ = some true) (ha : opds s args.toList = some avs) (himm : AV.imm.immL avs = true)
    (hp : pickA is c = some (cs, cr)) (hd : Nat.blt dst n = true)
    (k : ∀ r cs', post r cs' → SymO X n ops rest ⟨(dst, r) :: s, cs'.map Ch.abs ++ cr⟩ K) :
    SymO X n ops (⟨some dst, .call ⟨.value xo, args, tys⟩, ty, pos, aft, gd⟩ :: rest) ⟨s, c⟩ K := by
  intro e a w Q r hq
  unfold wpList
  rw [if_pos (guardA_sound r hg)]
  refine .inl ?_
  unfold Oper.wp
  have hx := Rep.toI (.p (bndRP f fs)) rfl (opd_sound r hxo)
  simp only [RepI] at hx
  obtain ⟨vs, hfv, hvs⟩ := hx
  rw [run_callBound hf.1 a.eval hfv w, Oper.upon_enter]
  have h1 := RepIT.app hvs (RepT.toI avs himm (opds_sound r ha))
  have harr : vs ++ args.map a.eval = (vs.toList ++ args.toList.map a.eval).toArray := by
    apply Array.ext'; simp
  rw [harr]
  refine (call_after (ops := ops) (Q := Q) hf r h1 (pickA_perm hp) hd k hq).mono ?_
  rintro en w' ⟨cv, rfl, h⟩
  exact h
end
end Go.Sy

/- The symbolic walk, part 59: method values in drawn regions. -/
set_option linter.unusedSimpArgs false
set_option linter.unusedVariables false
namespace Go.Sy
open Go.RowKit
section
variable {P : Program} {T : Tab} {X : Ctx P T} {n : Nat} {e : Env} {st : St} {a : Act} {w : World} {ops : Array Oper} {K : St → Prop}

end
end Go.Sy

/- The first frame of a connection. -/
set_option linter.unusedSimpArgs false
set_option linter.unusedVariables false
set_option maxRecDepth 100000
namespace Go.Proofs
open Go.Sy Go.Lib

theorem head2_c : FnP Tryz.prog 197 [.s [2, 0, 0, 0]] (· = .tup [I64 2, I64 0, I64 0, I64 0]) := by
  refine FnP.intro Tryz.tabOK Tryz.wide_ Tryz.func197 rfl (by decide) rfl (fun X => ?_)
  repeat (first | refine sc rfl ?_ | refine so rfl ?_ | refine sb rfl ?_)
  refine C_false rfl (by decide) ?_
  repeat (first | refine sc rfl ?_ | refine so rfl ?_ | refine sb rfl ?_)
  refine C_drawD rfl (by kernel_rfl) ?_
  repeat (first | refine sd rfl ?_ | refine sdb rfl ?_ | refine sds rfl ?_ | refine ⟨by decide, ?_⟩)
  repeat (first | refine sc rfl ?_ | refine so rfl ?_ | refine sb rfl ?_)
  refine O_call (known_p _) (by rfl) (by rfl) (by rfl) (by rfl) (fun r hr => ?_)
  subst hr
  repeat (first | refine sc rfl ?_ | refine so rfl ?_ | refine sb rfl ?_)
  refine C_false rfl (by decide) ?_
  repeat (first | refine sc rfl ?_ | refine so rfl ?_ | refine sb rfl ?_)
  refine C_false rfl (by decide) ?_
  repeat (first | refine sc rfl ?_ | refine so rfl ?_ | refine sb rfl ?_)
  refine C_drawD rfl (by kernel_rfl) ?_
  repeat (first | refine sd rfl ?_ | refine sdb rfl ?_ | refine sds rfl ?_ | refine ⟨by decide, ?_⟩)
  repeat (first | refine sc rfl ?_ | refine so rfl ?_ | refine sb rfl ?_)
  exact ⟨_, rfl, rfl, rfl⟩
theorem head0_c : FnP Tryz.prog 197 [.s []] (· = .tup [I64 0, I64 0, I64 0, I64 2]) := by
  refine FnP.intro Tryz.tabOK Tryz.wide_ Tryz.func197 rfl (by decide) rfl (fun X => ?_)
  repeat (first | refine sc rfl ?_ | refine so rfl ?_ | refine sb rfl ?_)
  refine C_true rfl (by decide) ?_
  repeat (first | refine sc rfl ?_ | refine so rfl ?_ | refine sb rfl ?_)
  exact ⟨_, rfl, rfl, rfl⟩
theorem fTake2_c : FnP Tryz.prog 145 [.s [2, 0, 0, 0]] (· = .tup [.agg [I64 2, I64 0, .s []], I64 4, I64 0]) := by
  refine FnP.intro Tryz.tabOK Tryz.wide_ Tryz.func145 rfl (by decide) rfl (fun X => ?_)
  repeat (first | refine sc rfl ?_ | refine so rfl ?_ | refine sb rfl ?_)
  refine O_call head2_c (by rfl) (by rfl) (by rfl) (by rfl) (fun r hr => ?_)
  subst hr
  repeat (first | refine sc rfl ?_ | refine so rfl ?_ | refine sb rfl ?_)
  refine C_false rfl rfl ?_
  repeat (first | refine sc rfl ?_ | refine so rfl ?_ | refine sb rfl ?_)
  refine C_false rfl (by decide) ?_
  repeat (first | refine sc rfl ?_ | refine so rfl ?_ | refine sb rfl ?_)
  refine ⟨by decide, ?_⟩
  repeat (first | refine sc rfl ?_ | refine so rfl ?_ | refine sb rfl ?_)
  exact ⟨_, rfl, rfl, rfl⟩
theorem fTake0_c : FnP Tryz.prog 145 [.s []] (· = .tup [.agg [I64 0, I64 0, .s []], I64 0, I64 2]) := by
  refine FnP.intro Tryz.tabOK Tryz.wide_ Tryz.func145 rfl (by decide) rfl (fun X => ?_)
  repeat (first | refine sc rfl ?_ | refine so rfl ?_ | refine sb rfl ?_)
  refine O_call head0_c (by rfl) (by rfl) (by rfl) (by rfl) (fun r hr => ?_)
  subst hr
  repeat (first | refine sc rfl ?_ | refine so rfl ?_ | refine sb rfl ?_)
  refine C_true rfl rfl ?_
  repeat (first | refine sc rfl ?_ | refine so rfl ?_ | refine sb rfl ?_)
  exact ⟨_, rfl, rfl, rfl⟩
theorem fPush_A (b : Nat) (st own : Int) (out : Value) : FnA Tryz.prog 101 [PT b 0, .s [2, 0, 0, 0]] [lnA b [] 0 st own out] (fun r cs' => r = SL 3 Frm.c [⟨2, 0, []⟩] ∧ cs' = [lnA b [] 0 st own out]) := by
  refine FnA.intro Tryz.tabOK Tryz.wide_ Tryz.func101 rfl (by decide) rfl (fun X => ?_)
  repeat (first | refine sc rfl ?_ | refine so rfl ?_ | refine sb rfl ?_)
  refine C_jumps (α := Unit) 0 rfl (fun _ => ⟨[(0, PT b 0), (5, .own 49)], [VEC 49 102 3 Frm.c [⟨2, 0, []⟩], .abs (lnA b [] 0 st own out)]⟩) (fun _ => True) (fun _ => 0) ?_ ?_
  · repeat (first | refine sc rfl ?_ | refine so rfl ?_ | refine sb rfl ?_)
    refine O_Xd (X_ptrnil Tryz.underlying270 rfl rfl rfl) ?_
    repeat (first | refine sc rfl ?_ | refine so rfl ?_ | refine sb rfl ?_)
    first
      | refine O_loadP 0 (reads_box 1) rfl rfl rfl rfl rfl rfl ?_
      | refine O_loadP 1 (reads_box 1) rfl rfl rfl rfl rfl rfl ?_
      | refine O_loadP 2 (reads_box 1) rfl rfl rfl rfl rfl rfl ?_
      | refine O_loadP 3 (reads_box 1) rfl rfl rfl rfl rfl rfl ?_
      | refine O_loadP 4 (reads_box 1) rfl rfl rfl rfl rfl rfl ?_
    repeat (first | refine sc rfl ?_ | refine so rfl ?_ | refine sb rfl ?_)
    refine C_false rfl rfl ?_
    repeat (first | refine sc rfl ?_ | refine so rfl ?_ | refine sb rfl ?_)
    first
      | refine O_loadP 0 (reads_box 0) rfl rfl rfl rfl rfl rfl ?_
      | refine O_loadP 1 (reads_box 0) rfl rfl rfl rfl rfl rfl ?_
      | refine O_loadP 2 (reads_box 0) rfl rfl rfl rfl rfl rfl ?_
      | refine O_loadP 3 (reads_box 0) rfl rfl rfl rfl rfl rfl ?_
      | refine O_loadP 4 (reads_box 0) rfl rfl rfl rfl rfl rfl ?_
    repeat (first | refine sc rfl ?_ | refine so rfl ?_ | refine sb rfl ?_)
    refine ⟨by decide, ?_⟩
    repeat (first | refine sc rfl ?_ | refine so rfl ?_ | refine sb rfl ?_)
    first
      | refine O_Xn (X_storeP 0 (writes_box (by show 0 < 5; decide)) rfl rfl rfl rfl rfl rfl rfl) ?_
      | refine O_Xn (X_storeP 1 (writes_box (by show 0 < 5; decide)) rfl rfl rfl rfl rfl rfl rfl) ?_
      | refine O_Xn (X_storeP 2 (writes_box (by show 0 < 5; decide)) rfl rfl rfl rfl rfl rfl rfl) ?_
      | refine O_Xn (X_storeP 3 (writes_box (by show 0 < 5; decide)) rfl rfl rfl rfl rfl rfl rfl) ?_
      | refine O_Xn (X_storeP 4 (writes_box (by show 0 < 5; decide)) rfl rfl rfl rfl rfl rfl rfl) ?_
    repeat (first | refine sc rfl ?_ | refine so rfl ?_ | refine sb rfl ?_)
    first
      | refine O_loadP 0 (reads_box 0) rfl rfl rfl rfl rfl rfl ?_
      | refine O_loadP 1 (reads_box 0) rfl rfl rfl rfl rfl rfl ?_
      | refine O_loadP 2 (reads_box 0) rfl rfl rfl rfl rfl rfl ?_
      | refine O_loadP 3 (reads_box 0) rfl rfl rfl rfl rfl rfl ?_
      | refine O_loadP 4 (reads_box 0) rfl rfl rfl rfl rfl rfl ?_
    repeat (first | refine sc rfl ?_ | refine so rfl ?_ | refine sb rfl ?_)
    refine O_call fTake2_c (by rfl) (by rfl) (by rfl) (by rfl) (fun r hr => ?_)
    subst hr
    repeat (first | refine sc rfl ?_ | refine so rfl ?_ | refine sb rfl ?_)
    refine C_true rfl rfl ?_
    refine C_le _ (Le.nilvec Frm.c 5 49 102 3 rfl rfl rfl) ?_
    repeat (first | refine sc rfl ?_ | refine so rfl ?_ | refine sb rfl ?_)
    refine O_push Frm.c [] ⟨2, 0, []⟩ [(0, PT b 0), (7, I64 4)] rfl rfl rfl rfl rfl rfl rfl rfl rfl rfl ⟨rfl, rfl, trivial⟩ rfl rfl (by decide) (by decide) ?_
    repeat (first | refine sc rfl ?_ | refine so rfl ?_ | refine sb rfl ?_)
    first
      | refine O_loadP 0 (reads_box 0) rfl rfl rfl rfl rfl rfl ?_
      | refine O_loadP 1 (reads_box 0) rfl rfl rfl rfl rfl rfl ?_
      | refine O_loadP 2 (reads_box 0) rfl rfl rfl rfl rfl rfl ?_
      | refine O_loadP 3 (reads_box 0) rfl rfl rfl rfl rfl rfl ?_
      | refine O_loadP 4 (reads_box 0) rfl rfl rfl rfl rfl rfl ?_
    repeat (first | refine sc rfl ?_ | refine so rfl ?_ | refine sb rfl ?_)
    refine ⟨by decide, ?_⟩
    repeat (first | refine sc rfl ?_ | refine so rfl ?_ | refine sb rfl ?_)
    first
      | refine O_Xn (X_storeP 0 (writes_box (by show 0 < 5; decide)) rfl rfl rfl rfl rfl rfl rfl) ?_
      | refine O_Xn (X_storeP 1 (writes_box (by show 0 < 5; decide)) rfl rfl rfl rfl rfl rfl rfl) ?_
      | refine O_Xn (X_storeP 2 (writes_box (by show 0 < 5; decide)) rfl rfl rfl rfl rfl rfl rfl) ?_
      | refine O_Xn (X_storeP 3 (writes_box (by show 0 < 5; decide)) rfl rfl rfl rfl rfl rfl rfl) ?_
      | refine O_Xn (X_storeP 4 (writes_box (by show 0 < 5; decide)) rfl rfl rfl rfl rfl rfl rfl) ?_
    repeat (first | refine sc rfl ?_ | refine so rfl ?_ | refine sb rfl ?_)
    refine C_goto ⟨rfl, (), trivial, ?_⟩
    first
      | exact Le.pick [0, 0] ⟨rfl, rfl, trivial⟩ rfl
      | exact Le.pick [1, 0] ⟨rfl, rfl, trivial⟩ rfl
      | exact Le.pick [1, 2] ⟨rfl, rfl, trivial⟩ rfl
  · intro _ _
    repeat (first | refine sc rfl ?_ | refine so rfl ?_ | refine sb rfl ?_)
    first
      | refine O_loadP 0 (reads_box 0) rfl rfl rfl rfl rfl rfl ?_
      | refine O_loadP 1 (reads_box 0) rfl rfl rfl rfl rfl rfl ?_
      | refine O_loadP 2 (reads_box 0) rfl rfl rfl rfl rfl rfl ?_
      | refine O_loadP 3 (reads_box 0) rfl rfl rfl rfl rfl rfl ?_
      | refine O_loadP 4 (reads_box 0) rfl rfl rfl rfl rfl rfl ?_
    repeat (first | refine sc rfl ?_ | refine so rfl ?_ | refine sb rfl ?_)
    refine O_call fTake0_c (by rfl) (by rfl) (by rfl) (by rfl) (fun r hr => ?_)
    subst hr
    repeat (first | refine sc rfl ?_ | refine so rfl ?_ | refine sb rfl ?_)
    refine C_false rfl rfl ?_
    repeat (first | refine sc rfl ?_ | refine so rfl ?_ | refine sb rfl ?_)
    refine C_true rfl rfl ?_
    refine C_le _ (Le.freezeL (l := [(⟨2, 0, []⟩ : Frm)]) (cells := Frm.c) 5 rfl rfl) ?_
    repeat (first | refine sc rfl ?_ | refine so rfl ?_ | refine sb rfl ?_)
    first
      | exact ⟨_, [_], _, rfl, pickA_perm (is := [0]) (As := [_]) rfl, rfl, rfl, rfl⟩
      | exact ⟨_, [_], _, rfl, pickA_perm (is := [1]) (As := [_]) rfl, rfl, rfl, rfl⟩
      | exact ⟨_, [_], _, rfl, pickA_perm (is := [2]) (As := [_]) rfl, rfl, rfl, rfl⟩
      | exact ⟨_, [_], _, rfl, pickA_perm (is := [3]) (As := [_]) rfl, rfl, rfl, rfl⟩
      | exact ⟨_, [_], _, rfl, pickA_perm (is := [4]) (As := [_]) rfl, rfl, rfl, rfl⟩
theorem helloTake0_c : FnP Tryz.prog 198 [.s []] (· = .tup [.agg [I64 0, I64 0, U64 0], I64 1]) := by
  refine FnP.intro Tryz.tabOK Tryz.wide_ Tryz.func198 rfl (by decide) rfl (fun X => ?_)
  repeat (first | refine sc rfl ?_ | refine so rfl ?_ | refine sb rfl ?_)
  refine O_callA [] (Read_A0 []) (by rfl) (by rfl) (by rfl) (by rfl) (by rfl) ?_
  rintro r' cs' ⟨g, rfl, rfl⟩
  repeat (first | refine sc rfl ?_ | refine so rfl ?_ | refine sb rfl ?_)
  refine O_makeBound rfl rfl rfl rfl ?_
  repeat (first | refine sc rfl ?_ | refine so rfl ?_ | refine sb rfl ?_)
  first
    | refine O_callBound [0] (Int_A g [] 0 0 2147483647 (by decide) (Nat.zero_le _) (by decide)) rfl rfl rfl rfl rfl rfl ?_
    | refine O_callBound [1] (Int_A g [] 0 0 2147483647 (by decide) (Nat.zero_le _) (by decide)) rfl rfl rfl rfl rfl rfl ?_
  rintro r' cs' ⟨rfl, rfl⟩
  rw [show (intT 2147483647 (List.drop 0 ([] : List UInt8))).1 = 0 from rfl, show (intT 2147483647 (List.drop 0 ([] : List UInt8))).2.1 = 0 from rfl, show (intT 2147483647 (List.drop 0 ([] : List UInt8))).2.2 = 2 from rfl, show rdV (0 : Int) 0 0 2 = 0 from rfl, show rdAt 0 0 0 2 = 0 from rfl, show rdE 0 2 = 2 from rfl]
  repeat (first | refine sc rfl ?_ | refine so rfl ?_ | refine sb rfl ?_)
  first
    | refine O_callBound [0] (Int_A g [] 0 2 2147483647 (by decide) (Nat.zero_le _) (by decide)) rfl rfl rfl rfl rfl rfl ?_
    | refine O_callBound [1] (Int_A g [] 0 2 2147483647 (by decide) (Nat.zero_le _) (by decide)) rfl rfl rfl rfl rfl rfl ?_
  rintro r' cs' ⟨rfl, rfl⟩
  rw [show (intT 2147483647 (List.drop 0 ([] : List UInt8))).1 = 0 from rfl, show (intT 2147483647 (List.drop 0 ([] : List UInt8))).2.1 = 0 from rfl, show (intT 2147483647 (List.drop 0 ([] : List UInt8))).2.2 = 2 from rfl, show rdV (0 : Int) 0 2 2 = 0 from rfl, show rdAt 0 0 2 2 = 0 from rfl, show rdE 2 2 = 2 from rfl]
  repeat (first | refine sc rfl ?_ | refine so rfl ?_ | refine sb rfl ?_)
  first
    | refine O_callA [0] (Num_A g [] 0 2 (Nat.zero_le _) (by decide)) (by rfl) (by rfl) (by rfl) (by rfl) (by rfl) ?_
    | refine O_callA [1] (Num_A g [] 0 2 (Nat.zero_le _) (by decide)) (by rfl) (by rfl) (by rfl) (by rfl) (by rfl) ?_
    | refine O_callA [2] (Num_A g [] 0 2 (Nat.zero_le _) (by decide)) (by rfl) (by rfl) (by rfl) (by rfl) (by rfl) ?_
    | refine O_callA [3] (Num_A g [] 0 2 (Nat.zero_le _) (by decide)) (by rfl) (by rfl) (by rfl) (by rfl) (by rfl) ?_
    | refine O_callA [4] (Num_A g [] 0 2 (Nat.zero_le _) (by decide)) (by rfl) (by rfl) (by rfl) (by rfl) (by rfl) ?_
  rintro r' cs' ⟨rfl, rfl⟩
  rw [show (tk (List.drop 0 ([] : List UInt8))).2.1 = 0 from rfl, show (tk (List.drop 0 ([] : List UInt8))).2.2 = 2 from rfl, show rdAt 0 0 2 2 = 0 from rfl, show rdE 2 2 = 2 from rfl]
  repeat (first | refine sc rfl ?_ | refine so rfl ?_ | refine sb rfl ?_)
  first
    | refine O_callA [0] (Done_A g [] 0 2) (by rfl) (by rfl) (by rfl) (by rfl) (by rfl) ?_
    | refine O_callA [1] (Done_A g [] 0 2) (by rfl) (by rfl) (by rfl) (by rfl) (by rfl) ?_
    | refine O_callA [2] (Done_A g [] 0 2) (by rfl) (by rfl) (by rfl) (by rfl) (by rfl) ?_
    | refine O_callA [3] (Done_A g [] 0 2) (by rfl) (by rfl) (by rfl) (by rfl) (by rfl) ?_
    | refine O_callA [4] (Done_A g [] 0 2) (by rfl) (by rfl) (by rfl) (by rfl) (by rfl) ?_
  rintro r' cs' ⟨rfl, rfl⟩
  rw [show rdDone [] 0 2 = 2 from rfl]
  repeat (first | refine sc rfl ?_ | refine so rfl ?_ | refine sb rfl ?_)
  refine C_true rfl rfl ?_
  repeat (first | refine sc rfl ?_ | refine so rfl ?_ | refine sb rfl ?_)
  exact ⟨_, rfl, rfl, rfl⟩
theorem verify0_c (t : Nat) : FnP Tryz.prog 146 [PT t 0, .s []] (· = .tup [I64 0, I64 16]) := by
  refine FnP.intro Tryz.tabOK Tryz.wide_ Tryz.func146 rfl (by decide) rfl (fun X => ?_)
  repeat (first | refine sc rfl ?_ | refine so rfl ?_ | refine sb rfl ?_)
  refine O_call helloTake0_c (by rfl) (by rfl) (by rfl) (by rfl) (fun r hr => ?_)
  subst hr
  repeat (first | refine sc rfl ?_ | refine so rfl ?_ | refine sb rfl ?_)
  refine C_true rfl rfl ?_
  repeat (first | refine sc rfl ?_ | refine so rfl ?_ | refine sb rfl ?_)
  exact ⟨_, rfl, rfl, rfl⟩
end Go.Proofs

/- A server's first frame. -/
set_option linter.unusedSimpArgs false
set_option linter.unusedVariables false
set_option maxRecDepth 100000
namespace Go.Proofs
open Go.Sy Go.Lib

abbrev srvL3 (s mg tm : Nat) (now : Int) (g cc b : Nat) (st own : Int) (out : Value) : List Abs := [srvL s mg tm now (HD g 1 cc), lnsA (HD g 1 cc) b, lnA b [] 0 st own out]
theorem cPush_A (s mg tm : Nat) (now : Int) (g cc b : Nat) : FnA Tryz.prog 49 [PT s 67, I64 0, .s [2, 0, 0, 0]] (srvL3 s mg tm now g cc b 0 (-1) (.slice none 0 0)) (fun r cs' => r = .tup [SL 3 Frm.c [⟨2, 0, []⟩], I64 0] ∧ cs' = srvL3 s mg tm now g cc b 0 (-1) (.slice none 0 0)) := by
  refine FnA.intro Tryz.tabOK Tryz.wide_ Tryz.func49 rfl (by decide) rfl (fun X => ?_)
  repeat (first | refine sc rfl ?_ | refine so rfl ?_ | refine sb rfl ?_)
  first
    | refine O_callA [0, 0] (find_A s mg tm now g cc b) (by rfl) (by rfl) (by rfl) (by rfl) (by rfl) ?_
    | refine O_callA [0, 1] (find_A s mg tm now g cc b) (by rfl) (by rfl) (by rfl) (by rfl) (by rfl) ?_
    | refine O_callA [0, 2] (find_A s mg tm now g cc b) (by rfl) (by rfl) (by rfl) (by rfl) (by rfl) ?_
    | refine O_callA [0, 3] (find_A s mg tm now g cc b) (by rfl) (by rfl) (by rfl) (by rfl) (by rfl) ?_
    | refine O_callA [0, 4] (find_A s mg tm now g cc b) (by rfl) (by rfl) (by rfl) (by rfl) (by rfl) ?_
    | refine O_callA [0, 5] (find_A s mg tm now g cc b) (by rfl) (by rfl) (by rfl) (by rfl) (by rfl) ?_
    | refine O_callA [1, 0] (find_A s mg tm now g cc b) (by rfl) (by rfl) (by rfl) (by rfl) (by rfl) ?_
    | refine O_callA [1, 1] (find_A s mg tm now g cc b) (by rfl) (by rfl) (by rfl) (by rfl) (by rfl) ?_
    | refine O_callA [1, 2] (find_A s mg tm now g cc b) (by rfl) (by rfl) (by rfl) (by rfl) (by rfl) ?_
    | refine O_callA [1, 3] (find_A s mg tm now g cc b) (by rfl) (by rfl) (by rfl) (by rfl) (by rfl) ?_
    | refine O_callA [1, 4] (find_A s mg tm now g cc b) (by rfl) (by rfl) (by rfl) (by rfl) (by rfl) ?_
    | refine O_callA [1, 5] (find_A s mg tm now g cc b) (by rfl) (by rfl) (by rfl) (by rfl) (by rfl) ?_
    | refine O_callA [2, 0] (find_A s mg tm now g cc b) (by rfl) (by rfl) (by rfl) (by rfl) (by rfl) ?_
    | refine O_callA [2, 1] (find_A s mg tm now g cc b) (by rfl) (by rfl) (by rfl) (by rfl) (by rfl) ?_
    | refine O_callA [2, 2] (find_A s mg tm now g cc b) (by rfl) (by rfl) (by rfl) (by rfl) (by rfl) ?_
    | refine O_callA [2, 3] (find_A s mg tm now g cc b) (by rfl) (by rfl) (by rfl) (by rfl) (by rfl) ?_
    | refine O_callA [2, 4] (find_A s mg tm now g cc b) (by rfl) (by rfl) (by rfl) (by rfl) (by rfl) ?_
    | refine O_callA [2, 5] (find_A s mg tm now g cc b) (by rfl) (by rfl) (by rfl) (by rfl) (by rfl) ?_
    | refine O_callA [3, 0] (find_A s mg tm now g cc b) (by rfl) (by rfl) (by rfl) (by rfl) (by rfl) ?_
    | refine O_callA [3, 1] (find_A s mg tm now g cc b) (by rfl) (by rfl) (by rfl) (by rfl) (by rfl) ?_
    | refine O_callA [3, 2] (find_A s mg tm now g cc b) (by rfl) (by rfl) (by rfl) (by rfl) (by rfl) ?_
    | refine O_callA [3, 3] (find_A s mg tm now g cc b) (by rfl) (by rfl) (by rfl) (by rfl) (by rfl) ?_
    | refine O_callA [3, 4] (find_A s mg tm now g cc b) (by rfl) (by rfl) (by rfl) (by rfl) (by rfl) ?_
    | refine O_callA [3, 5] (find_A s mg tm now g cc b) (by rfl) (by rfl) (by rfl) (by rfl) (by rfl) ?_
    | refine O_callA [4, 0] (find_A s mg tm now g cc b) (by rfl) (by rfl) (by rfl) (by rfl) (by rfl) ?_
    | refine O_callA [4, 1] (find_A s mg tm now g cc b) (by rfl) (by rfl) (by rfl) (by rfl) (by rfl) ?_
    | refine O_callA [4, 2] (find_A s mg tm now g cc b) (by rfl) (by rfl) (by rfl) (by rfl) (by rfl) ?_
    | refine O_callA [4, 3] (find_A s mg tm now g cc b) (by rfl) (by rfl) (by rfl) (by rfl) (by rfl) ?_
    | refine O_callA [4, 4] (find_A s mg tm now g cc b) (by rfl) (by rfl) (by rfl) (by rfl) (by rfl) ?_
    | refine O_callA [4, 5] (find_A s mg tm now g cc b) (by rfl) (by rfl) (by rfl) (by rfl) (by rfl) ?_
    | refine O_callA [5, 0] (find_A s mg tm now g cc b) (by rfl) (by rfl) (by rfl) (by rfl) (by rfl) ?_
    | refine O_callA [5, 1] (find_A s mg tm now g cc b) (by rfl) (by rfl) (by rfl) (by rfl) (by rfl) ?_
    | refine O_callA [5, 2] (find_A s mg tm now g cc b) (by rfl) (by rfl) (by rfl) (by rfl) (by rfl) ?_
    | refine O_callA [5, 3] (find_A s mg tm now g cc b) (by rfl) (by rfl) (by rfl) (by rfl) (by rfl) ?_
    | refine O_callA [5, 4] (find_A s mg tm now g cc b) (by rfl) (by rfl) (by rfl) (by rfl) (by rfl) ?_
    | refine O_callA [5, 5] (find_A s mg tm now g cc b) (by rfl) (by rfl) (by rfl) (by rfl) (by rfl) ?_
    | refine O_callA [6, 0] (find_A s mg tm now g cc b) (by rfl) (by rfl) (by rfl) (by rfl) (by rfl) ?_
    | refine O_callA [6, 1] (find_A s mg tm now g cc b) (by rfl) (by rfl) (by rfl) (by rfl) (by rfl) ?_
    | refine O_callA [6, 2] (find_A s mg tm now g cc b) (by rfl) (by rfl) (by rfl) (by rfl) (by rfl) ?_
    | refine O_callA [6, 3] (find_A s mg tm now g cc b) (by rfl) (by rfl) (by rfl) (by rfl) (by rfl) ?_
    | refine O_callA [6, 4] (find_A s mg tm now g cc b) (by rfl) (by rfl) (by rfl) (by rfl) (by rfl) ?_
    | refine O_callA [6, 5] (find_A s mg tm now g cc b) (by rfl) (by rfl) (by rfl) (by rfl) (by rfl) ?_
  rintro r' cs' ⟨rfl, rfl⟩
  repeat (first | refine sc rfl ?_ | refine so rfl ?_ | refine sb rfl ?_)
  refine C_false rfl rfl ?_
  repeat (first | refine sc rfl ?_ | refine so rfl ?_ | refine sb rfl ?_)
  first
    | refine O_callA [0] (takes_A b [] 0 0 (-1) (.slice none 0 0)) (by rfl) (by rfl) (by rfl) (by rfl) (by rfl) ?_
    | refine O_callA [1] (takes_A b [] 0 0 (-1) (.slice none 0 0)) (by rfl) (by rfl) (by rfl) (by rfl) (by rfl) ?_
    | refine O_callA [2] (takes_A b [] 0 0 (-1) (.slice none 0 0)) (by rfl) (by rfl) (by rfl) (by rfl) (by rfl) ?_
    | refine O_callA [3] (takes_A b [] 0 0 (-1) (.slice none 0 0)) (by rfl) (by rfl) (by rfl) (by rfl) (by rfl) ?_
    | refine O_callA [4] (takes_A b [] 0 0 (-1) (.slice none 0 0)) (by rfl) (by rfl) (by rfl) (by rfl) (by rfl) ?_
  rintro r' cs' ⟨rfl, rfl⟩
  repeat (first | refine sc rfl ?_ | refine so rfl ?_ | refine sb rfl ?_)
  refine C_false rfl rfl ?_
  repeat (first | refine sc rfl ?_ | refine so rfl ?_ | refine sb rfl ?_)
  first
    | refine O_callA [0] (fPush_A b 0 (-1) (.slice none 0 0)) (by rfl) (by rfl) (by rfl) (by rfl) (by rfl) ?_
    | refine O_callA [1] (fPush_A b 0 (-1) (.slice none 0 0)) (by rfl) (by rfl) (by rfl) (by rfl) (by rfl) ?_
    | refine O_callA [2] (fPush_A b 0 (-1) (.slice none 0 0)) (by rfl) (by rfl) (by rfl) (by rfl) (by rfl) ?_
    | refine O_callA [3] (fPush_A b 0 (-1) (.slice none 0 0)) (by rfl) (by rfl) (by rfl) (by rfl) (by rfl) ?_
    | refine O_callA [4] (fPush_A b 0 (-1) (.slice none 0 0)) (by rfl) (by rfl) (by rfl) (by rfl) (by rfl) ?_
  rintro r' cs' ⟨rfl, rfl⟩
  repeat (first | refine sc rfl ?_ | refine so rfl ?_ | refine sb rfl ?_)
  first
    | exact ⟨_, [_, _, _], _, rfl, pickA_perm (is := [1, 1, 0]) (As := [_, _, _]) rfl, rfl, rfl, rfl⟩
    | exact ⟨_, [_, _, _], _, rfl, pickA_perm (is := [0, 0, 0]) (As := [_, _, _]) rfl, rfl, rfl, rfl⟩
theorem cTakes_A (s mg tm : Nat) (now : Int) (g cc b : Nat) (st own : Int) (out : Value) : FnA Tryz.prog 50 [PT s 67, I64 0] (srvL3 s mg tm now g cc b st own out) (fun r cs' => r = B (decide (st < 2)) ∧ cs' = srvL3 s mg tm now g cc b st own out) := by
  refine FnA.intro Tryz.tabOK Tryz.wide_ Tryz.func50 rfl (by decide) rfl (fun X => ?_)
  repeat (first | refine sc rfl ?_ | refine so rfl ?_ | refine sb rfl ?_)
  first
    | refine O_callA [0, 0] (find_A s mg tm now g cc b) (by rfl) (by rfl) (by rfl) (by rfl) (by rfl) ?_
    | refine O_callA [0, 1] (find_A s mg tm now g cc b) (by rfl) (by rfl) (by rfl) (by rfl) (by rfl) ?_
    | refine O_callA [0, 2] (find_A s mg tm now g cc b) (by rfl) (by rfl) (by rfl) (by rfl) (by rfl) ?_
    | refine O_callA [0, 3] (find_A s mg tm now g cc b) (by rfl) (by rfl) (by rfl) (by rfl) (by rfl) ?_
    | refine O_callA [0, 4] (find_A s mg tm now g cc b) (by rfl) (by rfl) (by rfl) (by rfl) (by rfl) ?_
    | refine O_callA [0, 5] (find_A s mg tm now g cc b) (by rfl) (by rfl) (by rfl) (by rfl) (by rfl) ?_
    | refine O_callA [1, 0] (find_A s mg tm now g cc b) (by rfl) (by rfl) (by rfl) (by rfl) (by rfl) ?_
    | refine O_callA [1, 1] (find_A s mg tm now g cc b) (by rfl) (by rfl) (by rfl) (by rfl) (by rfl) ?_
    | refine O_callA [1, 2] (find_A s mg tm now g cc b) (by rfl) (by rfl) (by rfl) (by rfl) (by rfl) ?_
    | refine O_callA [1, 3] (find_A s mg tm now g cc b) (by rfl) (by rfl) (by rfl) (by rfl) (by rfl) ?_
    | refine O_callA [1, 4] (find_A s mg tm now g cc b) (by rfl) (by rfl) (by rfl) (by rfl) (by rfl) ?_
    | refine O_callA [1, 5] (find_A s mg tm now g cc b) (by rfl) (by rfl) (by rfl) (by rfl) (by rfl) ?_
    | refine O_callA [2, 0] (find_A s mg tm now g cc b) (by rfl) (by rfl) (by rfl) (by rfl) (by rfl) ?_
    | refine O_callA [2, 1] (find_A s mg tm now g cc b) (by rfl) (by rfl) (by rfl) (by rfl) (by rfl) ?_
    | refine O_callA [2, 2] (find_A s mg tm now g cc b) (by rfl) (by rfl) (by rfl) (by rfl) (by rfl) ?_
    | refine O_callA [2, 3] (find_A s mg tm now g cc b) (by rfl) (by rfl) (by rfl) (by rfl) (by rfl) ?_
    | refine O_callA [2, 4] (find_A s mg tm now g cc b) (by rfl) (by rfl) (by rfl) (by rfl) (by rfl) ?_
    | refine O_callA [2, 5] (find_A s mg tm now g cc b) (by rfl) (by rfl) (by rfl) (by rfl) (by rfl) ?_
    | refine O_callA [3, 0] (find_A s mg tm now g cc b) (by rfl) (by rfl) (by rfl) (by rfl) (by rfl) ?_
    | refine O_callA [3, 1] (find_A s mg tm now g cc b) (by rfl) (by rfl) (by rfl) (by rfl) (by rfl) ?_
    | refine O_callA [3, 2] (find_A s mg tm now g cc b) (by rfl) (by rfl) (by rfl) (by rfl) (by rfl) ?_
    | refine O_callA [3, 3] (find_A s mg tm now g cc b) (by rfl) (by rfl) (by rfl) (by rfl) (by rfl) ?_
    | refine O_callA [3, 4] (find_A s mg tm now g cc b) (by rfl) (by rfl) (by rfl) (by rfl) (by rfl) ?_
    | refine O_callA [3, 5] (find_A s mg tm now g cc b) (by rfl) (by rfl) (by rfl) (by rfl) (by rfl) ?_
    | refine O_callA [4, 0] (find_A s mg tm now g cc b) (by rfl) (by rfl) (by rfl) (by rfl) (by rfl) ?_
    | refine O_callA [4, 1] (find_A s mg tm now g cc b) (by rfl) (by rfl) (by rfl) (by rfl) (by rfl) ?_
    | refine O_callA [4, 2] (find_A s mg tm now g cc b) (by rfl) (by rfl) (by rfl) (by rfl) (by rfl) ?_
    | refine O_callA [4, 3] (find_A s mg tm now g cc b) (by rfl) (by rfl) (by rfl) (by rfl) (by rfl) ?_
    | refine O_callA [4, 4] (find_A s mg tm now g cc b) (by rfl) (by rfl) (by rfl) (by rfl) (by rfl) ?_
    | refine O_callA [4, 5] (find_A s mg tm now g cc b) (by rfl) (by rfl) (by rfl) (by rfl) (by rfl) ?_
    | refine O_callA [5, 0] (find_A s mg tm now g cc b) (by rfl) (by rfl) (by rfl) (by rfl) (by rfl) ?_
    | refine O_callA [5, 1] (find_A s mg tm now g cc b) (by rfl) (by rfl) (by rfl) (by rfl) (by rfl) ?_
    | refine O_callA [5, 2] (find_A s mg tm now g cc b) (by rfl) (by rfl) (by rfl) (by rfl) (by rfl) ?_
    | refine O_callA [5, 3] (find_A s mg tm now g cc b) (by rfl) (by rfl) (by rfl) (by rfl) (by rfl) ?_
    | refine O_callA [5, 4] (find_A s mg tm now g cc b) (by rfl) (by rfl) (by rfl) (by rfl) (by rfl) ?_
    | refine O_callA [5, 5] (find_A s mg tm now g cc b) (by rfl) (by rfl) (by rfl) (by rfl) (by rfl) ?_
    | refine O_callA [6, 0] (find_A s mg tm now g cc b) (by rfl) (by rfl) (by rfl) (by rfl) (by rfl) ?_
    | refine O_callA [6, 1] (find_A s mg tm now g cc b) (by rfl) (by rfl) (by rfl) (by rfl) (by rfl) ?_
    | refine O_callA [6, 2] (find_A s mg tm now g cc b) (by rfl) (by rfl) (by rfl) (by rfl) (by rfl) ?_
    | refine O_callA [6, 3] (find_A s mg tm now g cc b) (by rfl) (by rfl) (by rfl) (by rfl) (by rfl) ?_
    | refine O_callA [6, 4] (find_A s mg tm now g cc b) (by rfl) (by rfl) (by rfl) (by rfl) (by rfl) ?_
    | refine O_callA [6, 5] (find_A s mg tm now g cc b) (by rfl) (by rfl) (by rfl) (by rfl) (by rfl) ?_
  rintro r' cs' ⟨rfl, rfl⟩
  repeat (first | refine sc rfl ?_ | refine so rfl ?_ | refine sb rfl ?_)
  first
    | refine O_callA [0] (takes_A b [] 0 st own out) (by rfl) (by rfl) (by rfl) (by rfl) (by rfl) ?_
    | refine O_callA [1] (takes_A b [] 0 st own out) (by rfl) (by rfl) (by rfl) (by rfl) (by rfl) ?_
    | refine O_callA [2] (takes_A b [] 0 st own out) (by rfl) (by rfl) (by rfl) (by rfl) (by rfl) ?_
    | refine O_callA [3] (takes_A b [] 0 st own out) (by rfl) (by rfl) (by rfl) (by rfl) (by rfl) ?_
    | refine O_callA [4] (takes_A b [] 0 st own out) (by rfl) (by rfl) (by rfl) (by rfl) (by rfl) ?_
  rintro r' cs' ⟨rfl, rfl⟩
  repeat (first | refine sc rfl ?_ | refine so rfl ?_ | refine sb rfl ?_)
  first
    | exact ⟨_, [_, _, _], _, rfl, pickA_perm (is := [1, 1, 0]) (As := [_, _, _]) rfl, rfl, rfl, rfl⟩
    | exact ⟨_, [_, _, _], _, rfl, pickA_perm (is := [0, 0, 0]) (As := [_, _, _]) rfl, rfl, rfl, rfl⟩
theorem fBroken_A (b : Nat) (st own : Int) (out : Value) : FnA Tryz.prog 104 [PT b 0] [lnA b [] 0 st own out] (fun r cs' => r = I64 0 ∧ cs' = [lnA b [] 0 st own out]) := by
  refine FnA.intro Tryz.tabOK Tryz.wide_ Tryz.func104 rfl (by decide) rfl (fun X => ?_)
  repeat (first | refine sc rfl ?_ | refine so rfl ?_ | refine sb rfl ?_)
  refine O_Xd (X_ptrnil Tryz.underlying270 rfl rfl rfl) ?_
  repeat (first | refine sc rfl ?_ | refine so rfl ?_ | refine sb rfl ?_)
  refine C_false rfl rfl ?_
  repeat (first | refine sc rfl ?_ | refine so rfl ?_ | refine sb rfl ?_)
  first
    | refine O_loadP 0 (reads_box 1) rfl rfl rfl rfl rfl rfl ?_
    | refine O_loadP 1 (reads_box 1) rfl rfl rfl rfl rfl rfl ?_
    | refine O_loadP 2 (reads_box 1) rfl rfl rfl rfl rfl rfl ?_
    | refine O_loadP 3 (reads_box 1) rfl rfl rfl rfl rfl rfl ?_
    | refine O_loadP 4 (reads_box 1) rfl rfl rfl rfl rfl rfl ?_
  repeat (first | refine sc rfl ?_ | refine so rfl ?_ | refine sb rfl ?_)
  first
    | exact ⟨_, [_], _, rfl, pickA_perm (is := [0]) (As := [_]) rfl, rfl, rfl, rfl⟩
    | exact ⟨_, [_], _, rfl, pickA_perm (is := [1]) (As := [_]) rfl, rfl, rfl, rfl⟩
    | exact ⟨_, [_], _, rfl, pickA_perm (is := [2]) (As := [_]) rfl, rfl, rfl, rfl⟩
    | exact ⟨_, [_], _, rfl, pickA_perm (is := [3]) (As := [_]) rfl, rfl, rfl, rfl⟩
    | exact ⟨_, [_], _, rfl, pickA_perm (is := [4]) (As := [_]) rfl, rfl, rfl, rfl⟩
theorem cBroken_A (s mg tm : Nat) (now : Int) (g cc b : Nat) (st own : Int) (out : Value) : FnA Tryz.prog 52 [PT s 67, I64 0] (srvL3 s mg tm now g cc b st own out) (fun r cs' => r = I64 0 ∧ cs' = srvL3 s mg tm now g cc b st own out) := by
  refine FnA.intro Tryz.tabOK Tryz.wide_ Tryz.func52 rfl (by decide) rfl (fun X => ?_)
  repeat (first | refine sc rfl ?_ | refine so rfl ?_ | refine sb rfl ?_)
  first
    | refine O_callA [0, 0] (find_A s mg tm now g cc b) (by rfl) (by rfl) (by rfl) (by rfl) (by rfl) ?_
    | refine O_callA [0, 1] (find_A s mg tm now g cc b) (by rfl) (by rfl) (by rfl) (by rfl) (by rfl) ?_
    | refine O_callA [0, 2] (find_A s mg tm now g cc b) (by rfl) (by rfl) (by rfl) (by rfl) (by rfl) ?_
    | refine O_callA [0, 3] (find_A s mg tm now g cc b) (by rfl) (by rfl) (by rfl) (by rfl) (by rfl) ?_
    | refine O_callA [0, 4] (find_A s mg tm now g cc b) (by rfl) (by rfl) (by rfl) (by rfl) (by rfl) ?_
    | refine O_callA [0, 5] (find_A s mg tm now g cc b) (by rfl) (by rfl) (by rfl) (by rfl) (by rfl) ?_
    | refine O_callA [1, 0] (find_A s mg tm now g cc b) (by rfl) (by rfl) (by rfl) (by rfl) (by rfl) ?_
    | refine O_callA [1, 1] (find_A s mg tm now g cc b) (by rfl) (by rfl) (by rfl) (by rfl) (by rfl) ?_
    | refine O_callA [1, 2] (find_A s mg tm now g cc b) (by rfl) (by rfl) (by rfl) (by rfl) (by rfl) ?_
    | refine O_callA [1, 3] (find_A s mg tm now g cc b) (by rfl) (by rfl) (by rfl) (by rfl) (by rfl) ?_
    | refine O_callA [1, 4] (find_A s mg tm now g cc b) (by rfl) (by rfl) (by rfl) (by rfl) (by rfl) ?_
    | refine O_callA [1, 5] (find_A s mg tm now g cc b) (by rfl) (by rfl) (by rfl) (by rfl) (by rfl) ?_
    | refine O_callA [2, 0] (find_A s mg tm now g cc b) (by rfl) (by rfl) (by rfl) (by rfl) (by rfl) ?_
    | refine O_callA [2, 1] (find_A s mg tm now g cc b) (by rfl) (by rfl) (by rfl) (by rfl) (by rfl) ?_
    | refine O_callA [2, 2] (find_A s mg tm now g cc b) (by rfl) (by rfl) (by rfl) (by rfl) (by rfl) ?_
    | refine O_callA [2, 3] (find_A s mg tm now g cc b) (by rfl) (by rfl) (by rfl) (by rfl) (by rfl) ?_
    | refine O_callA [2, 4] (find_A s mg tm now g cc b) (by rfl) (by rfl) (by rfl) (by rfl) (by rfl) ?_
    | refine O_callA [2, 5] (find_A s mg tm now g cc b) (by rfl) (by rfl) (by rfl) (by rfl) (by rfl) ?_
    | refine O_callA [3, 0] (find_A s mg tm now g cc b) (by rfl) (by rfl) (by rfl) (by rfl) (by rfl) ?_
    | refine O_callA [3, 1] (find_A s mg tm now g cc b) (by rfl) (by rfl) (by rfl) (by rfl) (by rfl) ?_
    | refine O_callA [3, 2] (find_A s mg tm now g cc b) (by rfl) (by rfl) (by rfl) (by rfl) (by rfl) ?_
    | refine O_callA [3, 3] (find_A s mg tm now g cc b) (by rfl) (by rfl) (by rfl) (by rfl) (by rfl) ?_
    | refine O_callA [3, 4] (find_A s mg tm now g cc b) (by rfl) (by rfl) (by rfl) (by rfl) (by rfl) ?_
    | refine O_callA [3, 5] (find_A s mg tm now g cc b) (by rfl) (by rfl) (by rfl) (by rfl) (by rfl) ?_
    | refine O_callA [4, 0] (find_A s mg tm now g cc b) (by rfl) (by rfl) (by rfl) (by rfl) (by rfl) ?_
    | refine O_callA [4, 1] (find_A s mg tm now g cc b) (by rfl) (by rfl) (by rfl) (by rfl) (by rfl) ?_
    | refine O_callA [4, 2] (find_A s mg tm now g cc b) (by rfl) (by rfl) (by rfl) (by rfl) (by rfl) ?_
    | refine O_callA [4, 3] (find_A s mg tm now g cc b) (by rfl) (by rfl) (by rfl) (by rfl) (by rfl) ?_
    | refine O_callA [4, 4] (find_A s mg tm now g cc b) (by rfl) (by rfl) (by rfl) (by rfl) (by rfl) ?_
    | refine O_callA [4, 5] (find_A s mg tm now g cc b) (by rfl) (by rfl) (by rfl) (by rfl) (by rfl) ?_
    | refine O_callA [5, 0] (find_A s mg tm now g cc b) (by rfl) (by rfl) (by rfl) (by rfl) (by rfl) ?_
    | refine O_callA [5, 1] (find_A s mg tm now g cc b) (by rfl) (by rfl) (by rfl) (by rfl) (by rfl) ?_
    | refine O_callA [5, 2] (find_A s mg tm now g cc b) (by rfl) (by rfl) (by rfl) (by rfl) (by rfl) ?_
    | refine O_callA [5, 3] (find_A s mg tm now g cc b) (by rfl) (by rfl) (by rfl) (by rfl) (by rfl) ?_
    | refine O_callA [5, 4] (find_A s mg tm now g cc b) (by rfl) (by rfl) (by rfl) (by rfl) (by rfl) ?_
    | refine O_callA [5, 5] (find_A s mg tm now g cc b) (by rfl) (by rfl) (by rfl) (by rfl) (by rfl) ?_
    | refine O_callA [6, 0] (find_A s mg tm now g cc b) (by rfl) (by rfl) (by rfl) (by rfl) (by rfl) ?_
    | refine O_callA [6, 1] (find_A s mg tm now g cc b) (by rfl) (by rfl) (by rfl) (by rfl) (by rfl) ?_
    | refine O_callA [6, 2] (find_A s mg tm now g cc b) (by rfl) (by rfl) (by rfl) (by rfl) (by rfl) ?_
    | refine O_callA [6, 3] (find_A s mg tm now g cc b) (by rfl) (by rfl) (by rfl) (by rfl) (by rfl) ?_
    | refine O_callA [6, 4] (find_A s mg tm now g cc b) (by rfl) (by rfl) (by rfl) (by rfl) (by rfl) ?_
    | refine O_callA [6, 5] (find_A s mg tm now g cc b) (by rfl) (by rfl) (by rfl) (by rfl) (by rfl) ?_
  rintro r' cs' ⟨rfl, rfl⟩
  repeat (first | refine sc rfl ?_ | refine so rfl ?_ | refine sb rfl ?_)
  refine C_false rfl rfl ?_
  repeat (first | refine sc rfl ?_ | refine so rfl ?_ | refine sb rfl ?_)
  first
    | refine O_callA [0] (fBroken_A b st own out) (by rfl) (by rfl) (by rfl) (by rfl) (by rfl) ?_
    | refine O_callA [1] (fBroken_A b st own out) (by rfl) (by rfl) (by rfl) (by rfl) (by rfl) ?_
    | refine O_callA [2] (fBroken_A b st own out) (by rfl) (by rfl) (by rfl) (by rfl) (by rfl) ?_
    | refine O_callA [3] (fBroken_A b st own out) (by rfl) (by rfl) (by rfl) (by rfl) (by rfl) ?_
    | refine O_callA [4] (fBroken_A b st own out) (by rfl) (by rfl) (by rfl) (by rfl) (by rfl) ?_
  rintro r' cs' ⟨rfl, rfl⟩
  repeat (first | refine sc rfl ?_ | refine so rfl ?_ | refine sb rfl ?_)
  first
    | exact ⟨_, [_, _, _], _, rfl, pickA_perm (is := [1, 1, 0]) (As := [_, _, _]) rfl, rfl, rfl, rfl⟩
    | exact ⟨_, [_, _, _], _, rfl, pickA_perm (is := [0, 0, 0]) (As := [_, _, _]) rfl, rfl, rfl, rfl⟩
theorem greet_A (s mg tm : Nat) (now : Int) (g cc b : Nat) : FnA Tryz.prog 102 [PT s 0, I64 0, .agg [I64 2, I64 0, .s []]] (srvL3 s mg tm now g cc b 0 (-1) (.slice none 0 0)) (fun r cs' => ∃ h d, 1 ≤ d ∧ r = .tup [I64 (-1), I64 16] ∧ cs' = srvL3 s mg tm now g cc b 2 (-1) (HD h 1 d) ++ [outA (HD h 1 d) (rfail 0 16)]) := by
  refine FnA.intro Tryz.tabOK Tryz.wide_ Tryz.func102 rfl (by decide) rfl (fun X => ?_)
  repeat (first | refine sc rfl ?_ | refine so rfl ?_ | refine sb rfl ?_)
  refine C_le _ (Le.freezebox 5 rfl rfl rfl) ?_
  refine C_drawD rfl (by kernel_rfl) ?_
  repeat (first | refine sd rfl ?_ | refine sdb rfl ?_ | refine sds rfl ?_)
  refine D_X (PT mg 0) (X_loadP 0 (reads_box 0) rfl rfl rfl rfl rfl rfl) ?_
  repeat (first | refine sd rfl ?_ | refine sdb rfl ?_ | refine sds rfl ?_)
  refine D_call (verify0_c mg) rfl rfl rfl rfl ?_
  repeat (first | refine sd rfl ?_ | refine sdb rfl ?_ | refine sds rfl ?_)
  repeat (first | refine sc rfl ?_ | refine so rfl ?_ | refine sb rfl ?_)
  refine C_false rfl rfl ?_
  repeat (first | refine sc rfl ?_ | refine so rfl ?_ | refine sb rfl ?_)
  refine C_drawU 20 5 rfl (by kernel_rfl) (by kernel_rfl) (by kernel_rfl) ?_
  repeat (first | refine sd rfl ?_ | refine sdb rfl ?_ | refine sds rfl ?_)
  refine D_call (rFail_p 0 16 (by decide)) rfl rfl rfl rfl ?_
  refine O_callA [0, 0, 0] (send_A s mg tm now g cc b [] (rfail 0 16) 0 (-1)) (by rfl) (by rfl) (by rfl) (by rfl) (by rfl) ?_
  rintro r' cs' ⟨h, d, hd, rfl, rfl⟩
  repeat (first | refine sc rfl ?_ | refine so rfl ?_ | refine sb rfl ?_)
  refine O_callA [0, 0, 0] (shut_A s mg tm now g cc b [] 0 (-1) (HD h 1 d)) (by rfl) (by rfl) (by rfl) (by rfl) (by rfl) ?_
  rintro r' cs' ⟨rfl, rfl⟩
  repeat (first | refine sc rfl ?_ | refine so rfl ?_ | refine sb rfl ?_)
  exact ⟨_, [_, _, _, _], _, rfl, pickA_perm (is := [0, 0, 0, 0]) (As := [_, _, _, _]) rfl, rfl, h, d, hd, rfl, rfl⟩
def PQ1 : Pl := ⟨[[], [], [], [], [], [], [], [], [], [], [], [], [11]], [11], [(11, 7)], []⟩
def CQ1 (s mg tm : Nat) (now : Int) (g cc b : Nat) (x : Bool) : List Ch := .abs (srvL s mg tm now (HD g 1 cc)) :: .abs (lnsA (HD g 1 cc) b) :: .abs (lnA b [] 0 0 (-1) (.slice none 0 0)) ::
  (match x with
   | true => [.box 7 35 [I64 0, I64 0, I64 0, .s [], I64 0, .s []], .box 6 35 [I64 0, I64 0, I64 0, .s [], I64 0, .s []]]
   | false => [.box 6 35 [I64 0, I64 0, I64 0, .s [], I64 0, .s []]])
theorem come_A (s mg tm : Nat) (now : Int) (g cc b : Nat) : FnA Tryz.prog 51 [PT s 0, I64 0, .agg [I64 2, I64 0, .s []]] (srvL3 s mg tm now g cc b 0 (-1) (.slice none 0 0)) (fun r cs' => ∃ h d, 1 ≤ d ∧ r = .agg (Nte.c ⟨0, -1, 2, [], 16, []⟩) ∧ cs' = srvL3 s mg tm now g cc b 2 (-1) (HD h 1 d) ++ [outA (HD h 1 d) (rfail 0 16)]) := by
  refine FnA.intro Tryz.tabOK Tryz.wide_ Tryz.func51 rfl (by decide) rfl (fun X => ?_)
  repeat (first | refine sc rfl ?_ | refine so rfl ?_ | refine sb rfl ?_)
  refine C_le _ (Le.freezebox 5 rfl rfl rfl) ?_
  refine C_le ⟨[(5, .cp [I64 2, I64 0, .s []]), (6, .bp 6 0), (0, PT s 0), (1, I64 0)], CQ1 s mg tm now g cc b false⟩ (Le.pick [1, 1, 1, 0] ⟨rfl, rfl, rfl, rfl, trivial⟩ rfl) ?_
  refine C_drawMT PQ1 20 12 (fun L => CQ1 s mg tm now g cc b (L 11)) rfl (by kernel_rfl) (by kernel_rfl) (by kernel_rfl) (by kernel_rfl) (fun L L' h => by show CQ1 s mg tm now g cc b (L 11) = CQ1 s mg tm now g cc b (L' 11); rw [h 11 (by decide)]) rfl ?_
  repeat (refine sm rfl ⟨trivial, ?_⟩)
  refine SM (I64 (-1)) rfl (fun L h1 h2 h3 => ?_) ?_
  · show StepX _ _ _ _ _ (CQ1 s mg tm now g cc b (L 11)) (CQ1 s mg tm now g cc b (L 11)) _ _ _
    cases L 11 <;> exact X_callA [0, 0, 0] (owner_A s mg tm now g cc b [] 0 0 (-1) (.slice none 0 0)) rfl rfl rfl rfl rfl
  repeat (refine sm rfl ⟨trivial, ?_⟩)
  refine SM (.bp 7 0) rfl (fun L h1 h2 h3 => ?_) ?_
  · show StepX _ _ _ _ _ (CQ1 s mg tm now g cc b (L 11)) (CQ1 s mg tm now g cc b true) _ _ _
    rw [show L 11 = false from h3]
    exact (X_alloc rfl rfl rfl rfl (show ((11, 7) : Nat × Nat) ∈ PQ1.cre by decide) rfl rfl rfl).perm (List.perm_middle (l₁ := [Ch.abs (srvL s mg tm now (HD g 1 cc)), Ch.abs (lnsA (HD g 1 cc) b), Ch.abs (lnA b [] 0 0 (-1) (.slice none 0 0))])).symm
  refine sm rfl ?_
  refine O_le ⟨[(7, .bp 7 0), (18, .agg [I64 0, I64 (-1), I64 2, .s [], I64 0, .s []]), (5, .cp [I64 2, I64 0, .s []]), (6, .bp 6 0), (0, PT s 0), (1, I64 0)], CQ1 s mg tm now g cc b true⟩ (Le.pick [0, 0, 0, 0, 0] ⟨rfl, rfl, rfl, rfl, rfl, rfl, trivial⟩ rfl) ?_
  unfold CQ1
  repeat (first | refine sc rfl ?_ | refine so rfl ?_ | refine sb rfl ?_)
  refine C_true rfl (by decide) ?_
  repeat (first | refine sc rfl ?_ | refine so rfl ?_ | refine sb rfl ?_)
  refine O_callA [1, 1, 1] (greet_A s mg tm now g cc b) (by rfl) (by rfl) (by rfl) (by rfl) (by rfl) ?_
  rintro r' cs' ⟨h, d, hd, rfl, rfl⟩
  repeat (first | refine sc rfl ?_ | refine so rfl ?_ | refine sb rfl ?_)
  first
    | exact ⟨_, [_, _, _, _], _, rfl, pickA_perm (is := [2, 2, 2, 2]) (As := [_, _, _, _]) rfl, rfl, h, d, hd, rfl, rfl⟩
    | exact ⟨_, [_, _, _, _], _, rfl, pickA_perm (is := [0, 0, 0, 0]) (As := [_, _, _, _]) rfl, rfl, h, d, hd, rfl, rfl⟩
    | exact ⟨_, [_, _, _, _], _, rfl, pickA_perm (is := [1, 1, 1, 1]) (As := [_, _, _, _]) rfl, rfl, h, d, hd, rfl, rfl⟩
theorem recv_A (s mg tm : Nat) (now : Int) (g cc b : Nat) : FnA Tryz.prog 20 [PT s 0, I64 0, .s [2, 0, 0, 0]] (srvL3 s mg tm now g cc b 0 (-1) (.slice none 0 0)) (fun r cs' => ∃ h d, 1 ≤ d ∧ r = .tup [SL 6 Nte.c [⟨0, -1, 2, [], 16, []⟩], I64 0] ∧ cs' = srvL3 s mg tm now g cc b 2 (-1) (HD h 1 d) ++ [outA (HD h 1 d) (rfail 0 16)]) := by
  refine FnA.intro Tryz.tabOK Tryz.wide_ Tryz.func20 rfl (by decide) rfl (fun X => ?_)
  repeat (first | refine sc rfl ?_ | refine so rfl ?_ | refine sb rfl ?_)
  refine O_Xd (X_ptrnil Tryz.underlying58 rfl rfl rfl) ?_
  repeat (first | refine sc rfl ?_ | refine so rfl ?_ | refine sb rfl ?_)
  refine C_false rfl rfl ?_
  repeat (first | refine sc rfl ?_ | refine so rfl ?_ | refine sb rfl ?_)
  refine O_callA [0, 0, 0] (cPush_A s mg tm now g cc b) (by rfl) (by rfl) (by rfl) (by rfl) (by rfl) ?_
  rintro r' cs' ⟨rfl, rfl⟩
  repeat (first | refine sc rfl ?_ | refine so rfl ?_ | refine sb rfl ?_)
  refine C_false rfl rfl ?_
  repeat (first | refine sc rfl ?_ | refine so rfl ?_ | refine sb rfl ?_)
  refine C_le _ (Le.nilvec Nte.c 10 45 35 6 rfl rfl rfl) ?_
  refine C_loop (fun x : Option (Nat × Nat) => match x with
    | none => ⟨[(0, PT s 0), (1, I64 0), (10, .own 45), (27, SL 3 Frm.c [⟨2, 0, []⟩]), (28, I64 1), (29, I64 0)], VEC 45 35 6 Nte.c [] :: List.map Ch.abs (srvL3 s mg tm now g cc b 0 (-1) (.slice none 0 0))⟩
    | some hd => ⟨[(0, PT s 0), (1, I64 0), (10, .own 45), (27, SL 3 Frm.c [⟨2, 0, []⟩]), (28, I64 1), (29, I64 1)], VEC 45 35 6 Nte.c [⟨0, -1, 2, [], 16, []⟩] :: List.map Ch.abs (srvL3 s mg tm now g cc b 2 (-1) (HD hd.1 1 hd.2) ++ [outA (HD hd.1 1 hd.2) (rfail 0 16)])⟩)
    (fun x => match x with | none => True | some hd => 1 ≤ hd.2) (fun x => match x with | none => 1 | some _ => 0) none trivial (Le.pick [0, 0, 0, 0] ⟨rfl, rfl, rfl, rfl, rfl, rfl, trivial⟩ rfl) ?_
  rintro (_ | ⟨h, d⟩) hI
  · show SymC _ _ _ ⟨[(0, PT s 0), (1, I64 0), (10, .own 45), (27, SL 3 Frm.c [⟨2, 0, []⟩]), (28, I64 1), (29, I64 0)], VEC 45 35 6 Nte.c [] :: List.map Ch.abs (srvL3 s mg tm now g cc b 0 (-1) (.slice none 0 0))⟩ _
    repeat (first | refine sc rfl ?_ | refine so rfl ?_ | refine sb rfl ?_)
    refine C_true rfl (by decide) ?_
    repeat (first | refine sc rfl ?_ | refine so rfl ?_ | refine sb rfl ?_)
    refine ⟨by decide, ?_⟩
    repeat (first | refine sc rfl ?_ | refine so rfl ?_ | refine sb rfl ?_)
    first
      | refine O_callA [0, 0, 0] (cTakes_A s mg tm now g cc b 0 (-1) (.slice none 0 0)) (by rfl) (by rfl) (by rfl) (by rfl) (by rfl) ?_
      | refine O_callA [1, 1, 1] (cTakes_A s mg tm now g cc b 0 (-1) (.slice none 0 0)) (by rfl) (by rfl) (by rfl) (by rfl) (by rfl) ?_
      | refine O_callA [2, 2, 2] (cTakes_A s mg tm now g cc b 0 (-1) (.slice none 0 0)) (by rfl) (by rfl) (by rfl) (by rfl) (by rfl) ?_
      | refine O_callA [3, 3, 3] (cTakes_A s mg tm now g cc b 0 (-1) (.slice none 0 0)) (by rfl) (by rfl) (by rfl) (by rfl) (by rfl) ?_
      | refine O_callA [4, 4, 4] (cTakes_A s mg tm now g cc b 0 (-1) (.slice none 0 0)) (by rfl) (by rfl) (by rfl) (by rfl) (by rfl) ?_
    rintro r' cs' ⟨rfl, rfl⟩
    repeat (first | refine sc rfl ?_ | refine so rfl ?_ | refine sb rfl ?_)
    refine C_false rfl (by decide) ?_
    repeat (first | refine sc rfl ?_ | refine so rfl ?_ | refine sb rfl ?_)
    first
      | refine O_callA [0, 0, 0] (come_A s mg tm now g cc b) (by rfl) (by rfl) (by rfl) (by rfl) (by rfl) ?_
      | refine O_callA [1, 1, 1] (come_A s mg tm now g cc b) (by rfl) (by rfl) (by rfl) (by rfl) (by rfl) ?_
      | refine O_callA [2, 2, 2] (come_A s mg tm now g cc b) (by rfl) (by rfl) (by rfl) (by rfl) (by rfl) ?_
      | refine O_callA [3, 3, 3] (come_A s mg tm now g cc b) (by rfl) (by rfl) (by rfl) (by rfl) (by rfl) ?_
      | refine O_callA [4, 4, 4] (come_A s mg tm now g cc b) (by rfl) (by rfl) (by rfl) (by rfl) (by rfl) ?_
    rintro r' cs' ⟨h, d, hd, rfl, rfl⟩
    repeat (first | refine sc rfl ?_ | refine so rfl ?_ | refine sb rfl ?_)
    refine O_push Nte.c [] ⟨0, -1, 2, [], 16, []⟩ [(0, PT s 0), (1, I64 0), (27, SL 3 Frm.c [⟨2, 0, []⟩]), (28, I64 1), (29, I64 0)] rfl rfl rfl rfl rfl rfl rfl rfl rfl rfl ⟨rfl, rfl, rfl, rfl, rfl, trivial⟩ rfl rfl (by decide) (by decide) ?_
    repeat (first | refine sc rfl ?_ | refine so rfl ?_ | refine sb rfl ?_)
    refine ⟨some (h, d), hd, by show (0 : Nat) < 1; decide, ?_⟩
    first
      | exact Le.pick [0, 1, 1, 1, 1] ⟨rfl, rfl, rfl, rfl, rfl, rfl, trivial⟩ rfl
      | exact Le.pick [0, 0, 0, 0, 0] ⟨rfl, rfl, rfl, rfl, rfl, rfl, trivial⟩ rfl
      | exact Le.pick [0, 2, 2, 2, 2] ⟨rfl, rfl, rfl, rfl, rfl, rfl, trivial⟩ rfl
  · show SymC _ _ _ ⟨[(0, PT s 0), (1, I64 0), (10, .own 45), (27, SL 3 Frm.c [⟨2, 0, []⟩]), (28, I64 1), (29, I64 1)], VEC 45 35 6 Nte.c [⟨0, -1, 2, [], 16, []⟩] :: List.map Ch.abs (srvL3 s mg tm now g cc b 2 (-1) (HD h 1 d) ++ [outA (HD h 1 d) (rfail 0 16)])⟩ _
    refine C_le _ (Le.freezeL (l := [(⟨0, -1, 2, [], 16, []⟩ : Nte)]) (cells := Nte.c) 10 rfl rfl) ?_
    repeat (first | refine sc rfl ?_ | refine so rfl ?_ | refine sb rfl ?_)
    refine C_false rfl (by decide) ?_
    repeat (first | refine sc rfl ?_ | refine so rfl ?_ | refine sb rfl ?_)
    first
      | refine O_callA [0, 0, 0] (cBroken_A s mg tm now g cc b 2 (-1) (HD h 1 d)) (by rfl) (by rfl) (by rfl) (by rfl) (by rfl) ?_
      | refine O_callA [1, 1, 1] (cBroken_A s mg tm now g cc b 2 (-1) (HD h 1 d)) (by rfl) (by rfl) (by rfl) (by rfl) (by rfl) ?_
      | refine O_callA [2, 2, 2] (cBroken_A s mg tm now g cc b 2 (-1) (HD h 1 d)) (by rfl) (by rfl) (by rfl) (by rfl) (by rfl) ?_
      | refine O_callA [3, 3, 3] (cBroken_A s mg tm now g cc b 2 (-1) (HD h 1 d)) (by rfl) (by rfl) (by rfl) (by rfl) (by rfl) ?_
      | refine O_callA [4, 4, 4] (cBroken_A s mg tm now g cc b 2 (-1) (HD h 1 d)) (by rfl) (by rfl) (by rfl) (by rfl) (by rfl) ?_
    rintro r' cs' ⟨rfl, rfl⟩
    repeat (first | refine sc rfl ?_ | refine so rfl ?_ | refine sb rfl ?_)
    refine C_false rfl rfl ?_
    repeat (first | refine sc rfl ?_ | refine so rfl ?_ | refine sb rfl ?_)
    exact ⟨_, [_, _, _, _], _, rfl, pickA_perm (is := [0, 0, 0, 0]) (As := [_, _, _, _]) rfl, rfl, h, d, hI, rfl, rfl⟩
theorem paid_A (s mg tm : Nat) (now : Int) (g cc b h2 : Nat) (st : Int) (out : Value) (k : Nat) (hk : k ≤ 1) : FnA Tryz.prog 62 [PT s 0, I64 0, I64 (k : Nat)] (srvL3 s mg tm now g cc b st (-1) out ++ [tenM tm h2]) (fun r cs' => r = .tup [] ∧ cs' = srvL3 s mg tm now g cc b st (-1) out ++ [tenM tm h2]) := by
  refine FnA.intro Tryz.tabOK Tryz.wide_ Tryz.func62 rfl (by decide) rfl (fun X => ?_)
  repeat (first | refine sc rfl ?_ | refine so rfl ?_ | refine sb rfl ?_)
  refine C_drawD rfl (by kernel_rfl) ?_
  repeat (first | refine sd rfl ?_ | refine sdb rfl ?_ | refine sds rfl ?_)
  refine D_X (.v (.map (some tm))) (X_loadP 0 (reads_box 80) rfl rfl rfl rfl rfl rfl) ?_
  repeat (first | refine sd rfl ?_ | refine sdb rfl ?_ | refine sds rfl ?_)
  refine D_callA [0, 0, 0] (owner_A s mg tm now g cc b [] 0 st (-1) out) rfl rfl rfl rfl rfl ?_
  repeat (first | refine sd rfl ?_ | refine sdb rfl ?_ | refine sds rfl ?_)
  refine D_X (lookAV false (lookE (-1) [((0 : Int), PT h2 0)]) (.v (.pointer none))) (X_look 3 (es := [((0 : Int), PT h2 0)]) (z := .v (.pointer none)) iKz Tryz.underlying125 rfl rfl rep_np rfl rfl rfl rfl rfl rfl) ?_
  rw [show lookAV false (lookE (-1) [((0 : Int), PT h2 0)]) (.v (.pointer none)) = .v (.pointer none) from rfl]
  repeat (first | refine sd rfl ?_ | refine sdb rfl ?_ | refine sds rfl ?_)
  repeat (first | refine sc rfl ?_ | refine so rfl ?_ | refine sb rfl ?_)
  refine C_loop (fun i : Nat => ⟨[(6, .v (.pointer none)), (17, I64 (k : Nat)), (18, I64 (i : Nat))], List.map Ch.abs (srvL3 s mg tm now g cc b st (-1) out ++ [tenM tm h2])⟩) (fun i => i ≤ k) (fun i => k - i) 0 (Nat.zero_le _) (Le.pick [0, 0, 0, 0] ⟨rfl, rfl, rfl, trivial⟩ rfl) ?_
  intro i hi
  repeat (first | refine sc rfl ?_ | refine so rfl ?_ | refine sb rfl ?_)
  refine C_if rfl (fun k1 => ?_) (fun k1 => ?_) <;> simp only [decide_eq_true_eq, decide_eq_false_iff_not, Bool.not_eq_true', Bool.not_eq_false', beq_iff_eq, beq_eq_false_iff_ne, bne_iff_ne, ne_eq, bne_eq_false_iff_eq, Decidable.not_not] at k1
  · repeat (first | refine sc rfl ?_ | refine so rfl ?_ | refine sb rfl ?_)
    refine O_Xd (X_ptrnnil Tryz.underlying128 rfl rfl rfl) ?_
    repeat (first | refine sc rfl ?_ | refine so rfl ?_ | refine sb rfl ?_)
    refine C_false rfl rfl ?_
    repeat (first | refine sc rfl ?_ | refine so rfl ?_ | refine sb rfl ?_)
    rw [w64 (x := (i : Int) + 1) (by omega) (by omega)]
    exact ⟨i + 1, by omega, by omega, Le.pick [0, 0, 0, 0] ⟨rfl, rfl, rfl, trivial⟩ rfl⟩
  · repeat (first | refine sc rfl ?_ | refine so rfl ?_ | refine sb rfl ?_)
    exact ⟨_, [_, _, _, _], _, rfl, pickA_perm (is := [0, 0, 0, 0]) (As := [_, _, _, _]) rfl, rfl, rfl, rfl⟩
end Go.Proofs

/- The example of ServerNone. -/
set_option linter.unusedSimpArgs false
set_option linter.unusedVariables false
set_option maxRecDepth 100000
namespace Go.Proofs
open Go.Sy Go.Lib

theorem sOpen_A (s mg tm : Nat) (now : Int) : FnA Tryz.prog 19 [PT s 0] [srvL s mg tm now (.slice none 0 0)] (fun r cs' => ∃ g cc b, r = .tup [I64 0, I64 0] ∧ cs' = srvL3 s mg tm now g cc b 0 (-1) (.slice none 0 0)) := by
  refine FnA.intro Tryz.tabOK Tryz.wide_ Tryz.func19 rfl (by decide) rfl (fun X => ?_)
  repeat (first | refine sc rfl ?_ | refine so rfl ?_ | refine sb rfl ?_)
  refine O_Xd (X_ptrnil Tryz.underlying58 rfl rfl rfl) ?_
  repeat (first | refine sc rfl ?_ | refine so rfl ?_ | refine sb rfl ?_)
  refine C_false rfl rfl ?_
  repeat (first | refine sc rfl ?_ | refine so rfl ?_ | refine sb rfl ?_)
  first
    | refine O_callA [0] (open_A s mg tm now) (by rfl) (by rfl) (by rfl) (by rfl) (by rfl) ?_
    | refine O_callA [1] (open_A s mg tm now) (by rfl) (by rfl) (by rfl) (by rfl) (by rfl) ?_
    | refine O_callA [2] (open_A s mg tm now) (by rfl) (by rfl) (by rfl) (by rfl) (by rfl) ?_
    | refine O_callA [3] (open_A s mg tm now) (by rfl) (by rfl) (by rfl) (by rfl) (by rfl) ?_
    | refine O_callA [4] (open_A s mg tm now) (by rfl) (by rfl) (by rfl) (by rfl) (by rfl) ?_
  rintro r' cs' ⟨g, cc, b, rfl, rfl⟩
  repeat (first | refine sc rfl ?_ | refine so rfl ?_ | refine sb rfl ?_)
  exact ⟨_, [_, _, _], _, rfl, pickA_perm (is := [0, 0, 0]) (As := [_, _, _]) rfl, rfl, g, cc, b, rfl, rfl⟩
theorem sDel1_A (s mg tm : Nat) (now : Int) (g cc b h2 h d : Nat) (hd : 1 ≤ d) (x : List UInt8) : FnA Tryz.prog 22 [PT s 0, I64 0] (srvL3 s mg tm now g cc b 2 (-1) (HD h 1 d) ++ [outA (HD h 1 d) x, tenM tm h2]) (fun r cs' => ∃ a c, r = .tup [.s x, B false, I64 0] ∧ cs' = srvL3 s mg tm now g cc b 2 (-1) (.slice a 0 c) ++ [tenM tm h2]) := by
  refine FnA.intro Tryz.tabOK Tryz.wide_ Tryz.func22 rfl (by decide) rfl (fun X => ?_)
  repeat (first | refine sc rfl ?_ | refine so rfl ?_ | refine sb rfl ?_)
  refine O_Xd (X_ptrnil Tryz.underlying58 rfl rfl rfl) ?_
  repeat (first | refine sc rfl ?_ | refine so rfl ?_ | refine sb rfl ?_)
  refine C_false rfl rfl ?_
  repeat (first | refine sc rfl ?_ | refine so rfl ?_ | refine sb rfl ?_)
  refine O_callA [0, 0, 0] (waits_A s mg tm now g cc b [] 0 2 (-1) (some ⟨h, 0, none⟩) 1 d) (by rfl) (by rfl) (by rfl) (by rfl) (by rfl) ?_
  rintro r' cs' ⟨rfl, rfl⟩
  repeat (first | refine sc rfl ?_ | refine so rfl ?_ | refine sb rfl ?_)
  refine O_callA [0, 0, 0, 0] (deliver1_A s mg tm now g cc b [] x 0 (-1) h d hd) (by rfl) (by rfl) (by rfl) (by rfl) (by rfl) ?_
  rintro r' cs' ⟨a, c, rfl, rfl⟩
  repeat (first | refine sc rfl ?_ | refine so rfl ?_ | refine sb rfl ?_)
  refine O_callA [0, 0, 0] (waits_A s mg tm now g cc b [] 0 2 (-1) a 0 c) (by rfl) (by rfl) (by rfl) (by rfl) (by rfl) ?_
  rintro r' cs' ⟨rfl, rfl⟩
  repeat (first | refine sc rfl ?_ | refine so rfl ?_ | refine sb rfl ?_)
  refine O_callA [0, 0, 0, 0] (paid_A s mg tm now g cc b h2 2 (.slice a 0 c) 1 (Nat.le_refl _)) (by rfl) (by rfl) (by rfl) (by rfl) (by rfl) ?_
  rintro r' cs' ⟨rfl, rfl⟩
  repeat (first | refine sc rfl ?_ | refine so rfl ?_ | refine sb rfl ?_)
  exact ⟨_, [_, _, _, _], _, rfl, pickA_perm (is := [0, 0, 0, 0]) (As := [_, _, _, _]) rfl, rfl, a, c, rfl, rfl⟩
theorem sDel2_A (s mg tm : Nat) (now : Int) (g cc b h2 : Nat) (a : Option Addr) (c : Nat) : FnA Tryz.prog 22 [PT s 0, I64 0] (srvL3 s mg tm now g cc b 2 (-1) (.slice a 0 c) ++ [tenM tm h2]) (fun r cs' => r = .tup [.s [], B true, I64 0] ∧ cs' = srvL3 s mg tm now g cc b 3 (-1) (.slice a 0 c) ++ [tenM tm h2]) := by
  refine FnA.intro Tryz.tabOK Tryz.wide_ Tryz.func22 rfl (by decide) rfl (fun X => ?_)
  repeat (first | refine sc rfl ?_ | refine so rfl ?_ | refine sb rfl ?_)
  refine O_Xd (X_ptrnil Tryz.underlying58 rfl rfl rfl) ?_
  repeat (first | refine sc rfl ?_ | refine so rfl ?_ | refine sb rfl ?_)
  refine C_false rfl rfl ?_
  repeat (first | refine sc rfl ?_ | refine so rfl ?_ | refine sb rfl ?_)
  refine O_callA [0, 0, 0] (waits_A s mg tm now g cc b [] 0 2 (-1) a 0 c) (by rfl) (by rfl) (by rfl) (by rfl) (by rfl) ?_
  rintro r' cs' ⟨rfl, rfl⟩
  repeat (first | refine sc rfl ?_ | refine so rfl ?_ | refine sb rfl ?_)
  refine O_callA [0, 0, 0] (deliver2_A s mg tm now g cc b [] 0 (-1) a c) (by rfl) (by rfl) (by rfl) (by rfl) (by rfl) ?_
  rintro r' cs' ⟨rfl, rfl⟩
  repeat (first | refine sc rfl ?_ | refine so rfl ?_ | refine sb rfl ?_)
  refine O_callA [0, 0, 0] (waits_A s mg tm now g cc b [] 0 3 (-1) a 0 c) (by rfl) (by rfl) (by rfl) (by rfl) (by rfl) ?_
  rintro r' cs' ⟨rfl, rfl⟩
  repeat (first | refine sc rfl ?_ | refine so rfl ?_ | refine sb rfl ?_)
  refine O_callA [0, 0, 0, 0] (paid_A s mg tm now g cc b h2 3 (.slice a 0 c) 0 (Nat.zero_le _)) (by rfl) (by rfl) (by rfl) (by rfl) (by rfl) ?_
  rintro r' cs' ⟨rfl, rfl⟩
  repeat (first | refine sc rfl ?_ | refine so rfl ?_ | refine sb rfl ?_)
  exact ⟨_, [_, _, _, _], _, rfl, pickA_perm (is := [0, 0, 0, 0]) (As := [_, _, _, _]) rfl, rfl, rfl, rfl⟩
theorem awake42_A : FnA Tryz.prog 30 [] [] (fun r cs' => r = B true ∧ cs' = []) := by
  refine FnA.intro Tryz.tabOK Tryz.wide_ Tryz.func30 rfl (by decide) rfl (fun X => ?_)
  repeat (first | refine sc rfl ?_ | refine so rfl ?_ | refine sb rfl ?_)
  refine O_callA [] (srvNew_A 7) (by rfl) (by rfl) (by rfl) (by rfl) (by rfl) ?_
  rintro r' cs' ⟨s, mg, tm, h2, g0, c0, d0, rfl, rfl⟩
  repeat (first | refine sc rfl ?_ | refine so rfl ?_ | refine sb rfl ?_)
  first
    | refine O_callA [0] (sOpen_A s mg tm 0) (by rfl) (by rfl) (by rfl) (by rfl) (by rfl) ?_
    | refine O_callA [1] (sOpen_A s mg tm 0) (by rfl) (by rfl) (by rfl) (by rfl) (by rfl) ?_
    | refine O_callA [2] (sOpen_A s mg tm 0) (by rfl) (by rfl) (by rfl) (by rfl) (by rfl) ?_
    | refine O_callA [3] (sOpen_A s mg tm 0) (by rfl) (by rfl) (by rfl) (by rfl) (by rfl) ?_
    | refine O_callA [4] (sOpen_A s mg tm 0) (by rfl) (by rfl) (by rfl) (by rfl) (by rfl) ?_
  rintro r' cs' ⟨g, cc, b, rfl, rfl⟩
  repeat (first | refine sc rfl ?_ | refine so rfl ?_ | refine sb rfl ?_)
  refine O_callA [0, 0, 0] (recv_A s mg tm 0 g cc b) (by rfl) (by rfl) (by rfl) (by rfl) (by rfl) ?_
  rintro r' cs' ⟨h, d, hd, rfl, rfl⟩
  repeat (first | refine sc rfl ?_ | refine so rfl ?_ | refine sb rfl ?_)
  refine O_callA [0, 0, 0, 0, 0] (sDel1_A s mg tm 0 g cc b h2 h d hd (rfail 0 16)) (by rfl) (by rfl) (by rfl) (by rfl) (by rfl) ?_
  rintro r' cs' ⟨a, c, rfl, rfl⟩
  repeat (first | refine sc rfl ?_ | refine so rfl ?_ | refine sb rfl ?_)
  refine O_callA [0, 0, 0, 0] (sDel2_A s mg tm 0 g cc b h2 a c) (by rfl) (by rfl) (by rfl) (by rfl) (by rfl) ?_
  rintro r' cs' ⟨rfl, rfl⟩
  repeat (first | refine sc rfl ?_ | refine so rfl ?_ | refine sb rfl ?_)
  refine ⟨by simp, ?_⟩
  repeat (first | refine sc rfl ?_ | refine so rfl ?_ | refine sb rfl ?_)
  refine O_call (rFail_p 0 16 (by decide)) (by rfl) (by rfl) (by rfl) (by rfl) (fun r' hr => ?_)
  subst hr
  repeat (first | refine sc rfl ?_ | refine so rfl ?_ | refine sb rfl ?_)
  refine O_true 58 rfl (by simp) ?_
  repeat (first | refine sc rfl ?_ | refine so rfl ?_ | refine sb rfl ?_)
  exact ⟨_, [], _, rfl, pickA_perm (is := []) (As := []) rfl, rfl, rfl, rfl⟩
end Go.Proofs

/- TraceAsks: the document's notes. -/
set_option linter.unusedSimpArgs false
set_option linter.unusedVariables false
set_option maxRecDepth 100000
namespace Go.Proofs
open Go.Sy Go.Lib

end Go.Proofs

/- TraceAsks: the rows behind the last deletion. -/
set_option linter.unusedSimpArgs false
set_option linter.unusedVariables false
set_option maxRecDepth 100000
namespace Go.Proofs
open Go.Sy Go.Lib

end Go.Proofs

/- TraceAsks: trace.Last. -/
set_option linter.unusedSimpArgs false
set_option linter.unusedVariables false
set_option maxRecDepth 100000
namespace Go.Proofs
open Go.Sy Go.Lib

end Go.Proofs

/- call.TakeCancel, call.TakeSchema. -/
set_option linter.unusedSimpArgs false
set_option linter.unusedVariables false
set_option maxRecDepth 100000
namespace Go.Proofs
open Go.Sy Go.Lib

end Go.Proofs

/- call.TakeCall. -/
set_option linter.unusedSimpArgs false
set_option linter.unusedVariables false
set_option maxRecDepth 100000
namespace Go.Proofs
open Go.Sy Go.Lib

end Go.Proofs

/- span.Take, Reader.Text. -/
set_option linter.unusedSimpArgs false
set_option linter.unusedVariables false
set_option maxRecDepth 100000
namespace Go.Proofs
open Go.Sy Go.Lib

end Go.Proofs

/- Reader.Text. -/
set_option linter.unusedSimpArgs false
set_option linter.unusedVariables false
set_option maxRecDepth 100000
namespace Go.Proofs
open Go.Sy Go.Lib

end Go.Proofs

/- call.TakeBind. -/
set_option linter.unusedSimpArgs false
set_option linter.unusedVariables false
set_option maxRecDepth 100000
namespace Go.Proofs
open Go.Sy Go.Lib

end Go.Proofs

/- trace.Id. -/
set_option linter.unusedSimpArgs false
set_option linter.unusedVariables false
set_option maxRecDepth 100000
namespace Go.Proofs
open Go.Sy Go.Lib

end Go.Proofs

/- trace.Id: the program's. -/
set_option linter.unusedSimpArgs false
set_option linter.unusedVariables false
set_option maxRecDepth 100000
namespace Go.Proofs
open Go.Sy Go.Lib

end Go.Proofs

/- The document's steps: a number. -/
set_option linter.unusedSimpArgs false
set_option linter.unusedVariables false
set_option maxRecDepth 100000
namespace Go.Proofs
open Go.Sy Go.Lib

end Go.Proofs

/- The document's steps: an int, the rest. -/
set_option linter.unusedSimpArgs false
set_option linter.unusedVariables false
set_option maxRecDepth 100000
namespace Go.Proofs
open Go.Sy Go.Lib

end Go.Proofs

/- The document's spans. -/
set_option linter.unusedSimpArgs false
set_option linter.unusedVariables false
set_option maxRecDepth 100000
namespace Go.Proofs
open Go.Sy Go.Lib

end Go.Proofs

/- The document's steps: a text. -/
set_option linter.unusedSimpArgs false
set_option linter.unusedVariables false
set_option maxRecDepth 100000
namespace Go.Proofs
open Go.Sy Go.Lib

end Go.Proofs

/- Orders compared. -/
set_option linter.unusedSimpArgs false
set_option linter.unusedVariables false
set_option maxRecDepth 100000
namespace Go.Proofs
open Go.Sy Go.Lib

def cfV (x : Cf) : Array Value := #[.int .i64 x.quantum, .int .i64 x.rate, .int .i64 x.burst, .int .i64 x.mem, .int .i64 x.slots, .int .i64 x.outs, .int .i64 x.conns, .int .i64 x.state, .int .i64 x.decode]
theorem eq_cf (m : Cf) (w : World) : (Op.equalIn 9999 28 (.agg (cfV m)) (.agg (cfV m))).run Tryz.prog w = .ok true w := by
  rw [run_equalIn_struct w 9998 28 _ _ Tryz.underlying28 Tryz.stoodInHeld28]
  unfold Program.fieldsOf
  rw [Tryz.underlying28]
  have p0 : (part 3 (cfV m) 0).run Tryz.prog w = .ok (.int .i64 m.quantum) w := by simp [part, isAgg, run_underlying Tryz.underlying3, cfV]
  have p1 : (part 3 (cfV m) 1).run Tryz.prog w = .ok (.int .i64 m.rate) w := by simp [part, isAgg, run_underlying Tryz.underlying3, cfV]
  have p2 : (part 3 (cfV m) 2).run Tryz.prog w = .ok (.int .i64 m.burst) w := by simp [part, isAgg, run_underlying Tryz.underlying3, cfV]
  have p3 : (part 3 (cfV m) 3).run Tryz.prog w = .ok (.int .i64 m.mem) w := by simp [part, isAgg, run_underlying Tryz.underlying3, cfV]
  have p4 : (part 3 (cfV m) 4).run Tryz.prog w = .ok (.int .i64 m.slots) w := by simp [part, isAgg, run_underlying Tryz.underlying3, cfV]
  have p5 : (part 3 (cfV m) 5).run Tryz.prog w = .ok (.int .i64 m.outs) w := by simp [part, isAgg, run_underlying Tryz.underlying3, cfV]
  have p6 : (part 3 (cfV m) 6).run Tryz.prog w = .ok (.int .i64 m.conns) w := by simp [part, isAgg, run_underlying Tryz.underlying3, cfV]
  have p7 : (part 3 (cfV m) 7).run Tryz.prog w = .ok (.int .i64 m.state) w := by simp [part, isAgg, run_underlying Tryz.underlying3, cfV]
  have p8 : (part 3 (cfV m) 8).run Tryz.prog w = .ok (.int .i64 m.decode) w := by simp [part, isAgg, run_underlying Tryz.underlying3, cfV]
  have e0 : ∀ k, (Op.equalIn 9998 3 (.int .i64 k) (.int .i64 k)).run Tryz.prog w = .ok true w := fun k => by rw [run_equalIn_int w 9997 3 .i64 .i64 _ _ Tryz.underlying3]; simp
  simp only [Op.eqFields]
  rw [if_pos (by decide), if_pos (by decide), if_pos (by decide), if_pos (by decide), if_pos (by decide), if_pos (by decide), if_pos (by decide), if_pos (by decide), if_pos (by decide)]
  simp [Sem.run_bind, p0, p1, p2, p3, p4, p5, p6, p7, p8, e0]
end Go.Proofs

/- ServerNone: the law. -/
set_option linter.unusedSimpArgs false
set_option linter.unusedVariables false
set_option maxRecDepth 100000
namespace Go.Proofs
open Go.Sy Go.Lib

theorem rep_vw (m : Vw) (e : Env) (ys : List Value) (h : RepL e (Vw.c m) ys) : ys = (vwV m).toList := by
  simp only [Vw.c, RepL, Rep] at h
  obtain ⟨z0, t0, rfl, rfl, _, z1, t1, rfl, rfl, _, z2, t2, rfl, rfl, _, z3, t3, rfl, rfl, _, z4, t4, rfl, rfl, _, z5, t5, rfl, rfl, _, z6, t6, rfl, rfl, _, z7, t7, rfl, rfl, _, z8, t8, rfl, rfl, _, z9, t9, rfl, rfl, _, z10, t10, rfl, rfl, _, z11, t11, rfl, rfl, _, z12, t12, rfl, rfl, _, z13, t13, rfl, rfl, _, z14, t14, rfl, rfl, _, z15, t15, rfl, rfl, _, z16, t16, rfl, rfl, _, z17, t17, rfl, rfl, _, z18, t18, rfl, rfl, _, z19, t19, rfl, rfl, _, z20, t20, rfl, rfl, _, rfl⟩ := h
  rfl
theorem eq_lod (m : Lod) (w : World) : (Op.equalIn 9999 68 (.agg (lodV m)) (.agg (lodV m))).run Tryz.prog w = .ok true w := by
  rw [run_equalIn_struct w 9998 68 _ _ Tryz.underlying68 Tryz.stoodInHeld68]
  unfold Program.fieldsOf
  rw [Tryz.underlying68]
  have p0 : (part 3 (lodV m) 0).run Tryz.prog w = .ok (.int .i64 m.tokens) w := by simp [part, isAgg, run_underlying Tryz.underlying3, lodV]
  have p1 : (part 3 (lodV m) 1).run Tryz.prog w = .ok (.int .i64 m.mem) w := by simp [part, isAgg, run_underlying Tryz.underlying3, lodV]
  have p2 : (part 3 (lodV m) 2).run Tryz.prog w = .ok (.int .i64 m.slots) w := by simp [part, isAgg, run_underlying Tryz.underlying3, lodV]
  have p3 : (part 3 (lodV m) 3).run Tryz.prog w = .ok (.int .i64 m.outs) w := by simp [part, isAgg, run_underlying Tryz.underlying3, lodV]
  have e0 : ∀ k, (Op.equalIn 9998 3 (.int .i64 k) (.int .i64 k)).run Tryz.prog w = .ok true w := fun k => by rw [run_equalIn_int w 9997 3 .i64 .i64 _ _ Tryz.underlying3]; simp
  simp only [Op.eqFields]
  rw [if_pos (by decide), if_pos (by decide), if_pos (by decide), if_pos (by decide)]
  simp [Sem.run_bind, p0, p1, p2, p3, e0]
theorem eq_vw (m : Vw) (w : World) : (Op.equalIn 10000 70 (.agg (vwV m)) (.agg (vwV m))).run Tryz.prog w = .ok true w := by
  rw [run_equalIn_struct w 9999 70 _ _ Tryz.underlying70 Tryz.stoodInHeld70]
  unfold Program.fieldsOf
  rw [Tryz.underlying70]
  have p0 : (part 28 (vwV m) 0).run Tryz.prog w = .ok (.agg (cfV m.conf)) w := by simp [part, isAgg, run_underlying Tryz.underlying28, vwV, cfV]
  have p1 : (part 4 (vwV m) 9).run Tryz.prog w = .ok (.bool m.rests) w := by simp [part, isAgg, run_underlying Tryz.underlying4, vwV]
  have p2 : (part 68 (vwV m) 10).run Tryz.prog w = .ok (.agg (lodV m.load)) w := by simp [part, isAgg, run_underlying Tryz.underlying68, vwV, lodV]
  have p3 : (part 3 (vwV m) 14).run Tryz.prog w = .ok (.int .i64 m.waits) w := by simp [part, isAgg, run_underlying Tryz.underlying3, vwV]
  have p4 : (part 3 (vwV m) 15).run Tryz.prog w = .ok (.int .i64 m.cost) w := by simp [part, isAgg, run_underlying Tryz.underlying3, vwV]
  have p5 : (part 3 (vwV m) 16).run Tryz.prog w = .ok (.int .i64 m.conns) w := by simp [part, isAgg, run_underlying Tryz.underlying3, vwV]
  have p6 : (part 3 (vwV m) 17).run Tryz.prog w = .ok (.int .i64 m.state) w := by simp [part, isAgg, run_underlying Tryz.underlying3, vwV]
  have p7 : (part 3 (vwV m) 18).run Tryz.prog w = .ok (.int .i64 m.kept) w := by simp [part, isAgg, run_underlying Tryz.underlying3, vwV]
  have p8 : (part 3 (vwV m) 19).run Tryz.prog w = .ok (.int .i64 m.tombs) w := by simp [part, isAgg, run_underlying Tryz.underlying3, vwV]
  have p9 : (part 9 (vwV m) 20).run Tryz.prog w = .ok (S m.text) w := by simp [part, isAgg, run_underlying Tryz.underlying9, vwV]
  have e0 : ∀ k, (Op.equalIn 9999 3 (.int .i64 k) (.int .i64 k)).run Tryz.prog w = .ok true w := fun k => by rw [run_equalIn_int w 9998 3 .i64 .i64 _ _ Tryz.underlying3]; simp
  have e1 : ∀ l, (Op.equalIn 9999 9 (S l) (S l)).run Tryz.prog w = .ok true w := fun l => by unfold S; rw [run_equalIn_string w 9998 9 _ _ Tryz.underlying9]; simp
  have e2 : ∀ k, (Op.equalIn 9999 4 (.bool k) (.bool k)).run Tryz.prog w = .ok true w := fun k => by rw [run_equalIn_bool w 9998 4 _ _ Tryz.underlying4]; simp
  simp only [Op.eqFields]
  rw [if_pos (by decide), if_pos (by decide), if_pos (by decide), if_pos (by decide), if_pos (by decide), if_pos (by decide), if_pos (by decide), if_pos (by decide), if_pos (by decide), if_pos (by decide)]
  simp [Sem.run_bind, p0, p1, p2, p3, p4, p5, p6, p7, p8, p9, e0, e1, e2, eq_cf, eq_lod]
theorem serverNone_c (v : Evt) (o : Int) : FnP Tryz.prog 4 [.agg (Evt.c v), I64 o] (· = B true) := by
  refine FnP.intro Tryz.tabOK Tryz.wide_ Tryz.func4 rfl (by decide) rfl (fun X => ?_)
  repeat (first | refine sc rfl ?_ | refine so rfl ?_ | refine sb rfl ?_)
  refine O_call noneTick_c (by rfl) (by rfl) (by rfl) (by rfl) (fun r' hr => ?_)
  subst hr
  repeat (first | refine sc rfl ?_ | refine so rfl ?_ | refine sb rfl ?_)
  refine O_call noneOpen_c (by rfl) (by rfl) (by rfl) (by rfl) (fun r' hr => ?_)
  subst hr
  repeat (first | refine sc rfl ?_ | refine so rfl ?_ | refine sb rfl ?_)
  refine O_call (noneRecv_c v.conn v.bytes) (by rfl) (by rfl) (by rfl) (by rfl) (fun r' hr => ?_)
  subst hr
  repeat (first | refine sc rfl ?_ | refine so rfl ?_ | refine sb rfl ?_)
  refine O_call noneServe_c (by rfl) (by rfl) (by rfl) (by rfl) (fun r' hr => ?_)
  subst hr
  repeat (first | refine sc rfl ?_ | refine so rfl ?_ | refine sb rfl ?_)
  refine O_call (noneDeliver_c v.conn) (by rfl) (by rfl) (by rfl) (by rfl) (fun r' hr => ?_)
  subst hr
  repeat (first | refine sc rfl ?_ | refine so rfl ?_ | refine sb rfl ?_)
  refine O_call (noneView_c o) (by rfl) (by rfl) (by rfl) (by rfl) (fun r' hr => ?_)
  subst hr
  repeat (first | refine sc rfl ?_ | refine so rfl ?_ | refine sb rfl ?_)
  refine O_Xd (X_aggC (us := nteV default) (vs := nteV default) (b := true) (op := .eql) (fun e ys h => rep_nte default e ys h) (fun e ys h => rep_nte default e ys h) (fun w => eq_nte0 _ w) Tryz.eqGuardType35 (.inl rfl) rfl rfl rfl rfl) ?_
  repeat (first | refine sc rfl ?_ | refine so rfl ?_ | refine sb rfl ?_)
  refine O_Xd (X_aggC (us := vwV default) (vs := vwV default) (b := true) (op := .eql) (fun e ys h => rep_vw default e ys h) (fun e ys h => rep_vw default e ys h) (fun w => eq_vw _ w) Tryz.eqGuardType70 (.inl rfl) rfl rfl rfl rfl) ?_
  repeat (first | refine sc rfl ?_ | refine so rfl ?_ | refine sb rfl ?_)
  refine O_call (noneDraw_c v.num) (by rfl) (by rfl) (by rfl) (by rfl) (fun r' hr => ?_)
  subst hr
  repeat (first | refine sc rfl ?_ | refine so rfl ?_ | refine sb rfl ?_)
  refine O_call (noneReset_c v.conn) (by rfl) (by rfl) (by rfl) (by rfl) (fun r' hr => ?_)
  subst hr
  repeat (first | refine sc rfl ?_ | refine so rfl ?_ | refine sb rfl ?_)
  refine O_call noneNow_c (by rfl) (by rfl) (by rfl) (by rfl) (fun r' hr => ?_)
  subst hr
  repeat (first | refine sc rfl ?_ | refine so rfl ?_ | refine sb rfl ?_)
  refine O_call noneLive_c (by rfl) (by rfl) (by rfl) (by rfl) (fun r' hr => ?_)
  subst hr
  repeat (first | refine sc rfl ?_ | refine so rfl ?_ | refine sb rfl ?_)
  refine O_call noneActive_c (by rfl) (by rfl) (by rfl) (by rfl) (fun r' hr => ?_)
  subst hr
  repeat (first | refine sc rfl ?_ | refine so rfl ?_ | refine sb rfl ?_)
  refine O_call (noneOwner_c v.conn) (by rfl) (by rfl) (by rfl) (by rfl) (fun r' hr => ?_)
  subst hr
  repeat (first | refine sc rfl ?_ | refine so rfl ?_ | refine sb rfl ?_)
  refine O_call awake42_A.toP (by rfl) (by rfl) (by rfl) (by rfl) (fun r' hr => ?_)
  obtain ⟨_, rfl, _⟩ := hr
  repeat (first | refine sc rfl ?_ | refine so rfl ?_ | refine sb rfl ?_)
  exact ⟨_, rfl, rfl, rfl⟩
end Go.Proofs
