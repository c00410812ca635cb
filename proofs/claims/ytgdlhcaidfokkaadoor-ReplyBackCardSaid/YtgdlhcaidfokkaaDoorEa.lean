/- Two replies that are the same. -/
import Derived.Test.YtgdlhcaidfokkaaDoorSy24
import Derived.Test.YtgdlhcaidfokkaaDoorD13
import Derived.Laws.StructEq
set_option linter.unusedSimpArgs false
set_option linter.unusedVariables false
namespace Go.Proofs
open Go.Sy
theorem stood35 : Tryd.prog.stoodInHeld 35 = false := by kernel_rfl
theorem eqIn_int {P : Program} {t : Nat} {k : IntKind} (h : P.underlying t = some (.int k)) (a : Int) (w : World) (d : Nat) : (Op.equalIn (d + 1) t (.int k a) (.int k a)).run P w = .ok true w := by
  simp [Op.equalIn, run_underlying h]
theorem eqIn_str {P : Program} {t : Nat} (h : P.underlying t = some .string) (a : List UInt8) (w : World) (d : Nat) : (Op.equalIn (d + 1) t (S a) (S a)).run P w = .ok true w := by
  simp [Op.equalIn, run_underlying h, S]
  rw [beq_toListBytes]
  exact beq_self_eq_true _
theorem eq35 (a b : Int) (l : List UInt8) (w : World) (d : Nat) : (Op.equalIn (d + 2) 35 (.agg #[.int .u64 a, .int .i64 b, S l]) (.agg #[.int .u64 a, .int .i64 b, S l])).run Tryd.prog w = .ok true w := by
  have h0 := eqIn_int Tryd.underlying31 a w d
  have h1 := eqIn_int Tryd.underlying26 b w d
  have h2 := eqIn_str Tryd.underlying9 l w d
  rw [Op.equalIn]
  simp only [Sem.run_bind, run_underlying Tryd.underlying35, Result.andThen_ok, run_program, stood35]
  simp [part, h0, h1, h2]
theorem eqv35 (a b : Int) (l : List UInt8) (w : World) : (Op.equal 35 (.agg #[.int .u64 a, .int .i64 b, S l]) (.agg #[.int .u64 a, .int .i64 b, S l])).run Tryd.prog w = .ok true w := eq35 a b l w 9998
theorem noGuard35 : Tryd.prog.eqGuardType Tryd.prog.depth 35 = false := by kernel_rfl
theorem bop35 (a b : Int) (l : List UInt8) (w : World) (x y : Operand) : (do eqGuard .eql 35 x y (.agg #[.int .u64 a, .int .i64 b, S l]) (.agg #[.int .u64 a, .int .i64 b, S l]); binOp .eql 35 (.agg #[.int .u64 a, .int .i64 b, S l]) (.agg #[.int .u64 a, .int .i64 b, S l]) : Sem Value).run Tryd.prog w = .ok (.bool true) w := by
  have h := eqv35 a b l w
  simp [eqGuard, binOp, h, noGuard35]
theorem bop35n (a b : Int) (l : List UInt8) (w : World) (x y : Operand) : (do eqGuard .neq 35 x y (.agg #[.int .u64 a, .int .i64 b, S l]) (.agg #[.int .u64 a, .int .i64 b, S l]); binOp .neq 35 (.agg #[.int .u64 a, .int .i64 b, S l]) (.agg #[.int .u64 a, .int .i64 b, S l]) : Sem Value).run Tryd.prog w = .ok (.bool false) w := by
  have h := eqv35 a b l w
  simp [eqGuard, binOp, h, noGuard35]
end Go.Proofs
namespace Go.Proofs
open Go.Sy
section
variable {X : Ctx Tryd.prog Tryd.tab} {n : Nat} {e : Env} {a : Act} {w : World} {ops : Array Oper} {K : St → Prop}
theorem rep_reply {e : Env} {x y : Int} {l : List UInt8} {v : Value} (h : Rep e (.agg [U64 x, I64 y, .s l]) v) : v = .agg #[.int .u64 x, .int .i64 y, S l] := by
  simp only [Rep, RepL] at h
  obtain ⟨ys, rfl, z1, zs1, h1, rfl, _, z2, zs2, h2, rfl, _, z3, zs3, h3, rfl, _, rfl⟩ := h
  congr 1
  apply Array.ext'
  rw [h1, h2, h3]
theorem D_ne35 {base : List (Nat × AV)} {c : List Ch} {done : Done} {dst : Nat} {xo yo : Operand} {u ty : TypeId} {pos : String} {aft : Array Edge} {gd : Option (Nat × Bool)} {rest : List Oper} {x y : Int} {l : List UInt8}
    (hx : opd (availL done aft.toList base) xo = some (.agg [U64 x, I64 y, .s l])) (hy : opd (availL done aft.toList base) yo = some (.agg [U64 x, I64 y, .s l]))
    (hg : guardA ops ⟨availL done aft.toList base, c⟩ ⟨some dst, .binOp .neq 35 xo yo u, ty, pos, aft, gd⟩ = some true) (hd : Nat.blt dst n = true)
    (k : SymD X n ops base c K rest (done ++ [(some dst, B false)])) : SymD X n ops base c K (⟨some dst, .binOp .neq 35 xo yo u, ty, pos, aft, gd⟩ :: rest) done :=
  D_val (B false) hg hd (fun e a w r => ⟨.bool false, by simp [Rep], fun w' _ => by
    have e1 := rep_reply (opd_sound r hx)
    have e2 := rep_reply (opd_sound r hy)
    have := bop35n x y l w' xo yo
    simp only [execOp, e1, e2]
    rw [Sem.run_bind, this]
    rfl⟩) k
theorem D_eq35 {base : List (Nat × AV)} {c : List Ch} {done : Done} {dst : Nat} {xo yo : Operand} {u ty : TypeId} {pos : String} {aft : Array Edge} {gd : Option (Nat × Bool)} {rest : List Oper} {x y : Int} {l : List UInt8}
    (hx : opd (availL done aft.toList base) xo = some (.agg [U64 x, I64 y, .s l])) (hy : opd (availL done aft.toList base) yo = some (.agg [U64 x, I64 y, .s l]))
    (hg : guardA ops ⟨availL done aft.toList base, c⟩ ⟨some dst, .binOp .eql 35 xo yo u, ty, pos, aft, gd⟩ = some true) (hd : Nat.blt dst n = true)
    (k : SymD X n ops base c K rest (done ++ [(some dst, B true)])) : SymD X n ops base c K (⟨some dst, .binOp .eql 35 xo yo u, ty, pos, aft, gd⟩ :: rest) done :=
  D_val (B true) hg hd (fun e a w r => ⟨.bool true, by simp [Rep], fun w' _ => by
    have e1 := rep_reply (opd_sound r hx)
    have e2 := rep_reply (opd_sound r hy)
    have := bop35 x y l w' xo yo
    simp only [execOp, e1, e2]
    rw [Sem.run_bind, this]
    rfl⟩) k
end
end Go.Proofs
