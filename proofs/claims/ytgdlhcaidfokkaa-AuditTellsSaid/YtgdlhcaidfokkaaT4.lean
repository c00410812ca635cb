/- Contracts, part three: the law AuditTells. -/
import Derived.Test.YtgdlhcaidfokkaaT3
set_option linter.unusedSimpArgs false
set_option linter.unusedVariables false
namespace Go.Proofs
open Go.Sy

/-- A view: nine numbers of its configuration, four of its load, six more. -/
structure Vw where
  (q r b mem slots outs conns state dec tok lmem lslots louts waits cost nc ns kept tombs : Int)
instance : Inhabited Vw := ⟨⟨0,0,0,0,0,0,0,0,0,0,0,0,0,0,0,0,0,0,0⟩⟩
def Vw.cells (v : Vw) : List AV := [I64 v.q, I64 v.r, I64 v.b, I64 v.mem, I64 v.slots, I64 v.outs, I64 v.conns, I64 v.state, I64 v.dec, I64 v.tok, I64 v.lmem, I64 v.lslots, I64 v.louts, I64 v.waits, I64 v.cost, I64 v.nc, I64 v.ns, I64 v.kept, I64 v.tombs]

/-- The program's own view: two cells more. -/
def Vw.own (v : Vw) : List AV := [I64 v.q, I64 v.r, I64 v.b, I64 v.mem, I64 v.slots, I64 v.outs, I64 v.conns, I64 v.state, I64 v.dec, B false, I64 v.tok, I64 v.lmem, I64 v.lslots, I64 v.louts, I64 v.waits, I64 v.cost, I64 v.nc, I64 v.ns, I64 v.kept, I64 v.tombs, .s []]

theorem somebody_c (v : Vw) : FnP Try.prog 63 [.agg v.own] (· = B (!decide (v.q = 0))) := by
  refine FnP.intro Try.tabOK Try.wide_ Try.func63 rfl (by decide) rfl (fun X => ?_)
  repeat (first | refine sc rfl ?_ | refine so rfl ?_ | refine sb rfl ?_)
  exact ⟨_, rfl, rfl, rfl⟩

theorem ours48_c (v : Vw) : FnP Try.prog 17 [.agg v.cells] (· = .agg v.own) := by
  refine FnP.intro Try.tabOK Try.wide_ Try.func17 rfl (by decide) rfl (fun X => ?_)
  repeat (first | refine sc rfl ?_ | refine so rfl ?_ | refine sb rfl ?_)
  exact ⟨_, rfl, rfl, rfl⟩

theorem spans_c (a b : Vw) : FnP Try.prog 64 [.agg a.own, .agg b.own] (· = .agg [I64 0, I64 0, I64 0, I64 a.lmem, I64 b.lmem, I64 b.mem, I64 a.lslots, I64 b.lslots, I64 b.slots, I64 a.louts, I64 b.louts, I64 b.outs, I64 a.nc, I64 b.nc, I64 b.conns, I64 a.ns, I64 b.ns, I64 b.state, I64 0, I64 0, I64 0, I64 0, I64 0, I64 0, I64 0, I64 0, I64 0, I64 0, I64 0, I64 0]) := by
  refine FnP.intro Try.tabOK Try.wide_ Try.func64 rfl (by decide) rfl (fun X => ?_)
  repeat (first | refine sc rfl ?_ | refine so rfl ?_ | refine sb rfl ?_ | refine ⟨by decide, ?_⟩)
  exact ⟨_, rfl, rfl, rfl⟩
end Go.Proofs
