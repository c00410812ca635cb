/-
  NARROWER THAN 'FOR EVERY INPUT', by the rows' own cells (each row's printed sentence says how): OpsFits: loops.
  DERIVED. THE GIVEN ROWS OF THIS SEAT. 8 by the template 'for every input the law returns true; each argument reads behind the call as it read before'; 0 by the template 'total and deterministic' (their statements: YtgdlhcaidfokkaaTotals.lean).
  GIVEN WITH THE SEED: the statements are not yours to turn. If you find one false, say at which input.
  Laid BY PROGRAM, IN A SANDBOX (cutbox-rows.mjs): the forced cells as the released guide's own fill.sh prints them over the translation 8d1f50e22eb173d1… (all of the seat's roots in one cut). By AI agents, Wed Nov 11 2026. No macro, syntax, notation, axiom, sorry.
-/
import Derived.Test.YtgdlhcaidfokkaaChecked
import GoSem.Claim
import GoSem.ClaimJoined
import GoSem.ClaimMapViews
import Derived.JoinedTies
import Derived.KernelRfl
namespace Go.Proofs.Ytgdlhcaidfokkaa
/- THE CELL 'sum', in the pinned program and in every row, IS THE sha256 OF THE DUMP (.gsa) THAT YtgdlhcaidfokkaaProg.lean LOADS. Nothing in Lean hashes anything: it is a label: what it is worth is what the hold of that sum in a sandbox is worth. -/
noncomputable def Try.pinned : Pinned := { name := "ytgdlhcaidfokkaa", sum := "8d1f50e22eb173d16c8a44d78150fe21f2e2e2ab74b66b80e3a49b7752d2f79d", checked := Try.checked }
namespace Rows
def none {H : Type} : Left H := { results := [], args := [] }

/-- 'concourselaw46.BoundNumbers': WHATEVER THE INPUT: true; the input reads as it did. -/
def boundNumbersSpec : ChangeSpec := { name := "boundNumbers", fn := fun _ => fun
  | [d1, d2, d3] => { results := [.lit (.bool true)], args := [d1, d2, d3] }
  | _ => none }
def boundNumbersRow : OpenClaim := { program := "ytgdlhcaidfokkaa", sum := "8d1f50e22eb173d16c8a44d78150fe21f2e2e2ab74b66b80e3a49b7752d2f79d", func := "concourse/concourselaw46.BoundNumbers", spec := "boundNumbers", apart := false }
def BoundNumbersSaid : Prop := boundNumbersRow.holds Try.pinned (OpenSpec.ofChange boundNumbersSpec)

/-- ITS FALSE NEIGHBOUR: 'it returns false'. Refute it at one input. -/
def boundNumbersWrong : ChangeSpec := { name := "boundNumbers", fn := fun _ => fun
  | [d1, d2, d3] => { results := [.lit (.bool false)], args := [d1, d2, d3] }
  | _ => none }
def BoundNumbersWrongFalsely : Prop := boundNumbersRow.holds Try.pinned (OpenSpec.ofChange boundNumbersWrong)

/-- 'concourselaw48.AuditTells': WHATEVER THE INPUT: true; the input reads as it did. -/
def auditTellsSpec : ChangeSpec := { name := "auditTells", fn := fun _ => fun
  | [d1, d2] => { results := [.lit (.bool true)], args := [d1, d2] }
  | _ => none }
def auditTellsRow : OpenClaim := { program := "ytgdlhcaidfokkaa", sum := "8d1f50e22eb173d16c8a44d78150fe21f2e2e2ab74b66b80e3a49b7752d2f79d", func := "concourse/concourselaw48.AuditTells", spec := "auditTells", apart := false }
def AuditTellsSaid : Prop := auditTellsRow.holds Try.pinned (OpenSpec.ofChange auditTellsSpec)

/-- ITS FALSE NEIGHBOUR: 'it returns false'. Refute it at one input. -/
def auditTellsWrong : ChangeSpec := { name := "auditTells", fn := fun _ => fun
  | [d1, d2] => { results := [.lit (.bool false)], args := [d1, d2] }
  | _ => none }
def AuditTellsWrongFalsely : Prop := auditTellsRow.holds Try.pinned (OpenSpec.ofChange auditTellsWrong)

/-- 'concourselaw47.SwapBodies': WHATEVER THE INPUT: true; the input reads as it did. -/
def swapBodiesSpec : ChangeSpec := { name := "swapBodies", fn := fun _ => fun
  | [d1, d2] => { results := [.lit (.bool true)], args := [d1, d2] }
  | _ => none }
def swapBodiesRow : OpenClaim := { program := "ytgdlhcaidfokkaa", sum := "8d1f50e22eb173d16c8a44d78150fe21f2e2e2ab74b66b80e3a49b7752d2f79d", func := "concourse/concourselaw47.SwapBodies", spec := "swapBodies", inPlace := ["internal/abi.NoEscape"], unfollowed := true, recurses := true, apart := false }
def SwapBodiesSaid : Prop := swapBodiesRow.holds Try.pinned (OpenSpec.ofChange swapBodiesSpec)

/-- ITS FALSE NEIGHBOUR: 'it returns false'. Refute it at one input. -/
def swapBodiesWrong : ChangeSpec := { name := "swapBodies", fn := fun _ => fun
  | [d1, d2] => { results := [.lit (.bool false)], args := [d1, d2] }
  | _ => none }
def SwapBodiesWrongFalsely : Prop := swapBodiesRow.holds Try.pinned (OpenSpec.ofChange swapBodiesWrong)

/-- 'concourselaw47.SwapKeeps': WHATEVER THE INPUT: true; the input reads as it did. -/
def swapKeepsSpec : ChangeSpec := { name := "swapKeeps", fn := fun _ => fun
  | [d1, d2] => { results := [.lit (.bool true)], args := [d1, d2] }
  | _ => none }
def swapKeepsRow : OpenClaim := { program := "ytgdlhcaidfokkaa", sum := "8d1f50e22eb173d16c8a44d78150fe21f2e2e2ab74b66b80e3a49b7752d2f79d", func := "concourse/concourselaw47.SwapKeeps", spec := "swapKeeps", inPlace := ["internal/abi.NoEscape"], unfollowed := true, recurses := true, apart := false }
def SwapKeepsSaid : Prop := swapKeepsRow.holds Try.pinned (OpenSpec.ofChange swapKeepsSpec)

/-- ITS FALSE NEIGHBOUR: 'it returns false'. Refute it at one input. -/
def swapKeepsWrong : ChangeSpec := { name := "swapKeeps", fn := fun _ => fun
  | [d1, d2] => { results := [.lit (.bool false)], args := [d1, d2] }
  | _ => none }
def SwapKeepsWrongFalsely : Prop := swapKeepsRow.holds Try.pinned (OpenSpec.ofChange swapKeepsWrong)

/-- 'concourselaw46.BoundRing': WHATEVER THE INPUT: true; the input reads as it did. -/
def boundRingSpec : ChangeSpec := { name := "boundRing", fn := fun _ => fun
  | [d1, d2, d3] => { results := [.lit (.bool true)], args := [d1, d2, d3] }
  | _ => none }
def boundRingRow : OpenClaim := { program := "ytgdlhcaidfokkaa", sum := "8d1f50e22eb173d16c8a44d78150fe21f2e2e2ab74b66b80e3a49b7752d2f79d", func := "concourse/concourselaw46.BoundRing", spec := "boundRing", unfollowed := true, recurses := true, apart := false }
def BoundRingSaid : Prop := boundRingRow.holds Try.pinned (OpenSpec.ofChange boundRingSpec)

/-- ITS FALSE NEIGHBOUR: 'it returns false'. Refute it at one input. -/
def boundRingWrong : ChangeSpec := { name := "boundRing", fn := fun _ => fun
  | [d1, d2, d3] => { results := [.lit (.bool false)], args := [d1, d2, d3] }
  | _ => none }
def BoundRingWrongFalsely : Prop := boundRingRow.holds Try.pinned (OpenSpec.ofChange boundRingWrong)

/-- 'concourselaw07.PadPads': WHATEVER THE INPUT: true; the input reads as it did. -/
def padPadsSpec : ChangeSpec := { name := "padPads", fn := fun _ => fun
  | [d1, d2] => { results := [.lit (.bool true)], args := [d1, d2] }
  | _ => none }
def padPadsRow : OpenClaim := { program := "ytgdlhcaidfokkaa", sum := "8d1f50e22eb173d16c8a44d78150fe21f2e2e2ab74b66b80e3a49b7752d2f79d", func := "concourse/concourselaw07.PadPads", spec := "padPads", inPlace := ["internal/abi.NoEscape", "internal/bytealg.MakeNoZero"], apart := false }
def PadPadsSaid : Prop := padPadsRow.holds Try.pinned (OpenSpec.ofChange padPadsSpec)

/-- ITS FALSE NEIGHBOUR: 'it returns false'. Refute it at one input. -/
def padPadsWrong : ChangeSpec := { name := "padPads", fn := fun _ => fun
  | [d1, d2] => { results := [.lit (.bool false)], args := [d1, d2] }
  | _ => none }
def PadPadsWrongFalsely : Prop := padPadsRow.holds Try.pinned (OpenSpec.ofChange padPadsWrong)

/-- 'concourselaw35.ReplyPuts': WHATEVER THE INPUT: true; the input reads as it did. -/
def replyPutsSpec : ChangeSpec := { name := "replyPuts", fn := fun _ => fun
  | [d1, d2] => { results := [.lit (.bool true)], args := [d1, d2] }
  | _ => none }
def replyPutsRow : OpenClaim := { program := "ytgdlhcaidfokkaa", sum := "8d1f50e22eb173d16c8a44d78150fe21f2e2e2ab74b66b80e3a49b7752d2f79d", func := "concourse/concourselaw35.ReplyPuts", spec := "replyPuts", inPlace := ["internal/abi.NoEscape", "internal/bytealg.MakeNoZero"], recurses := true, apart := false }
def ReplyPutsSaid : Prop := replyPutsRow.holds Try.pinned (OpenSpec.ofChange replyPutsSpec)

/-- ITS FALSE NEIGHBOUR: 'it returns false'. Refute it at one input. -/
def replyPutsWrong : ChangeSpec := { name := "replyPuts", fn := fun _ => fun
  | [d1, d2] => { results := [.lit (.bool false)], args := [d1, d2] }
  | _ => none }
def ReplyPutsWrongFalsely : Prop := replyPutsRow.holds Try.pinned (OpenSpec.ofChange replyPutsWrong)

/-- 'concourselaw30.OpsFits': WHATEVER THE INPUT: true; the input reads as it did. -/
def opsFitsSpec : ChangeSpec := { name := "opsFits", fn := fun _ => fun
  | [d1, d2, d3] => { results := [.lit (.bool true)], args := [d1, d2, d3] }
  | _ => none }
def opsFitsRow : OpenClaim := { program := "ytgdlhcaidfokkaa", sum := "8d1f50e22eb173d16c8a44d78150fe21f2e2e2ab74b66b80e3a49b7752d2f79d", func := "concourse/concourselaw30.OpsFits", spec := "opsFits", inPlace := ["sync/atomic.LoadUint32", "(*internal/sync.Mutex).Lock", "internal/race.Disable", "sync/atomic.CompareAndSwapInt32", "internal/race.Enable", "internal/race.Acquire", "(*internal/sync.Mutex).lockSlow", "internal/sync.runtime_canSpin", "internal/sync.runtime_doSpin", "internal/sync.throw", "internal/sync.runtime_nanotime", "internal/sync.runtime_SemacquireMutex", "sync/atomic.AddInt32", "(*internal/sync.Mutex).Unlock", "internal/race.ReleaseMerge", "(*internal/sync.Mutex).unlockSlow", "internal/sync.fatal", "internal/sync.runtime_Semrelease", "sync/atomic.StoreUint32"], unfollowed := true, recurses := true, loops := true, apart := false }
def OpsFitsSaid : Prop := opsFitsRow.holds Try.pinned (OpenSpec.ofChange opsFitsSpec)

/-- ITS FALSE NEIGHBOUR: 'it returns false'. Refute it at one input. -/
def opsFitsWrong : ChangeSpec := { name := "opsFits", fn := fun _ => fun
  | [d1, d2, d3] => { results := [.lit (.bool false)], args := [d1, d2, d3] }
  | _ => none }
def OpsFitsWrongFalsely : Prop := opsFitsRow.holds Try.pinned (OpenSpec.ofChange opsFitsWrong)

/- THE SECOND FORM. 'bulk': how many values and letters a reading holds, each counted each time it is reached (what is shared counts as often as it is met; a slice's spare places count too). A statement '..UptoSaid' is the law's where the arguments, and the package variables that the reading takes, are together of bulk at most 1048576: NARROWER than '..Said'. Prove '..Said' where nothing that the law and all that it calls make is longer than what came in: it says more and counts as full. Else prove '..UptoSaid'. A law counts once. -/
mutual
def uptoBulk {H : Type} : DataW H → Nat
  | .lit (.string bytes) => bytes.length + 1
  | .lit _ => 1
  | .nil => 1
  | .ptr d => uptoBulk d + 1
  | .slice elems spare => uptoBulkAll elems + uptoBulkAll spare + 1
  | .agg parts => uptoBulkAll parts + 1
  | .iface _ d => uptoBulk d + 1
  | .map entries => uptoBulkEntries entries + 1
  | .held _ => 1
def uptoBulkAll {H : Type} : List (DataW H) → Nat
  | [] => 0
  | d :: r => uptoBulk d + uptoBulkAll r
def uptoBulkEntries {H : Type} : List (Lit × DataW H) → Nat
  | [] => 0
  | x :: r => uptoBulkEntry x + uptoBulkEntries r
def uptoBulkEntry {H : Type} : Lit × DataW H → Nat
  | (.string bytes, d) => bytes.length + uptoBulk d + 1
  | (_, d) => uptoBulk d + 1
 end
def uptoSmall : (H : Type) → List (DataW H) → Bool := fun _ ds => decide (uptoBulkAll ds ≤ 1048576)
def OpenSpec.upto (s : _root_.Go.ChangeSpec) : _root_.Go.OpenSpec := { _root_.Go.OpenSpec.ofChange s with cond := some uptoSmall }

/-- 'concourselaw46.BoundNumbers', WHERE WHAT IT READS IS OF BULK AT MOST 1048576: true; the input reads as it did. -/
def boundNumbersUptoRow : OpenClaim := { program := "ytgdlhcaidfokkaa", sum := "8d1f50e22eb173d16c8a44d78150fe21f2e2e2ab74b66b80e3a49b7752d2f79d", func := "concourse/concourselaw46.BoundNumbers", spec := "boundNumbers", apart := false, narrowed := true }
def BoundNumbersUptoSaid : Prop := boundNumbersUptoRow.holds Try.pinned (OpenSpec.upto boundNumbersSpec)

/-- 'concourselaw48.AuditTells', WHERE WHAT IT READS IS OF BULK AT MOST 1048576: true; the input reads as it did. -/
def auditTellsUptoRow : OpenClaim := { program := "ytgdlhcaidfokkaa", sum := "8d1f50e22eb173d16c8a44d78150fe21f2e2e2ab74b66b80e3a49b7752d2f79d", func := "concourse/concourselaw48.AuditTells", spec := "auditTells", apart := false, narrowed := true }
def AuditTellsUptoSaid : Prop := auditTellsUptoRow.holds Try.pinned (OpenSpec.upto auditTellsSpec)

/-- 'concourselaw47.SwapBodies', WHERE WHAT IT READS IS OF BULK AT MOST 1048576: true; the input reads as it did. -/
def swapBodiesUptoRow : OpenClaim := { program := "ytgdlhcaidfokkaa", sum := "8d1f50e22eb173d16c8a44d78150fe21f2e2e2ab74b66b80e3a49b7752d2f79d", func := "concourse/concourselaw47.SwapBodies", spec := "swapBodies", inPlace := ["internal/abi.NoEscape"], unfollowed := true, recurses := true, apart := false, narrowed := true }
def SwapBodiesUptoSaid : Prop := swapBodiesUptoRow.holds Try.pinned (OpenSpec.upto swapBodiesSpec)

/-- 'concourselaw47.SwapKeeps', WHERE WHAT IT READS IS OF BULK AT MOST 1048576: true; the input reads as it did. -/
def swapKeepsUptoRow : OpenClaim := { program := "ytgdlhcaidfokkaa", sum := "8d1f50e22eb173d16c8a44d78150fe21f2e2e2ab74b66b80e3a49b7752d2f79d", func := "concourse/concourselaw47.SwapKeeps", spec := "swapKeeps", inPlace := ["internal/abi.NoEscape"], unfollowed := true, recurses := true, apart := false, narrowed := true }
def SwapKeepsUptoSaid : Prop := swapKeepsUptoRow.holds Try.pinned (OpenSpec.upto swapKeepsSpec)

/-- 'concourselaw46.BoundRing', WHERE WHAT IT READS IS OF BULK AT MOST 1048576: true; the input reads as it did. -/
def boundRingUptoRow : OpenClaim := { program := "ytgdlhcaidfokkaa", sum := "8d1f50e22eb173d16c8a44d78150fe21f2e2e2ab74b66b80e3a49b7752d2f79d", func := "concourse/concourselaw46.BoundRing", spec := "boundRing", unfollowed := true, recurses := true, apart := false, narrowed := true }
def BoundRingUptoSaid : Prop := boundRingUptoRow.holds Try.pinned (OpenSpec.upto boundRingSpec)

/-- 'concourselaw07.PadPads', WHERE WHAT IT READS IS OF BULK AT MOST 1048576: true; the input reads as it did. -/
def padPadsUptoRow : OpenClaim := { program := "ytgdlhcaidfokkaa", sum := "8d1f50e22eb173d16c8a44d78150fe21f2e2e2ab74b66b80e3a49b7752d2f79d", func := "concourse/concourselaw07.PadPads", spec := "padPads", inPlace := ["internal/abi.NoEscape", "internal/bytealg.MakeNoZero"], apart := false, narrowed := true }
def PadPadsUptoSaid : Prop := padPadsUptoRow.holds Try.pinned (OpenSpec.upto padPadsSpec)

/-- 'concourselaw35.ReplyPuts', WHERE WHAT IT READS IS OF BULK AT MOST 1048576: true; the input reads as it did. -/
def replyPutsUptoRow : OpenClaim := { program := "ytgdlhcaidfokkaa", sum := "8d1f50e22eb173d16c8a44d78150fe21f2e2e2ab74b66b80e3a49b7752d2f79d", func := "concourse/concourselaw35.ReplyPuts", spec := "replyPuts", inPlace := ["internal/abi.NoEscape", "internal/bytealg.MakeNoZero"], recurses := true, apart := false, narrowed := true }
def ReplyPutsUptoSaid : Prop := replyPutsUptoRow.holds Try.pinned (OpenSpec.upto replyPutsSpec)

/-- 'concourselaw30.OpsFits', WHERE WHAT IT READS IS OF BULK AT MOST 1048576: true; the input reads as it did. -/
def opsFitsUptoRow : OpenClaim := { program := "ytgdlhcaidfokkaa", sum := "8d1f50e22eb173d16c8a44d78150fe21f2e2e2ab74b66b80e3a49b7752d2f79d", func := "concourse/concourselaw30.OpsFits", spec := "opsFits", inPlace := ["sync/atomic.LoadUint32", "(*internal/sync.Mutex).Lock", "internal/race.Disable", "sync/atomic.CompareAndSwapInt32", "internal/race.Enable", "internal/race.Acquire", "(*internal/sync.Mutex).lockSlow", "internal/sync.runtime_canSpin", "internal/sync.runtime_doSpin", "internal/sync.throw", "internal/sync.runtime_nanotime", "internal/sync.runtime_SemacquireMutex", "sync/atomic.AddInt32", "(*internal/sync.Mutex).Unlock", "internal/race.ReleaseMerge", "(*internal/sync.Mutex).unlockSlow", "internal/sync.fatal", "internal/sync.runtime_Semrelease", "sync/atomic.StoreUint32"], unfollowed := true, recurses := true, loops := true, apart := false, narrowed := true }
def OpsFitsUptoSaid : Prop := opsFitsUptoRow.holds Try.pinned (OpenSpec.upto opsFitsSpec)

end Rows
end Go.Proofs.Ytgdlhcaidfokkaa
