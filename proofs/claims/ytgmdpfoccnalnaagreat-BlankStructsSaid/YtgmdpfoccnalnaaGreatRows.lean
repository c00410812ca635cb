/-
  NARROWER THAN 'FOR EVERY INPUT', by the rows' own cells (each row's printed sentence says how): BlankLeast: loops · FitKeeps: loops · OpsGives: loops · CompatTypes: loops · BlankStructs: loops · EncodeInsides: loops · EncodeApart: loops.
  DERIVED. THE GIVEN ROWS OF THIS SEAT. 9 by the template 'for every input the law returns true; each argument reads behind the call as it read before'; 0 by the template 'total and deterministic' (their statements: YtgmdpfoccnalnaaGreatTotals.lean).
  GIVEN WITH THE SEED: the statements are not yours to turn. If you find one false, say at which input.
  Laid BY PROGRAM, IN A SANDBOX (cutbox-rows.mjs): the forced cells as the released guide's own fill.sh prints them over the translation 395711d8a92f9475… (all of the seat's roots in one cut). By AI agents, Wed Nov 11 2026. No macro, syntax, notation, axiom, sorry.
-/
import Derived.Test.YtgmdpfoccnalnaaGreatChecked
import GoSem.Claim
import GoSem.ClaimJoined
import GoSem.ClaimMapViews
import Derived.JoinedTies
import Derived.KernelRfl
namespace Go.Proofs.YtgmdpfoccnalnaaGreat
/- THE CELL 'sum', in the pinned program and in every row, IS THE sha256 OF THE DUMP (.gsa) THAT YtgmdpfoccnalnaaGreatProg.lean LOADS. Nothing in Lean hashes anything: it is a label: what it is worth is what the hold of that sum in a sandbox is worth. -/
noncomputable def Tryz.pinned : Pinned := { name := "ytgmdpfoccnalnaagreat", sum := "395711d8a92f94750cf1205bb6a32f2d12cfc4c8fa2139a446ee36c2bf2ba500", checked := Tryz.checked }
namespace Rows
def none {H : Type} : Left H := { results := [], args := [] }

/-- 'concourselaw46.BoundOf': WHATEVER THE INPUT: true; the input reads as it did. -/
def boundOfSpec : ChangeSpec := { name := "boundOf", fn := fun _ => fun
  | [d1, d2] => { results := [.lit (.bool true)], args := [d1, d2] }
  | _ => none }
def boundOfRow : OpenClaim := { program := "ytgmdpfoccnalnaagreat", sum := "395711d8a92f94750cf1205bb6a32f2d12cfc4c8fa2139a446ee36c2bf2ba500", func := "concourse/concourselaw46.BoundOf", spec := "boundOf", unfollowed := true, recurses := true, apart := false }
def BoundOfSaid : Prop := boundOfRow.holds Tryz.pinned (OpenSpec.ofChange boundOfSpec)

/-- ITS FALSE NEIGHBOUR: 'it returns false'. Refute it at one input. -/
def boundOfWrong : ChangeSpec := { name := "boundOf", fn := fun _ => fun
  | [d1, d2] => { results := [.lit (.bool false)], args := [d1, d2] }
  | _ => none }
def BoundOfWrongFalsely : Prop := boundOfRow.holds Tryz.pinned (OpenSpec.ofChange boundOfWrong)

/-- 'concourselaw13.DescOwn': WHATEVER THE INPUT: true; the input reads as it did. -/
def descOwnSpec : ChangeSpec := { name := "descOwn", fn := fun _ => fun
  | [d] => { results := [.lit (.bool true)], args := [d] }
  | _ => none }
def descOwnRow : OpenClaim := { program := "ytgmdpfoccnalnaagreat", sum := "395711d8a92f94750cf1205bb6a32f2d12cfc4c8fa2139a446ee36c2bf2ba500", func := "concourse/concourselaw13.DescOwn", spec := "descOwn", inPlace := ["internal/bytealg.IndexByteString", "internal/bytealg.IndexString", "sync/atomic.LoadUint32", "(*internal/sync.Mutex).Lock", "internal/race.Disable", "sync/atomic.CompareAndSwapInt32", "internal/race.Enable", "internal/race.Acquire", "(*internal/sync.Mutex).lockSlow", "internal/sync.runtime_canSpin", "internal/sync.runtime_doSpin", "internal/sync.throw", "internal/sync.runtime_nanotime", "internal/sync.runtime_SemacquireMutex", "sync/atomic.AddInt32", "(*internal/sync.Mutex).Unlock", "internal/race.ReleaseMerge", "(*internal/sync.Mutex).unlockSlow", "internal/sync.fatal", "internal/sync.runtime_Semrelease", "sync/atomic.StoreUint32"], unfollowed := true, recurses := true, named := ["internal/bytealg.MaxLen"], apart := false }
def DescOwnSaid : Prop := descOwnRow.holds Tryz.pinned (OpenSpec.ofChange descOwnSpec)

/-- ITS FALSE NEIGHBOUR: 'it returns false'. Refute it at one input. -/
def descOwnWrong : ChangeSpec := { name := "descOwn", fn := fun _ => fun
  | [d] => { results := [.lit (.bool false)], args := [d] }
  | _ => none }
def DescOwnWrongFalsely : Prop := descOwnRow.holds Tryz.pinned (OpenSpec.ofChange descOwnWrong)

/-- 'concourselaw19.BlankLeast': WHATEVER THE INPUT: true; the input reads as it did. -/
def blankLeastSpec : ChangeSpec := { name := "blankLeast", fn := fun _ => fun
  | [d1, d2, d3] => { results := [.lit (.bool true)], args := [d1, d2, d3] }
  | _ => none }
def blankLeastRow : OpenClaim := { program := "ytgmdpfoccnalnaagreat", sum := "395711d8a92f94750cf1205bb6a32f2d12cfc4c8fa2139a446ee36c2bf2ba500", func := "concourse/concourselaw19.BlankLeast", spec := "blankLeast", inPlace := ["internal/bytealg.IndexByteString", "internal/bytealg.IndexString", "sync/atomic.LoadUint32", "(*internal/sync.Mutex).Lock", "internal/race.Disable", "sync/atomic.CompareAndSwapInt32", "internal/race.Enable", "internal/race.Acquire", "(*internal/sync.Mutex).lockSlow", "internal/sync.runtime_canSpin", "internal/sync.runtime_doSpin", "internal/sync.throw", "internal/sync.runtime_nanotime", "internal/sync.runtime_SemacquireMutex", "sync/atomic.AddInt32", "(*internal/sync.Mutex).Unlock", "internal/race.ReleaseMerge", "(*internal/sync.Mutex).unlockSlow", "internal/sync.fatal", "internal/sync.runtime_Semrelease", "sync/atomic.StoreUint32"], unfollowed := true, recurses := true, named := ["internal/bytealg.MaxLen"], loops := true, apart := false }
def BlankLeastSaid : Prop := blankLeastRow.holds Tryz.pinned (OpenSpec.ofChange blankLeastSpec)

/-- ITS FALSE NEIGHBOUR: 'it returns false'. Refute it at one input. -/
def blankLeastWrong : ChangeSpec := { name := "blankLeast", fn := fun _ => fun
  | [d1, d2, d3] => { results := [.lit (.bool false)], args := [d1, d2, d3] }
  | _ => none }
def BlankLeastWrongFalsely : Prop := blankLeastRow.holds Tryz.pinned (OpenSpec.ofChange blankLeastWrong)

/-- 'concourselaw16.FitKeeps': WHATEVER THE INPUT: true; the input reads as it did. -/
def fitKeepsSpec : ChangeSpec := { name := "fitKeeps", fn := fun _ => fun
  | [d1, d2, d3] => { results := [.lit (.bool true)], args := [d1, d2, d3] }
  | _ => none }
def fitKeepsRow : OpenClaim := { program := "ytgmdpfoccnalnaagreat", sum := "395711d8a92f94750cf1205bb6a32f2d12cfc4c8fa2139a446ee36c2bf2ba500", func := "concourse/concourselaw16.FitKeeps", spec := "fitKeeps", inPlace := ["sync/atomic.LoadUint32", "(*internal/sync.Mutex).Lock", "internal/race.Disable", "sync/atomic.CompareAndSwapInt32", "internal/race.Enable", "internal/race.Acquire", "(*internal/sync.Mutex).lockSlow", "internal/sync.runtime_canSpin", "internal/sync.runtime_doSpin", "internal/sync.throw", "internal/sync.runtime_nanotime", "internal/sync.runtime_SemacquireMutex", "sync/atomic.AddInt32", "(*internal/sync.Mutex).Unlock", "internal/race.ReleaseMerge", "(*internal/sync.Mutex).unlockSlow", "internal/sync.fatal", "internal/sync.runtime_Semrelease", "sync/atomic.StoreUint32"], unfollowed := true, recurses := true, loops := true, apart := false }
def FitKeepsSaid : Prop := fitKeepsRow.holds Tryz.pinned (OpenSpec.ofChange fitKeepsSpec)

/-- ITS FALSE NEIGHBOUR: 'it returns false'. Refute it at one input. -/
def fitKeepsWrong : ChangeSpec := { name := "fitKeeps", fn := fun _ => fun
  | [d1, d2, d3] => { results := [.lit (.bool false)], args := [d1, d2, d3] }
  | _ => none }
def FitKeepsWrongFalsely : Prop := fitKeepsRow.holds Tryz.pinned (OpenSpec.ofChange fitKeepsWrong)

/-- 'concourselaw30.OpsGives': WHATEVER THE INPUT: true; the input reads as it did. -/
def opsGivesSpec : ChangeSpec := { name := "opsGives", fn := fun _ => fun
  | [d1, d2, d3] => { results := [.lit (.bool true)], args := [d1, d2, d3] }
  | _ => none }
def opsGivesRow : OpenClaim := { program := "ytgmdpfoccnalnaagreat", sum := "395711d8a92f94750cf1205bb6a32f2d12cfc4c8fa2139a446ee36c2bf2ba500", func := "concourse/concourselaw30.OpsGives", spec := "opsGives", inPlace := ["sync/atomic.LoadUint32", "(*internal/sync.Mutex).Lock", "internal/race.Disable", "sync/atomic.CompareAndSwapInt32", "internal/race.Enable", "internal/race.Acquire", "(*internal/sync.Mutex).lockSlow", "internal/sync.runtime_canSpin", "internal/sync.runtime_doSpin", "internal/sync.throw", "internal/sync.runtime_nanotime", "internal/sync.runtime_SemacquireMutex", "sync/atomic.AddInt32", "(*internal/sync.Mutex).Unlock", "internal/race.ReleaseMerge", "(*internal/sync.Mutex).unlockSlow", "internal/sync.fatal", "internal/sync.runtime_Semrelease", "sync/atomic.StoreUint32"], unfollowed := true, recurses := true, loops := true, apart := false }
def OpsGivesSaid : Prop := opsGivesRow.holds Tryz.pinned (OpenSpec.ofChange opsGivesSpec)

/-- ITS FALSE NEIGHBOUR: 'it returns false'. Refute it at one input. -/
def opsGivesWrong : ChangeSpec := { name := "opsGives", fn := fun _ => fun
  | [d1, d2, d3] => { results := [.lit (.bool false)], args := [d1, d2, d3] }
  | _ => none }
def OpsGivesWrongFalsely : Prop := opsGivesRow.holds Tryz.pinned (OpenSpec.ofChange opsGivesWrong)

/-- 'concourselaw14.CompatTypes': WHATEVER THE INPUT: true; the input reads as it did. -/
def compatTypesSpec : ChangeSpec := { name := "compatTypes", fn := fun _ => fun
  | [d1, d2] => { results := [.lit (.bool true)], args := [d1, d2] }
  | _ => none }
def compatTypesRow : OpenClaim := { program := "ytgmdpfoccnalnaagreat", sum := "395711d8a92f94750cf1205bb6a32f2d12cfc4c8fa2139a446ee36c2bf2ba500", func := "concourse/concourselaw14.CompatTypes", spec := "compatTypes", inPlace := ["internal/bytealg.IndexByteString", "internal/bytealg.IndexString", "sync/atomic.LoadUint32", "(*internal/sync.Mutex).Lock", "internal/race.Disable", "sync/atomic.CompareAndSwapInt32", "internal/race.Enable", "internal/race.Acquire", "(*internal/sync.Mutex).lockSlow", "internal/sync.runtime_canSpin", "internal/sync.runtime_doSpin", "internal/sync.throw", "internal/sync.runtime_nanotime", "internal/sync.runtime_SemacquireMutex", "sync/atomic.AddInt32", "(*internal/sync.Mutex).Unlock", "internal/race.ReleaseMerge", "(*internal/sync.Mutex).unlockSlow", "internal/sync.fatal", "internal/sync.runtime_Semrelease", "sync/atomic.StoreUint32"], unfollowed := true, recurses := true, named := ["internal/bytealg.MaxLen"], loops := true, apart := false }
def CompatTypesSaid : Prop := compatTypesRow.holds Tryz.pinned (OpenSpec.ofChange compatTypesSpec)

/-- ITS FALSE NEIGHBOUR: 'it returns false'. Refute it at one input. -/
def compatTypesWrong : ChangeSpec := { name := "compatTypes", fn := fun _ => fun
  | [d1, d2] => { results := [.lit (.bool false)], args := [d1, d2] }
  | _ => none }
def CompatTypesWrongFalsely : Prop := compatTypesRow.holds Tryz.pinned (OpenSpec.ofChange compatTypesWrong)

/-- 'concourselaw19.BlankStructs': WHATEVER THE INPUT: true; the input reads as it did. -/
def blankStructsSpec : ChangeSpec := { name := "blankStructs", fn := fun _ => fun
  | [d1, d2] => { results := [.lit (.bool true)], args := [d1, d2] }
  | _ => none }
def blankStructsRow : OpenClaim := { program := "ytgmdpfoccnalnaagreat", sum := "395711d8a92f94750cf1205bb6a32f2d12cfc4c8fa2139a446ee36c2bf2ba500", func := "concourse/concourselaw19.BlankStructs", spec := "blankStructs", inPlace := ["internal/bytealg.IndexByteString", "internal/bytealg.IndexString", "sync/atomic.LoadUint32", "(*internal/sync.Mutex).Lock", "internal/race.Disable", "sync/atomic.CompareAndSwapInt32", "internal/race.Enable", "internal/race.Acquire", "(*internal/sync.Mutex).lockSlow", "internal/sync.runtime_canSpin", "internal/sync.runtime_doSpin", "internal/sync.throw", "internal/sync.runtime_nanotime", "internal/sync.runtime_SemacquireMutex", "sync/atomic.AddInt32", "(*internal/sync.Mutex).Unlock", "internal/race.ReleaseMerge", "(*internal/sync.Mutex).unlockSlow", "internal/sync.fatal", "internal/sync.runtime_Semrelease", "sync/atomic.StoreUint32"], unfollowed := true, recurses := true, named := ["internal/bytealg.MaxLen"], loops := true, apart := false }
def BlankStructsSaid : Prop := blankStructsRow.holds Tryz.pinned (OpenSpec.ofChange blankStructsSpec)

/-- ITS FALSE NEIGHBOUR: 'it returns false'. Refute it at one input. -/
def blankStructsWrong : ChangeSpec := { name := "blankStructs", fn := fun _ => fun
  | [d1, d2] => { results := [.lit (.bool false)], args := [d1, d2] }
  | _ => none }
def BlankStructsWrongFalsely : Prop := blankStructsRow.holds Tryz.pinned (OpenSpec.ofChange blankStructsWrong)

/-- 'concourselaw17.EncodeInsides': WHATEVER THE INPUT: true; the input reads as it did. -/
def encodeInsidesSpec : ChangeSpec := { name := "encodeInsides", fn := fun _ => fun
  | [d1, d2, d3] => { results := [.lit (.bool true)], args := [d1, d2, d3] }
  | _ => none }
def encodeInsidesRow : OpenClaim := { program := "ytgmdpfoccnalnaagreat", sum := "395711d8a92f94750cf1205bb6a32f2d12cfc4c8fa2139a446ee36c2bf2ba500", func := "concourse/concourselaw17.EncodeInsides", spec := "encodeInsides", inPlace := ["internal/bytealg.IndexByteString", "internal/bytealg.IndexString", "sync/atomic.LoadUint32", "(*internal/sync.Mutex).Lock", "internal/race.Disable", "sync/atomic.CompareAndSwapInt32", "internal/race.Enable", "internal/race.Acquire", "(*internal/sync.Mutex).lockSlow", "internal/sync.runtime_canSpin", "internal/sync.runtime_doSpin", "internal/sync.throw", "internal/sync.runtime_nanotime", "internal/sync.runtime_SemacquireMutex", "sync/atomic.AddInt32", "(*internal/sync.Mutex).Unlock", "internal/race.ReleaseMerge", "(*internal/sync.Mutex).unlockSlow", "internal/sync.fatal", "internal/sync.runtime_Semrelease", "sync/atomic.StoreUint32", "internal/abi.NoEscape"], unfollowed := true, recurses := true, named := ["internal/bytealg.MaxLen"], loops := true, apart := false }
def EncodeInsidesSaid : Prop := encodeInsidesRow.holds Tryz.pinned (OpenSpec.ofChange encodeInsidesSpec)

/-- ITS FALSE NEIGHBOUR: 'it returns false'. Refute it at one input. -/
def encodeInsidesWrong : ChangeSpec := { name := "encodeInsides", fn := fun _ => fun
  | [d1, d2, d3] => { results := [.lit (.bool false)], args := [d1, d2, d3] }
  | _ => none }
def EncodeInsidesWrongFalsely : Prop := encodeInsidesRow.holds Tryz.pinned (OpenSpec.ofChange encodeInsidesWrong)

/-- 'concourselaw17.EncodeApart': WHATEVER THE INPUT: true; the input reads as it did. -/
def encodeApartSpec : ChangeSpec := { name := "encodeApart", fn := fun _ => fun
  | [d1, d2, d3] => { results := [.lit (.bool true)], args := [d1, d2, d3] }
  | _ => none }
def encodeApartRow : OpenClaim := { program := "ytgmdpfoccnalnaagreat", sum := "395711d8a92f94750cf1205bb6a32f2d12cfc4c8fa2139a446ee36c2bf2ba500", func := "concourse/concourselaw17.EncodeApart", spec := "encodeApart", inPlace := ["internal/bytealg.IndexByteString", "internal/bytealg.IndexString", "sync/atomic.LoadUint32", "(*internal/sync.Mutex).Lock", "internal/race.Disable", "sync/atomic.CompareAndSwapInt32", "internal/race.Enable", "internal/race.Acquire", "(*internal/sync.Mutex).lockSlow", "internal/sync.runtime_canSpin", "internal/sync.runtime_doSpin", "internal/sync.throw", "internal/sync.runtime_nanotime", "internal/sync.runtime_SemacquireMutex", "sync/atomic.AddInt32", "(*internal/sync.Mutex).Unlock", "internal/race.ReleaseMerge", "(*internal/sync.Mutex).unlockSlow", "internal/sync.fatal", "internal/sync.runtime_Semrelease", "sync/atomic.StoreUint32", "internal/abi.NoEscape"], unfollowed := true, recurses := true, named := ["internal/bytealg.MaxLen"], loops := true, apart := false }
def EncodeApartSaid : Prop := encodeApartRow.holds Tryz.pinned (OpenSpec.ofChange encodeApartSpec)

/-- ITS FALSE NEIGHBOUR: 'it returns false'. Refute it at one input. -/
def encodeApartWrong : ChangeSpec := { name := "encodeApart", fn := fun _ => fun
  | [d1, d2, d3] => { results := [.lit (.bool false)], args := [d1, d2, d3] }
  | _ => none }
def EncodeApartWrongFalsely : Prop := encodeApartRow.holds Tryz.pinned (OpenSpec.ofChange encodeApartWrong)

/- THE SECOND FORM. 'bulk': how many values and letters a reading holds, each counted each time it is reached (what is shared counts as often as it is met; a slice's spare places count too). A statement '..UptoSaid' is the law's where the arguments, and the package variables that the reading takes, are together of bulk at most 1048576: NARROWER than '..Said'. Prove '..Said' where nothing that the law and all that it calls make is longer than what came in: it says more and counts as full. Else prove '..UptoSaid'. A law counts once. -/
mutual
def uptoBulk {H : Type} : DataW H → Nat
  | .lit (.string bytes) => bytes.length + 1
  | .lit _ => 1
  | .nil => 1
  | .ptr d => uptoBulk d + 1
  | .slice elems spare => uptoBulkAll elems + uptoBulkAll spare + 1
  | .agg parts => uptoBulkAll parts + 1
  | .iface _ d => uptoBulk d + 1
  | .map entries => uptoBulkEntries entries + 1
  | .held _ => 1
def uptoBulkAll {H : Type} : List (DataW H) → Nat
  | [] => 0
  | d :: r => uptoBulk d + uptoBulkAll r
def uptoBulkEntries {H : Type} : List (Lit × DataW H) → Nat
  | [] => 0
  | x :: r => uptoBulkEntry x + uptoBulkEntries r
def uptoBulkEntry {H : Type} : Lit × DataW H → Nat
  | (.string bytes, d) => bytes.length + uptoBulk d + 1
  | (_, d) => uptoBulk d + 1
 end
def uptoSmall : (H : Type) → List (DataW H) → Bool := fun _ ds => decide (uptoBulkAll ds ≤ 1048576)
def OpenSpec.upto (s : _root_.Go.ChangeSpec) : _root_.Go.OpenSpec := { _root_.Go.OpenSpec.ofChange s with cond := some uptoSmall }

/-- 'concourselaw46.BoundOf', WHERE WHAT IT READS IS OF BULK AT MOST 1048576: true; the input reads as it did. -/
def boundOfUptoRow : OpenClaim := { program := "ytgmdpfoccnalnaagreat", sum := "395711d8a92f94750cf1205bb6a32f2d12cfc4c8fa2139a446ee36c2bf2ba500", func := "concourse/concourselaw46.BoundOf", spec := "boundOf", unfollowed := true, recurses := true, apart := false, narrowed := true }
def BoundOfUptoSaid : Prop := boundOfUptoRow.holds Tryz.pinned (OpenSpec.upto boundOfSpec)

/-- 'concourselaw13.DescOwn', WHERE WHAT IT READS IS OF BULK AT MOST 1048576: true; the input reads as it did. -/
def descOwnUptoRow : OpenClaim := { program := "ytgmdpfoccnalnaagreat", sum := "395711d8a92f94750cf1205bb6a32f2d12cfc4c8fa2139a446ee36c2bf2ba500", func := "concourse/concourselaw13.DescOwn", spec := "descOwn", inPlace := ["internal/bytealg.IndexByteString", "internal/bytealg.IndexString", "sync/atomic.LoadUint32", "(*internal/sync.Mutex).Lock", "internal/race.Disable", "sync/atomic.CompareAndSwapInt32", "internal/race.Enable", "internal/race.Acquire", "(*internal/sync.Mutex).lockSlow", "internal/sync.runtime_canSpin", "internal/sync.runtime_doSpin", "internal/sync.throw", "internal/sync.runtime_nanotime", "internal/sync.runtime_SemacquireMutex", "sync/atomic.AddInt32", "(*internal/sync.Mutex).Unlock", "internal/race.ReleaseMerge", "(*internal/sync.Mutex).unlockSlow", "internal/sync.fatal", "internal/sync.runtime_Semrelease", "sync/atomic.StoreUint32"], unfollowed := true, recurses := true, named := ["internal/bytealg.MaxLen"], apart := false, narrowed := true }
def DescOwnUptoSaid : Prop := descOwnUptoRow.holds Tryz.pinned (OpenSpec.upto descOwnSpec)

/-- 'concourselaw19.BlankLeast', WHERE WHAT IT READS IS OF BULK AT MOST 1048576: true; the input reads as it did. -/
def blankLeastUptoRow : OpenClaim := { program := "ytgmdpfoccnalnaagreat", sum := "395711d8a92f94750cf1205bb6a32f2d12cfc4c8fa2139a446ee36c2bf2ba500", func := "concourse/concourselaw19.BlankLeast", spec := "blankLeast", inPlace := ["internal/bytealg.IndexByteString", "internal/bytealg.IndexString", "sync/atomic.LoadUint32", "(*internal/sync.Mutex).Lock", "internal/race.Disable", "sync/atomic.CompareAndSwapInt32", "internal/race.Enable", "internal/race.Acquire", "(*internal/sync.Mutex).lockSlow", "internal/sync.runtime_canSpin", "internal/sync.runtime_doSpin", "internal/sync.throw", "internal/sync.runtime_nanotime", "internal/sync.runtime_SemacquireMutex", "sync/atomic.AddInt32", "(*internal/sync.Mutex).Unlock", "internal/race.ReleaseMerge", "(*internal/sync.Mutex).unlockSlow", "internal/sync.fatal", "internal/sync.runtime_Semrelease", "sync/atomic.StoreUint32"], unfollowed := true, recurses := true, named := ["internal/bytealg.MaxLen"], loops := true, apart := false, narrowed := true }
def BlankLeastUptoSaid : Prop := blankLeastUptoRow.holds Tryz.pinned (OpenSpec.upto blankLeastSpec)

/-- 'concourselaw16.FitKeeps', WHERE WHAT IT READS IS OF BULK AT MOST 1048576: true; the input reads as it did. -/
def fitKeepsUptoRow : OpenClaim := { program := "ytgmdpfoccnalnaagreat", sum := "395711d8a92f94750cf1205bb6a32f2d12cfc4c8fa2139a446ee36c2bf2ba500", func := "concourse/concourselaw16.FitKeeps", spec := "fitKeeps", inPlace := ["sync/atomic.LoadUint32", "(*internal/sync.Mutex).Lock", "internal/race.Disable", "sync/atomic.CompareAndSwapInt32", "internal/race.Enable", "internal/race.Acquire", "(*internal/sync.Mutex).lockSlow", "internal/sync.runtime_canSpin", "internal/sync.runtime_doSpin", "internal/sync.throw", "internal/sync.runtime_nanotime", "internal/sync.runtime_SemacquireMutex", "sync/atomic.AddInt32", "(*internal/sync.Mutex).Unlock", "internal/race.ReleaseMerge", "(*internal/sync.Mutex).unlockSlow", "internal/sync.fatal", "internal/sync.runtime_Semrelease", "sync/atomic.StoreUint32"], unfollowed := true, recurses := true, loops := true, apart := false, narrowed := true }
def FitKeepsUptoSaid : Prop := fitKeepsUptoRow.holds Tryz.pinned (OpenSpec.upto fitKeepsSpec)

/-- 'concourselaw30.OpsGives', WHERE WHAT IT READS IS OF BULK AT MOST 1048576: true; the input reads as it did. -/
def opsGivesUptoRow : OpenClaim := { program := "ytgmdpfoccnalnaagreat", sum := "395711d8a92f94750cf1205bb6a32f2d12cfc4c8fa2139a446ee36c2bf2ba500", func := "concourse/concourselaw30.OpsGives", spec := "opsGives", inPlace := ["sync/atomic.LoadUint32", "(*internal/sync.Mutex).Lock", "internal/race.Disable", "sync/atomic.CompareAndSwapInt32", "internal/race.Enable", "internal/race.Acquire", "(*internal/sync.Mutex).lockSlow", "internal/sync.runtime_canSpin", "internal/sync.runtime_doSpin", "internal/sync.throw", "internal/sync.runtime_nanotime", "internal/sync.runtime_SemacquireMutex", "sync/atomic.AddInt32", "(*internal/sync.Mutex).Unlock", "internal/race.ReleaseMerge", "(*internal/sync.Mutex).unlockSlow", "internal/sync.fatal", "internal/sync.runtime_Semrelease", "sync/atomic.StoreUint32"], unfollowed := true, recurses := true, loops := true, apart := false, narrowed := true }
def OpsGivesUptoSaid : Prop := opsGivesUptoRow.holds Tryz.pinned (OpenSpec.upto opsGivesSpec)

/-- 'concourselaw14.CompatTypes', WHERE WHAT IT READS IS OF BULK AT MOST 1048576: true; the input reads as it did. -/
def compatTypesUptoRow : OpenClaim := { program := "ytgmdpfoccnalnaagreat", sum := "395711d8a92f94750cf1205bb6a32f2d12cfc4c8fa2139a446ee36c2bf2ba500", func := "concourse/concourselaw14.CompatTypes", spec := "compatTypes", inPlace := ["internal/bytealg.IndexByteString", "internal/bytealg.IndexString", "sync/atomic.LoadUint32", "(*internal/sync.Mutex).Lock", "internal/race.Disable", "sync/atomic.CompareAndSwapInt32", "internal/race.Enable", "internal/race.Acquire", "(*internal/sync.Mutex).lockSlow", "internal/sync.runtime_canSpin", "internal/sync.runtime_doSpin", "internal/sync.throw", "internal/sync.runtime_nanotime", "internal/sync.runtime_SemacquireMutex", "sync/atomic.AddInt32", "(*internal/sync.Mutex).Unlock", "internal/race.ReleaseMerge", "(*internal/sync.Mutex).unlockSlow", "internal/sync.fatal", "internal/sync.runtime_Semrelease", "sync/atomic.StoreUint32"], unfollowed := true, recurses := true, named := ["internal/bytealg.MaxLen"], loops := true, apart := false, narrowed := true }
def CompatTypesUptoSaid : Prop := compatTypesUptoRow.holds Tryz.pinned (OpenSpec.upto compatTypesSpec)

/-- 'concourselaw19.BlankStructs', WHERE WHAT IT READS IS OF BULK AT MOST 1048576: true; the input reads as it did. -/
def blankStructsUptoRow : OpenClaim := { program := "ytgmdpfoccnalnaagreat", sum := "395711d8a92f94750cf1205bb6a32f2d12cfc4c8fa2139a446ee36c2bf2ba500", func := "concourse/concourselaw19.BlankStructs", spec := "blankStructs", inPlace := ["internal/bytealg.IndexByteString", "internal/bytealg.IndexString", "sync/atomic.LoadUint32", "(*internal/sync.Mutex).Lock", "internal/race.Disable", "sync/atomic.CompareAndSwapInt32", "internal/race.Enable", "internal/race.Acquire", "(*internal/sync.Mutex).lockSlow", "internal/sync.runtime_canSpin", "internal/sync.runtime_doSpin", "internal/sync.throw", "internal/sync.runtime_nanotime", "internal/sync.runtime_SemacquireMutex", "sync/atomic.AddInt32", "(*internal/sync.Mutex).Unlock", "internal/race.ReleaseMerge", "(*internal/sync.Mutex).unlockSlow", "internal/sync.fatal", "internal/sync.runtime_Semrelease", "sync/atomic.StoreUint32"], unfollowed := true, recurses := true, named := ["internal/bytealg.MaxLen"], loops := true, apart := false, narrowed := true }
def BlankStructsUptoSaid : Prop := blankStructsUptoRow.holds Tryz.pinned (OpenSpec.upto blankStructsSpec)

/-- 'concourselaw17.EncodeInsides', WHERE WHAT IT READS IS OF BULK AT MOST 1048576: true; the input reads as it did. -/
def encodeInsidesUptoRow : OpenClaim := { program := "ytgmdpfoccnalnaagreat", sum := "395711d8a92f94750cf1205bb6a32f2d12cfc4c8fa2139a446ee36c2bf2ba500", func := "concourse/concourselaw17.EncodeInsides", spec := "encodeInsides", inPlace := ["internal/bytealg.IndexByteString", "internal/bytealg.IndexString", "sync/atomic.LoadUint32", "(*internal/sync.Mutex).Lock", "internal/race.Disable", "sync/atomic.CompareAndSwapInt32", "internal/race.Enable", "internal/race.Acquire", "(*internal/sync.Mutex).lockSlow", "internal/sync.runtime_canSpin", "internal/sync.runtime_doSpin", "internal/sync.throw", "internal/sync.runtime_nanotime", "internal/sync.runtime_SemacquireMutex", "sync/atomic.AddInt32", "(*internal/sync.Mutex).Unlock", "internal/race.ReleaseMerge", "(*internal/sync.Mutex).unlockSlow", "internal/sync.fatal", "internal/sync.runtime_Semrelease", "sync/atomic.StoreUint32", "internal/abi.NoEscape"], unfollowed := true, recurses := true, named := ["internal/bytealg.MaxLen"], loops := true, apart := false, narrowed := true }
def EncodeInsidesUptoSaid : Prop := encodeInsidesUptoRow.holds Tryz.pinned (OpenSpec.upto encodeInsidesSpec)

/-- 'concourselaw17.EncodeApart', WHERE WHAT IT READS IS OF BULK AT MOST 1048576: true; the input reads as it did. -/
def encodeApartUptoRow : OpenClaim := { program := "ytgmdpfoccnalnaagreat", sum := "395711d8a92f94750cf1205bb6a32f2d12cfc4c8fa2139a446ee36c2bf2ba500", func := "concourse/concourselaw17.EncodeApart", spec := "encodeApart", inPlace := ["internal/bytealg.IndexByteString", "internal/bytealg.IndexString", "sync/atomic.LoadUint32", "(*internal/sync.Mutex).Lock", "internal/race.Disable", "sync/atomic.CompareAndSwapInt32", "internal/race.Enable", "internal/race.Acquire", "(*internal/sync.Mutex).lockSlow", "internal/sync.runtime_canSpin", "internal/sync.runtime_doSpin", "internal/sync.throw", "internal/sync.runtime_nanotime", "internal/sync.runtime_SemacquireMutex", "sync/atomic.AddInt32", "(*internal/sync.Mutex).Unlock", "internal/race.ReleaseMerge", "(*internal/sync.Mutex).unlockSlow", "internal/sync.fatal", "internal/sync.runtime_Semrelease", "sync/atomic.StoreUint32", "internal/abi.NoEscape"], unfollowed := true, recurses := true, named := ["internal/bytealg.MaxLen"], loops := true, apart := false, narrowed := true }
def EncodeApartUptoSaid : Prop := encodeApartUptoRow.holds Tryz.pinned (OpenSpec.upto encodeApartSpec)

end Rows
end Go.Proofs.YtgmdpfoccnalnaaGreat
