/-
  NARROWER THAN 'FOR EVERY INPUT', by the rows' own cells (each row's printed sentence says how): UtfBad: laid · UtfNames: laid · UtfTogether: laid · PadUnpads: laid · PadBack: laid · ReplyHides: laid · ReplyTakes: laid · ReplyBack: laid.
  DERIVED. THE GIVEN ROWS OF THIS SEAT. 8 by the template 'for every input the law returns true; each argument reads behind the call as it read before'; 0 by the template 'total and deterministic' (their statements: YtgdlhcaidfokkaaDoorTotals.lean).
  GIVEN WITH THE SEED: the statements are not yours to turn. If you find one false, say at which input.
  Laid BY PROGRAM, IN A SANDBOX (cutbox-rows.mjs): the forced cells as the released guide's own fill.sh prints them over the translation 66ec8a5a157c450e… (all of the seat's roots in one cut). By AI agents, Wed Nov 11 2026. No macro, syntax, notation, axiom, sorry.
-/
import Derived.Test.YtgdlhcaidfokkaaDoorChecked
import GoSem.PinnedTables
import GoSem.Claim
import GoSem.ClaimJoined
import GoSem.ClaimMapViews
import Derived.JoinedTies
import Derived.KernelRfl
namespace Go.Proofs.YtgdlhcaidfokkaaDoor
/- THE CELL 'sum', in the pinned program and in every row, IS THE sha256 OF THE DUMP (.gsa) THAT YtgdlhcaidfokkaaDoorProg.lean LOADS. Nothing in Lean hashes anything: it is a label: what it is worth is what the hold of that sum in a sandbox is worth. -/
noncomputable def Tryd.pinned : Pinned := { name := "ytgdlhcaidfokkaadoor", sum := "66ec8a5a157c450e18d1eec13d99e7c3962816221227ca84f10ee64da02485e0", checked := Tryd.checked }
namespace Rows
def none {H : Type} : Left H := { results := [], args := [] }

/- WHAT THE LISTED PACKAGE-LEVEL VARIABLES READ AS WHEN THE CALL BEGINS. Each datum BY PROGRAM (the guide's laid-datum.mjs) off the statement by which the dump's own 'gosem.cut.vars' lays the variable. In a bare row this is a premise. The card (YtgdlhcaidfokkaaDoorCards.lean) ties it to the program's text. -/
def laid_unicode_utf8_acceptRanges {H : Type} : DataW H := .agg [.agg [.lit (.int .u8 128), .lit (.int .u8 191)], .agg [.lit (.int .u8 160), .lit (.int .u8 191)], .agg [.lit (.int .u8 128), .lit (.int .u8 159)], .agg [.lit (.int .u8 144), .lit (.int .u8 191)], .agg [.lit (.int .u8 128), .lit (.int .u8 143)], .agg [.lit (.int .u8 0), .lit (.int .u8 0)], .agg [.lit (.int .u8 0), .lit (.int .u8 0)], .agg [.lit (.int .u8 0), .lit (.int .u8 0)], .agg [.lit (.int .u8 0), .lit (.int .u8 0)], .agg [.lit (.int .u8 0), .lit (.int .u8 0)], .agg [.lit (.int .u8 0), .lit (.int .u8 0)], .agg [.lit (.int .u8 0), .lit (.int .u8 0)], .agg [.lit (.int .u8 0), .lit (.int .u8 0)], .agg [.lit (.int .u8 0), .lit (.int .u8 0)], .agg [.lit (.int .u8 0), .lit (.int .u8 0)], .agg [.lit (.int .u8 0), .lit (.int .u8 0)]]
/-- One of Go's own tables, pinned by name: the form's constant. -/
def laid_unicode_utf8_first : DataW Unit := Go.Pinned.utf8First

/-- 'concourselaw03.UtfBad': WHATEVER THE INPUT: true; the input reads as it did. -/
def utfBadSpec : ChangeSpec := { name := "utfBad", fn := fun _ => fun
  | [d] => { results := [.lit (.bool true)], args := [d] }
  | _ => none }
def utfBadRow : OpenClaim := { program := "ytgdlhcaidfokkaadoor", sum := "66ec8a5a157c450e18d1eec13d99e7c3962816221227ca84f10ee64da02485e0", func := "concourse/concourselaw03.UtfBad", spec := "utfBad", named := ["unicode/utf8.first", "unicode/utf8.acceptRanges"], apart := false, laid := [("unicode/utf8.acceptRanges", laid_unicode_utf8_acceptRanges), ("unicode/utf8.first", laid_unicode_utf8_first)] }
def UtfBadSaid : Prop := utfBadRow.holds Tryd.pinned (OpenSpec.ofChange utfBadSpec)

/-- ITS FALSE NEIGHBOUR: 'it returns false'. Refute it at one input. -/
def utfBadWrong : ChangeSpec := { name := "utfBad", fn := fun _ => fun
  | [d] => { results := [.lit (.bool false)], args := [d] }
  | _ => none }
def UtfBadWrongFalsely : Prop := utfBadRow.holds Tryd.pinned (OpenSpec.ofChange utfBadWrong)

/-- 'concourselaw03.UtfNames': WHATEVER THE INPUT: true; the input reads as it did. -/
def utfNamesSpec : ChangeSpec := { name := "utfNames", fn := fun _ => fun
  | [d] => { results := [.lit (.bool true)], args := [d] }
  | _ => none }
def utfNamesRow : OpenClaim := { program := "ytgdlhcaidfokkaadoor", sum := "66ec8a5a157c450e18d1eec13d99e7c3962816221227ca84f10ee64da02485e0", func := "concourse/concourselaw03.UtfNames", spec := "utfNames", named := ["unicode/utf8.first", "unicode/utf8.acceptRanges"], apart := false, laid := [("unicode/utf8.acceptRanges", laid_unicode_utf8_acceptRanges), ("unicode/utf8.first", laid_unicode_utf8_first)] }
def UtfNamesSaid : Prop := utfNamesRow.holds Tryd.pinned (OpenSpec.ofChange utfNamesSpec)

/-- ITS FALSE NEIGHBOUR: 'it returns false'. Refute it at one input. -/
def utfNamesWrong : ChangeSpec := { name := "utfNames", fn := fun _ => fun
  | [d] => { results := [.lit (.bool false)], args := [d] }
  | _ => none }
def UtfNamesWrongFalsely : Prop := utfNamesRow.holds Tryd.pinned (OpenSpec.ofChange utfNamesWrong)

/-- 'concourselaw03.UtfTogether': WHATEVER THE INPUT: true; the input reads as it did. -/
def utfTogetherSpec : ChangeSpec := { name := "utfTogether", fn := fun _ => fun
  | [d1, d2] => { results := [.lit (.bool true)], args := [d1, d2] }
  | _ => none }
def utfTogetherRow : OpenClaim := { program := "ytgdlhcaidfokkaadoor", sum := "66ec8a5a157c450e18d1eec13d99e7c3962816221227ca84f10ee64da02485e0", func := "concourse/concourselaw03.UtfTogether", spec := "utfTogether", named := ["unicode/utf8.first", "unicode/utf8.acceptRanges"], apart := false, laid := [("unicode/utf8.acceptRanges", laid_unicode_utf8_acceptRanges), ("unicode/utf8.first", laid_unicode_utf8_first)] }
def UtfTogetherSaid : Prop := utfTogetherRow.holds Tryd.pinned (OpenSpec.ofChange utfTogetherSpec)

/-- ITS FALSE NEIGHBOUR: 'it returns false'. Refute it at one input. -/
def utfTogetherWrong : ChangeSpec := { name := "utfTogether", fn := fun _ => fun
  | [d1, d2] => { results := [.lit (.bool false)], args := [d1, d2] }
  | _ => none }
def UtfTogetherWrongFalsely : Prop := utfTogetherRow.holds Tryd.pinned (OpenSpec.ofChange utfTogetherWrong)

/-- 'concourselaw07.PadUnpads': WHATEVER THE INPUT: true; the input reads as it did. -/
def padUnpadsSpec : ChangeSpec := { name := "padUnpads", fn := fun _ => fun
  | [d] => { results := [.lit (.bool true)], args := [d] }
  | _ => none }
def padUnpadsRow : OpenClaim := { program := "ytgdlhcaidfokkaadoor", sum := "66ec8a5a157c450e18d1eec13d99e7c3962816221227ca84f10ee64da02485e0", func := "concourse/concourselaw07.PadUnpads", spec := "padUnpads", inPlace := ["internal/abi.NoEscape", "internal/bytealg.MakeNoZero", "internal/bytealg.IndexByteString", "internal/bytealg.IndexString"], named := ["unicode/utf8.first", "unicode/utf8.acceptRanges", "internal/bytealg.MaxLen"], apart := false, laid := [("unicode/utf8.acceptRanges", laid_unicode_utf8_acceptRanges), ("unicode/utf8.first", laid_unicode_utf8_first)] }
def PadUnpadsSaid : Prop := padUnpadsRow.holds Tryd.pinned (OpenSpec.ofChange padUnpadsSpec)

/-- ITS FALSE NEIGHBOUR: 'it returns false'. Refute it at one input. -/
def padUnpadsWrong : ChangeSpec := { name := "padUnpads", fn := fun _ => fun
  | [d] => { results := [.lit (.bool false)], args := [d] }
  | _ => none }
def PadUnpadsWrongFalsely : Prop := padUnpadsRow.holds Tryd.pinned (OpenSpec.ofChange padUnpadsWrong)

/-- 'concourselaw07.PadBack': WHATEVER THE INPUT: true; the input reads as it did. -/
def padBackSpec : ChangeSpec := { name := "padBack", fn := fun _ => fun
  | [d1, d2] => { results := [.lit (.bool true)], args := [d1, d2] }
  | _ => none }
def padBackRow : OpenClaim := { program := "ytgdlhcaidfokkaadoor", sum := "66ec8a5a157c450e18d1eec13d99e7c3962816221227ca84f10ee64da02485e0", func := "concourse/concourselaw07.PadBack", spec := "padBack", inPlace := ["internal/abi.NoEscape", "internal/bytealg.MakeNoZero", "internal/bytealg.IndexByteString", "internal/bytealg.IndexString"], named := ["unicode/utf8.first", "unicode/utf8.acceptRanges", "internal/bytealg.MaxLen"], apart := false, laid := [("unicode/utf8.acceptRanges", laid_unicode_utf8_acceptRanges), ("unicode/utf8.first", laid_unicode_utf8_first)] }
def PadBackSaid : Prop := padBackRow.holds Tryd.pinned (OpenSpec.ofChange padBackSpec)

/-- ITS FALSE NEIGHBOUR: 'it returns false'. Refute it at one input. -/
def padBackWrong : ChangeSpec := { name := "padBack", fn := fun _ => fun
  | [d1, d2] => { results := [.lit (.bool false)], args := [d1, d2] }
  | _ => none }
def PadBackWrongFalsely : Prop := padBackRow.holds Tryd.pinned (OpenSpec.ofChange padBackWrong)

/-- 'concourselaw35.ReplyHides': WHATEVER THE INPUT: true; the input reads as it did. -/
def replyHidesSpec : ChangeSpec := { name := "replyHides", fn := fun _ => fun
  | [d1, d2] => { results := [.lit (.bool true)], args := [d1, d2] }
  | _ => none }
def replyHidesRow : OpenClaim := { program := "ytgdlhcaidfokkaadoor", sum := "66ec8a5a157c450e18d1eec13d99e7c3962816221227ca84f10ee64da02485e0", func := "concourse/concourselaw35.ReplyHides", spec := "replyHides", inPlace := ["internal/abi.NoEscape", "internal/bytealg.MakeNoZero", "internal/bytealg.IndexByteString", "internal/bytealg.IndexString"], named := ["unicode/utf8.first", "unicode/utf8.acceptRanges", "internal/bytealg.MaxLen"], apart := false, laid := [("unicode/utf8.acceptRanges", laid_unicode_utf8_acceptRanges), ("unicode/utf8.first", laid_unicode_utf8_first)] }
def ReplyHidesSaid : Prop := replyHidesRow.holds Tryd.pinned (OpenSpec.ofChange replyHidesSpec)

/-- ITS FALSE NEIGHBOUR: 'it returns false'. Refute it at one input. -/
def replyHidesWrong : ChangeSpec := { name := "replyHides", fn := fun _ => fun
  | [d1, d2] => { results := [.lit (.bool false)], args := [d1, d2] }
  | _ => none }
def ReplyHidesWrongFalsely : Prop := replyHidesRow.holds Tryd.pinned (OpenSpec.ofChange replyHidesWrong)

/-- 'concourselaw35.ReplyTakes': WHATEVER THE INPUT: true; the input reads as it did. -/
def replyTakesSpec : ChangeSpec := { name := "replyTakes", fn := fun _ => fun
  | [d] => { results := [.lit (.bool true)], args := [d] }
  | _ => none }
def replyTakesRow : OpenClaim := { program := "ytgdlhcaidfokkaadoor", sum := "66ec8a5a157c450e18d1eec13d99e7c3962816221227ca84f10ee64da02485e0", func := "concourse/concourselaw35.ReplyTakes", spec := "replyTakes", inPlace := ["internal/bytealg.IndexByteString", "internal/bytealg.IndexString", "internal/abi.NoEscape", "internal/bytealg.MakeNoZero"], unfollowed := true, recurses := true, named := ["unicode/utf8.first", "unicode/utf8.acceptRanges", "internal/bytealg.MaxLen"], apart := false, laid := [("unicode/utf8.acceptRanges", laid_unicode_utf8_acceptRanges), ("unicode/utf8.first", laid_unicode_utf8_first)] }
def ReplyTakesSaid : Prop := replyTakesRow.holds Tryd.pinned (OpenSpec.ofChange replyTakesSpec)

/-- ITS FALSE NEIGHBOUR: 'it returns false'. Refute it at one input. -/
def replyTakesWrong : ChangeSpec := { name := "replyTakes", fn := fun _ => fun
  | [d] => { results := [.lit (.bool false)], args := [d] }
  | _ => none }
def ReplyTakesWrongFalsely : Prop := replyTakesRow.holds Tryd.pinned (OpenSpec.ofChange replyTakesWrong)

/-- 'concourselaw35.ReplyBack': WHATEVER THE INPUT: true; the input reads as it did. -/
def replyBackSpec : ChangeSpec := { name := "replyBack", fn := fun _ => fun
  | [d1, d2] => { results := [.lit (.bool true)], args := [d1, d2] }
  | _ => none }
def replyBackRow : OpenClaim := { program := "ytgdlhcaidfokkaadoor", sum := "66ec8a5a157c450e18d1eec13d99e7c3962816221227ca84f10ee64da02485e0", func := "concourse/concourselaw35.ReplyBack", spec := "replyBack", inPlace := ["internal/abi.NoEscape", "internal/bytealg.MakeNoZero", "internal/bytealg.IndexByteString", "internal/bytealg.IndexString"], unfollowed := true, recurses := true, named := ["unicode/utf8.first", "unicode/utf8.acceptRanges", "internal/bytealg.MaxLen"], apart := false, laid := [("unicode/utf8.acceptRanges", laid_unicode_utf8_acceptRanges), ("unicode/utf8.first", laid_unicode_utf8_first)] }
def ReplyBackSaid : Prop := replyBackRow.holds Tryd.pinned (OpenSpec.ofChange replyBackSpec)

/-- ITS FALSE NEIGHBOUR: 'it returns false'. Refute it at one input. -/
def replyBackWrong : ChangeSpec := { name := "replyBack", fn := fun _ => fun
  | [d1, d2] => { results := [.lit (.bool false)], args := [d1, d2] }
  | _ => none }
def ReplyBackWrongFalsely : Prop := replyBackRow.holds Tryd.pinned (OpenSpec.ofChange replyBackWrong)

/- THE SECOND FORM. 'bulk': how many values and letters a reading holds, each counted each time it is reached (what is shared counts as often as it is met; a slice's spare places count too). A statement '..UptoSaid' is the law's where the arguments, and the package variables that the reading takes, are together of bulk at most 1048576: NARROWER than '..Said'. Prove '..Said' where nothing that the law and all that it calls make is longer than what came in: it says more and counts as full. Else prove '..UptoSaid'. A law counts once. -/
mutual
def uptoBulk {H : Type} : DataW H → Nat
  | .lit (.string bytes) => bytes.length + 1
  | .lit _ => 1
  | .nil => 1
  | .ptr d => uptoBulk d + 1
  | .slice elems spare => uptoBulkAll elems + uptoBulkAll spare + 1
  | .agg parts => uptoBulkAll parts + 1
  | .iface _ d => uptoBulk d + 1
  | .map entries => uptoBulkEntries entries + 1
  | .held _ => 1
def uptoBulkAll {H : Type} : List (DataW H) → Nat
  | [] => 0
  | d :: r => uptoBulk d + uptoBulkAll r
def uptoBulkEntries {H : Type} : List (Lit × DataW H) → Nat
  | [] => 0
  | x :: r => uptoBulkEntry x + uptoBulkEntries r
def uptoBulkEntry {H : Type} : Lit × DataW H → Nat
  | (.string bytes, d) => bytes.length + uptoBulk d + 1
  | (_, d) => uptoBulk d + 1
 end
def uptoSmall : (H : Type) → List (DataW H) → Bool := fun _ ds => decide (uptoBulkAll ds ≤ 1048576)
def OpenSpec.upto (s : _root_.Go.ChangeSpec) : _root_.Go.OpenSpec := { _root_.Go.OpenSpec.ofChange s with cond := some uptoSmall }

/-- 'concourselaw03.UtfBad', WHERE WHAT IT READS IS OF BULK AT MOST 1048576: true; the input reads as it did. -/
def utfBadUptoRow : OpenClaim := { program := "ytgdlhcaidfokkaadoor", sum := "66ec8a5a157c450e18d1eec13d99e7c3962816221227ca84f10ee64da02485e0", func := "concourse/concourselaw03.UtfBad", spec := "utfBad", named := ["unicode/utf8.first", "unicode/utf8.acceptRanges"], apart := false, laid := [("unicode/utf8.acceptRanges", laid_unicode_utf8_acceptRanges), ("unicode/utf8.first", laid_unicode_utf8_first)], narrowed := true }
def UtfBadUptoSaid : Prop := utfBadUptoRow.holds Tryd.pinned (OpenSpec.upto utfBadSpec)

/-- 'concourselaw03.UtfNames', WHERE WHAT IT READS IS OF BULK AT MOST 1048576: true; the input reads as it did. -/
def utfNamesUptoRow : OpenClaim := { program := "ytgdlhcaidfokkaadoor", sum := "66ec8a5a157c450e18d1eec13d99e7c3962816221227ca84f10ee64da02485e0", func := "concourse/concourselaw03.UtfNames", spec := "utfNames", named := ["unicode/utf8.first", "unicode/utf8.acceptRanges"], apart := false, laid := [("unicode/utf8.acceptRanges", laid_unicode_utf8_acceptRanges), ("unicode/utf8.first", laid_unicode_utf8_first)], narrowed := true }
def UtfNamesUptoSaid : Prop := utfNamesUptoRow.holds Tryd.pinned (OpenSpec.upto utfNamesSpec)

/-- 'concourselaw03.UtfTogether', WHERE WHAT IT READS IS OF BULK AT MOST 1048576: true; the input reads as it did. -/
def utfTogetherUptoRow : OpenClaim := { program := "ytgdlhcaidfokkaadoor", sum := "66ec8a5a157c450e18d1eec13d99e7c3962816221227ca84f10ee64da02485e0", func := "concourse/concourselaw03.UtfTogether", spec := "utfTogether", named := ["unicode/utf8.first", "unicode/utf8.acceptRanges"], apart := false, laid := [("unicode/utf8.acceptRanges", laid_unicode_utf8_acceptRanges), ("unicode/utf8.first", laid_unicode_utf8_first)], narrowed := true }
def UtfTogetherUptoSaid : Prop := utfTogetherUptoRow.holds Tryd.pinned (OpenSpec.upto utfTogetherSpec)

/-- 'concourselaw07.PadUnpads', WHERE WHAT IT READS IS OF BULK AT MOST 1048576: true; the input reads as it did. -/
def padUnpadsUptoRow : OpenClaim := { program := "ytgdlhcaidfokkaadoor", sum := "66ec8a5a157c450e18d1eec13d99e7c3962816221227ca84f10ee64da02485e0", func := "concourse/concourselaw07.PadUnpads", spec := "padUnpads", inPlace := ["internal/abi.NoEscape", "internal/bytealg.MakeNoZero", "internal/bytealg.IndexByteString", "internal/bytealg.IndexString"], named := ["unicode/utf8.first", "unicode/utf8.acceptRanges", "internal/bytealg.MaxLen"], apart := false, laid := [("unicode/utf8.acceptRanges", laid_unicode_utf8_acceptRanges), ("unicode/utf8.first", laid_unicode_utf8_first)], narrowed := true }
def PadUnpadsUptoSaid : Prop := padUnpadsUptoRow.holds Tryd.pinned (OpenSpec.upto padUnpadsSpec)

/-- 'concourselaw07.PadBack', WHERE WHAT IT READS IS OF BULK AT MOST 1048576: true; the input reads as it did. -/
def padBackUptoRow : OpenClaim := { program := "ytgdlhcaidfokkaadoor", sum := "66ec8a5a157c450e18d1eec13d99e7c3962816221227ca84f10ee64da02485e0", func := "concourse/concourselaw07.PadBack", spec := "padBack", inPlace := ["internal/abi.NoEscape", "internal/bytealg.MakeNoZero", "internal/bytealg.IndexByteString", "internal/bytealg.IndexString"], named := ["unicode/utf8.first", "unicode/utf8.acceptRanges", "internal/bytealg.MaxLen"], apart := false, laid := [("unicode/utf8.acceptRanges", laid_unicode_utf8_acceptRanges), ("unicode/utf8.first", laid_unicode_utf8_first)], narrowed := true }
def PadBackUptoSaid : Prop := padBackUptoRow.holds Tryd.pinned (OpenSpec.upto padBackSpec)

/-- 'concourselaw35.ReplyHides', WHERE WHAT IT READS IS OF BULK AT MOST 1048576: true; the input reads as it did. -/
def replyHidesUptoRow : OpenClaim := { program := "ytgdlhcaidfokkaadoor", sum := "66ec8a5a157c450e18d1eec13d99e7c3962816221227ca84f10ee64da02485e0", func := "concourse/concourselaw35.ReplyHides", spec := "replyHides", inPlace := ["internal/abi.NoEscape", "internal/bytealg.MakeNoZero", "internal/bytealg.IndexByteString", "internal/bytealg.IndexString"], named := ["unicode/utf8.first", "unicode/utf8.acceptRanges", "internal/bytealg.MaxLen"], apart := false, laid := [("unicode/utf8.acceptRanges", laid_unicode_utf8_acceptRanges), ("unicode/utf8.first", laid_unicode_utf8_first)], narrowed := true }
def ReplyHidesUptoSaid : Prop := replyHidesUptoRow.holds Tryd.pinned (OpenSpec.upto replyHidesSpec)

/-- 'concourselaw35.ReplyTakes', WHERE WHAT IT READS IS OF BULK AT MOST 1048576: true; the input reads as it did. -/
def replyTakesUptoRow : OpenClaim := { program := "ytgdlhcaidfokkaadoor", sum := "66ec8a5a157c450e18d1eec13d99e7c3962816221227ca84f10ee64da02485e0", func := "concourse/concourselaw35.ReplyTakes", spec := "replyTakes", inPlace := ["internal/bytealg.IndexByteString", "internal/bytealg.IndexString", "internal/abi.NoEscape", "internal/bytealg.MakeNoZero"], unfollowed := true, recurses := true, named := ["unicode/utf8.first", "unicode/utf8.acceptRanges", "internal/bytealg.MaxLen"], apart := false, laid := [("unicode/utf8.acceptRanges", laid_unicode_utf8_acceptRanges), ("unicode/utf8.first", laid_unicode_utf8_first)], narrowed := true }
def ReplyTakesUptoSaid : Prop := replyTakesUptoRow.holds Tryd.pinned (OpenSpec.upto replyTakesSpec)

/-- 'concourselaw35.ReplyBack', WHERE WHAT IT READS IS OF BULK AT MOST 1048576: true; the input reads as it did. -/
def replyBackUptoRow : OpenClaim := { program := "ytgdlhcaidfokkaadoor", sum := "66ec8a5a157c450e18d1eec13d99e7c3962816221227ca84f10ee64da02485e0", func := "concourse/concourselaw35.ReplyBack", spec := "replyBack", inPlace := ["internal/abi.NoEscape", "internal/bytealg.MakeNoZero", "internal/bytealg.IndexByteString", "internal/bytealg.IndexString"], unfollowed := true, recurses := true, named := ["unicode/utf8.first", "unicode/utf8.acceptRanges", "internal/bytealg.MaxLen"], apart := false, laid := [("unicode/utf8.acceptRanges", laid_unicode_utf8_acceptRanges), ("unicode/utf8.first", laid_unicode_utf8_first)], narrowed := true }
def ReplyBackUptoSaid : Prop := replyBackUptoRow.holds Tryd.pinned (OpenSpec.upto replyBackSpec)

end Rows
end Go.Proofs.YtgdlhcaidfokkaaDoor
