/-
  NARROWER THAN 'FOR EVERY INPUT', by the rows' own cells (each row's printed sentence says how): MergeMatchesReference: laid · MergeErrors: laid · MergeContents: laid · MergeConflicts: laid · MergeExchanged: laid · MergeAgain: laid · MergeKeepsOrder: laid · MergeOwns: laid · MergeOneSide: laid.
  DERIVED. THE GIVEN ROWS OF THIS SEAT. 9 by the template 'for every input the law returns true; each argument reads behind the call as it read before'; 0 by the template 'total and deterministic' (their statements: YtikpbknafhnieaaGreatDoorTotals.lean).
  GIVEN WITH THE SEED: the statements are not yours to turn. If you find one false, say at which input.
  Laid BY PROGRAM, IN A SANDBOX (cutbox-rows.mjs): the forced cells as the released guide's own fill.sh prints them over the translation a2c5bfe2b2eb606e… (all of the seat's roots in one cut). By AI agents, Wed Nov 11 2026. No macro, syntax, notation, axiom, sorry.
-/
import Derived.Test.YtikpbknafhnieaaGreatDoorChecked
import GoSem.PinnedTables
import GoSem.Claim
import GoSem.ClaimJoined
import GoSem.ClaimMapViews
import Derived.JoinedTies
import Derived.KernelRfl
namespace Go.Proofs.YtikpbknafhnieaaGreatDoor
/- THE CELL 'sum', in the pinned program and in every row, IS THE sha256 OF THE DUMP (.gsa) THAT YtikpbknafhnieaaGreatDoorProg.lean LOADS. Nothing in Lean hashes anything: it is a label: what it is worth is what the hold of that sum in a sandbox is worth. -/
noncomputable def Tryz.pinned : Pinned := { name := "ytikpbknafhnieaagreatdoor", sum := "a2c5bfe2b2eb606e02d26de9ec1331ae3c1044c7381e57514c1e5ad391e3774a", checked := Tryz.checked }
namespace Rows
def none {H : Type} : Left H := { results := [], args := [] }

/- WHAT THE LISTED PACKAGE-LEVEL VARIABLES READ AS WHEN THE CALL BEGINS. Each datum BY PROGRAM (the guide's laid-datum.mjs) off the statement by which the dump's own 'gosem.cut.vars' lays the variable. In a bare row this is a premise. The card (YtikpbknafhnieaaGreatDoorCards.lean) ties it to the program's text. -/
def laid_unicode_utf8_acceptRanges {H : Type} : DataW H := .agg [.agg [.lit (.int .u8 128), .lit (.int .u8 191)], .agg [.lit (.int .u8 160), .lit (.int .u8 191)], .agg [.lit (.int .u8 128), .lit (.int .u8 159)], .agg [.lit (.int .u8 144), .lit (.int .u8 191)], .agg [.lit (.int .u8 128), .lit (.int .u8 143)], .agg [.lit (.int .u8 0), .lit (.int .u8 0)], .agg [.lit (.int .u8 0), .lit (.int .u8 0)], .agg [.lit (.int .u8 0), .lit (.int .u8 0)], .agg [.lit (.int .u8 0), .lit (.int .u8 0)], .agg [.lit (.int .u8 0), .lit (.int .u8 0)], .agg [.lit (.int .u8 0), .lit (.int .u8 0)], .agg [.lit (.int .u8 0), .lit (.int .u8 0)], .agg [.lit (.int .u8 0), .lit (.int .u8 0)], .agg [.lit (.int .u8 0), .lit (.int .u8 0)], .agg [.lit (.int .u8 0), .lit (.int .u8 0)], .agg [.lit (.int .u8 0), .lit (.int .u8 0)]]
/-- One of Go's own tables, pinned by name: the form's constant. -/
def laid_unicode_utf8_first : DataW Unit := Go.Pinned.utf8First

/-- 'copydesklaw04.MergeMatchesReference': WHATEVER THE INPUT: true; the input reads as it did. -/
def mergeMatchesReferenceSpec : ChangeSpec := { name := "mergeMatchesReference", fn := fun _ => fun
  | [d1, d2, d3] => { results := [.lit (.bool true)], args := [d1, d2, d3] }
  | _ => none }
def mergeMatchesReferenceRow : OpenClaim := { program := "ytikpbknafhnieaagreatdoor", sum := "a2c5bfe2b2eb606e02d26de9ec1331ae3c1044c7381e57514c1e5ad391e3774a", func := "copydesk/copydesklaw04.MergeMatchesReference", spec := "mergeMatchesReference", inPlace := ["internal/bytealg.IndexByteString", "internal/bytealg.IndexString", "internal/abi.NoEscape", "internal/bytealg.MakeNoZero", "slices.overlaps[int]"], unfollowed := true, recurses := true, named := ["unicode/utf8.first", "unicode/utf8.acceptRanges", "internal/bytealg.MaxLen"], apart := false, laid := [("unicode/utf8.acceptRanges", laid_unicode_utf8_acceptRanges), ("unicode/utf8.first", laid_unicode_utf8_first)] }
def MergeMatchesReferenceSaid : Prop := mergeMatchesReferenceRow.holds Tryz.pinned (OpenSpec.ofChange mergeMatchesReferenceSpec)

/-- ITS FALSE NEIGHBOUR: 'it returns false'. Refute it at one input. -/
def mergeMatchesReferenceWrong : ChangeSpec := { name := "mergeMatchesReference", fn := fun _ => fun
  | [d1, d2, d3] => { results := [.lit (.bool false)], args := [d1, d2, d3] }
  | _ => none }
def MergeMatchesReferenceWrongFalsely : Prop := mergeMatchesReferenceRow.holds Tryz.pinned (OpenSpec.ofChange mergeMatchesReferenceWrong)

/-- 'copydesklaw04.MergeErrors': WHATEVER THE INPUT: true; the input reads as it did. -/
def mergeErrorsSpec : ChangeSpec := { name := "mergeErrors", fn := fun _ => fun
  | [d1, d2, d3] => { results := [.lit (.bool true)], args := [d1, d2, d3] }
  | _ => none }
def mergeErrorsRow : OpenClaim := { program := "ytikpbknafhnieaagreatdoor", sum := "a2c5bfe2b2eb606e02d26de9ec1331ae3c1044c7381e57514c1e5ad391e3774a", func := "copydesk/copydesklaw04.MergeErrors", spec := "mergeErrors", inPlace := ["internal/bytealg.IndexByteString", "internal/bytealg.IndexString", "internal/abi.NoEscape", "internal/bytealg.MakeNoZero", "slices.overlaps[int]"], unfollowed := true, recurses := true, named := ["unicode/utf8.first", "unicode/utf8.acceptRanges", "internal/bytealg.MaxLen"], apart := false, laid := [("unicode/utf8.acceptRanges", laid_unicode_utf8_acceptRanges), ("unicode/utf8.first", laid_unicode_utf8_first)] }
def MergeErrorsSaid : Prop := mergeErrorsRow.holds Tryz.pinned (OpenSpec.ofChange mergeErrorsSpec)

/-- ITS FALSE NEIGHBOUR: 'it returns false'. Refute it at one input. -/
def mergeErrorsWrong : ChangeSpec := { name := "mergeErrors", fn := fun _ => fun
  | [d1, d2, d3] => { results := [.lit (.bool false)], args := [d1, d2, d3] }
  | _ => none }
def MergeErrorsWrongFalsely : Prop := mergeErrorsRow.holds Tryz.pinned (OpenSpec.ofChange mergeErrorsWrong)

/-- 'copydesklaw04.MergeContents': WHATEVER THE INPUT: true; the input reads as it did. -/
def mergeContentsSpec : ChangeSpec := { name := "mergeContents", fn := fun _ => fun
  | [d1, d2, d3] => { results := [.lit (.bool true)], args := [d1, d2, d3] }
  | _ => none }
def mergeContentsRow : OpenClaim := { program := "ytikpbknafhnieaagreatdoor", sum := "a2c5bfe2b2eb606e02d26de9ec1331ae3c1044c7381e57514c1e5ad391e3774a", func := "copydesk/copydesklaw04.MergeContents", spec := "mergeContents", inPlace := ["internal/bytealg.IndexByteString", "internal/bytealg.IndexString", "internal/abi.NoEscape", "internal/bytealg.MakeNoZero", "slices.overlaps[int]"], unfollowed := true, recurses := true, named := ["unicode/utf8.first", "unicode/utf8.acceptRanges", "internal/bytealg.MaxLen"], apart := false, laid := [("unicode/utf8.acceptRanges", laid_unicode_utf8_acceptRanges), ("unicode/utf8.first", laid_unicode_utf8_first)] }
def MergeContentsSaid : Prop := mergeContentsRow.holds Tryz.pinned (OpenSpec.ofChange mergeContentsSpec)

/-- ITS FALSE NEIGHBOUR: 'it returns false'. Refute it at one input. -/
def mergeContentsWrong : ChangeSpec := { name := "mergeContents", fn := fun _ => fun
  | [d1, d2, d3] => { results := [.lit (.bool false)], args := [d1, d2, d3] }
  | _ => none }
def MergeContentsWrongFalsely : Prop := mergeContentsRow.holds Tryz.pinned (OpenSpec.ofChange mergeContentsWrong)

/-- 'copydesklaw04.MergeConflicts': WHATEVER THE INPUT: true; the input reads as it did. -/
def mergeConflictsSpec : ChangeSpec := { name := "mergeConflicts", fn := fun _ => fun
  | [d1, d2, d3] => { results := [.lit (.bool true)], args := [d1, d2, d3] }
  | _ => none }
def mergeConflictsRow : OpenClaim := { program := "ytikpbknafhnieaagreatdoor", sum := "a2c5bfe2b2eb606e02d26de9ec1331ae3c1044c7381e57514c1e5ad391e3774a", func := "copydesk/copydesklaw04.MergeConflicts", spec := "mergeConflicts", inPlace := ["internal/bytealg.IndexByteString", "internal/bytealg.IndexString", "internal/abi.NoEscape", "internal/bytealg.MakeNoZero", "slices.overlaps[int]"], unfollowed := true, recurses := true, named := ["unicode/utf8.first", "unicode/utf8.acceptRanges", "internal/bytealg.MaxLen"], apart := false, laid := [("unicode/utf8.acceptRanges", laid_unicode_utf8_acceptRanges), ("unicode/utf8.first", laid_unicode_utf8_first)] }
def MergeConflictsSaid : Prop := mergeConflictsRow.holds Tryz.pinned (OpenSpec.ofChange mergeConflictsSpec)

/-- ITS FALSE NEIGHBOUR: 'it returns false'. Refute it at one input. -/
def mergeConflictsWrong : ChangeSpec := { name := "mergeConflicts", fn := fun _ => fun
  | [d1, d2, d3] => { results := [.lit (.bool false)], args := [d1, d2, d3] }
  | _ => none }
def MergeConflictsWrongFalsely : Prop := mergeConflictsRow.holds Tryz.pinned (OpenSpec.ofChange mergeConflictsWrong)

/-- 'copydesklaw04.MergeExchanged': WHATEVER THE INPUT: true; the input reads as it did. -/
def mergeExchangedSpec : ChangeSpec := { name := "mergeExchanged", fn := fun _ => fun
  | [d1, d2, d3] => { results := [.lit (.bool true)], args := [d1, d2, d3] }
  | _ => none }
def mergeExchangedRow : OpenClaim := { program := "ytikpbknafhnieaagreatdoor", sum := "a2c5bfe2b2eb606e02d26de9ec1331ae3c1044c7381e57514c1e5ad391e3774a", func := "copydesk/copydesklaw04.MergeExchanged", spec := "mergeExchanged", inPlace := ["internal/bytealg.IndexByteString", "internal/bytealg.IndexString", "internal/abi.NoEscape", "internal/bytealg.MakeNoZero", "slices.overlaps[int]"], unfollowed := true, recurses := true, named := ["unicode/utf8.first", "unicode/utf8.acceptRanges", "internal/bytealg.MaxLen"], apart := false, laid := [("unicode/utf8.acceptRanges", laid_unicode_utf8_acceptRanges), ("unicode/utf8.first", laid_unicode_utf8_first)] }
def MergeExchangedSaid : Prop := mergeExchangedRow.holds Tryz.pinned (OpenSpec.ofChange mergeExchangedSpec)

/-- ITS FALSE NEIGHBOUR: 'it returns false'. Refute it at one input. -/
def mergeExchangedWrong : ChangeSpec := { name := "mergeExchanged", fn := fun _ => fun
  | [d1, d2, d3] => { results := [.lit (.bool false)], args := [d1, d2, d3] }
  | _ => none }
def MergeExchangedWrongFalsely : Prop := mergeExchangedRow.holds Tryz.pinned (OpenSpec.ofChange mergeExchangedWrong)

/-- 'copydesklaw04.MergeAgain': WHATEVER THE INPUT: true; the input reads as it did. -/
def mergeAgainSpec : ChangeSpec := { name := "mergeAgain", fn := fun _ => fun
  | [d1, d2, d3] => { results := [.lit (.bool true)], args := [d1, d2, d3] }
  | _ => none }
def mergeAgainRow : OpenClaim := { program := "ytikpbknafhnieaagreatdoor", sum := "a2c5bfe2b2eb606e02d26de9ec1331ae3c1044c7381e57514c1e5ad391e3774a", func := "copydesk/copydesklaw04.MergeAgain", spec := "mergeAgain", inPlace := ["internal/bytealg.IndexByteString", "internal/bytealg.IndexString", "internal/abi.NoEscape", "internal/bytealg.MakeNoZero", "slices.overlaps[int]"], unfollowed := true, recurses := true, named := ["unicode/utf8.first", "unicode/utf8.acceptRanges", "internal/bytealg.MaxLen"], apart := false, laid := [("unicode/utf8.acceptRanges", laid_unicode_utf8_acceptRanges), ("unicode/utf8.first", laid_unicode_utf8_first)] }
def MergeAgainSaid : Prop := mergeAgainRow.holds Tryz.pinned (OpenSpec.ofChange mergeAgainSpec)

/-- ITS FALSE NEIGHBOUR: 'it returns false'. Refute it at one input. -/
def mergeAgainWrong : ChangeSpec := { name := "mergeAgain", fn := fun _ => fun
  | [d1, d2, d3] => { results := [.lit (.bool false)], args := [d1, d2, d3] }
  | _ => none }
def MergeAgainWrongFalsely : Prop := mergeAgainRow.holds Tryz.pinned (OpenSpec.ofChange mergeAgainWrong)

/-- 'copydesklaw04.MergeKeepsOrder': WHATEVER THE INPUT: true; the input reads as it did. -/
def mergeKeepsOrderSpec : ChangeSpec := { name := "mergeKeepsOrder", fn := fun _ => fun
  | [d1, d2, d3] => { results := [.lit (.bool true)], args := [d1, d2, d3] }
  | _ => none }
def mergeKeepsOrderRow : OpenClaim := { program := "ytikpbknafhnieaagreatdoor", sum := "a2c5bfe2b2eb606e02d26de9ec1331ae3c1044c7381e57514c1e5ad391e3774a", func := "copydesk/copydesklaw04.MergeKeepsOrder", spec := "mergeKeepsOrder", inPlace := ["internal/bytealg.IndexByteString", "internal/bytealg.IndexString", "internal/abi.NoEscape", "internal/bytealg.MakeNoZero", "slices.overlaps[int]"], unfollowed := true, recurses := true, named := ["unicode/utf8.first", "unicode/utf8.acceptRanges", "internal/bytealg.MaxLen"], apart := false, laid := [("unicode/utf8.acceptRanges", laid_unicode_utf8_acceptRanges), ("unicode/utf8.first", laid_unicode_utf8_first)] }
def MergeKeepsOrderSaid : Prop := mergeKeepsOrderRow.holds Tryz.pinned (OpenSpec.ofChange mergeKeepsOrderSpec)

/-- ITS FALSE NEIGHBOUR: 'it returns false'. Refute it at one input. -/
def mergeKeepsOrderWrong : ChangeSpec := { name := "mergeKeepsOrder", fn := fun _ => fun
  | [d1, d2, d3] => { results := [.lit (.bool false)], args := [d1, d2, d3] }
  | _ => none }
def MergeKeepsOrderWrongFalsely : Prop := mergeKeepsOrderRow.holds Tryz.pinned (OpenSpec.ofChange mergeKeepsOrderWrong)

/-- 'copydesklaw04.MergeOwns': WHATEVER THE INPUT: true; the input reads as it did. -/
def mergeOwnsSpec : ChangeSpec := { name := "mergeOwns", fn := fun _ => fun
  | [d1, d2, d3] => { results := [.lit (.bool true)], args := [d1, d2, d3] }
  | _ => none }
def mergeOwnsRow : OpenClaim := { program := "ytikpbknafhnieaagreatdoor", sum := "a2c5bfe2b2eb606e02d26de9ec1331ae3c1044c7381e57514c1e5ad391e3774a", func := "copydesk/copydesklaw04.MergeOwns", spec := "mergeOwns", inPlace := ["internal/bytealg.IndexByteString", "internal/bytealg.IndexString", "internal/abi.NoEscape", "internal/bytealg.MakeNoZero", "slices.overlaps[int]"], unfollowed := true, recurses := true, named := ["unicode/utf8.first", "unicode/utf8.acceptRanges", "internal/bytealg.MaxLen"], apart := false, laid := [("unicode/utf8.acceptRanges", laid_unicode_utf8_acceptRanges), ("unicode/utf8.first", laid_unicode_utf8_first)] }
def MergeOwnsSaid : Prop := mergeOwnsRow.holds Tryz.pinned (OpenSpec.ofChange mergeOwnsSpec)

/-- ITS FALSE NEIGHBOUR: 'it returns false'. Refute it at one input. -/
def mergeOwnsWrong : ChangeSpec := { name := "mergeOwns", fn := fun _ => fun
  | [d1, d2, d3] => { results := [.lit (.bool false)], args := [d1, d2, d3] }
  | _ => none }
def MergeOwnsWrongFalsely : Prop := mergeOwnsRow.holds Tryz.pinned (OpenSpec.ofChange mergeOwnsWrong)

/-- 'copydesklaw04.MergeOneSide': WHATEVER THE INPUT: true; the input reads as it did. -/
def mergeOneSideSpec : ChangeSpec := { name := "mergeOneSide", fn := fun _ => fun
  | [d1, d2] => { results := [.lit (.bool true)], args := [d1, d2] }
  | _ => none }
def mergeOneSideRow : OpenClaim := { program := "ytikpbknafhnieaagreatdoor", sum := "a2c5bfe2b2eb606e02d26de9ec1331ae3c1044c7381e57514c1e5ad391e3774a", func := "copydesk/copydesklaw04.MergeOneSide", spec := "mergeOneSide", inPlace := ["internal/bytealg.IndexByteString", "internal/bytealg.IndexString", "internal/abi.NoEscape", "internal/bytealg.MakeNoZero", "slices.overlaps[int]"], unfollowed := true, recurses := true, named := ["unicode/utf8.first", "unicode/utf8.acceptRanges", "internal/bytealg.MaxLen"], apart := false, laid := [("unicode/utf8.acceptRanges", laid_unicode_utf8_acceptRanges), ("unicode/utf8.first", laid_unicode_utf8_first)] }
def MergeOneSideSaid : Prop := mergeOneSideRow.holds Tryz.pinned (OpenSpec.ofChange mergeOneSideSpec)

/-- ITS FALSE NEIGHBOUR: 'it returns false'. Refute it at one input. -/
def mergeOneSideWrong : ChangeSpec := { name := "mergeOneSide", fn := fun _ => fun
  | [d1, d2] => { results := [.lit (.bool false)], args := [d1, d2] }
  | _ => none }
def MergeOneSideWrongFalsely : Prop := mergeOneSideRow.holds Tryz.pinned (OpenSpec.ofChange mergeOneSideWrong)

/- THE SECOND FORM. 'bulk': how many values and letters a reading holds, each counted each time it is reached (what is shared counts as often as it is met; a slice's spare places count too). A statement '..UptoSaid' is the law's where the arguments, and the package variables that the reading takes, are together of bulk at most 1048576: NARROWER than '..Said'. Prove '..Said' where nothing that the law and all that it calls make is longer than what came in: it says more and counts as full. Else prove '..UptoSaid'. A law counts once. -/
mutual
def uptoBulk {H : Type} : DataW H → Nat
  | .lit (.string bytes) => bytes.length + 1
  | .lit _ => 1
  | .nil => 1
  | .ptr d => uptoBulk d + 1
  | .slice elems spare => uptoBulkAll elems + uptoBulkAll spare + 1
  | .agg parts => uptoBulkAll parts + 1
  | .iface _ d => uptoBulk d + 1
  | .map entries => uptoBulkEntries entries + 1
  | .held _ => 1
def uptoBulkAll {H : Type} : List (DataW H) → Nat
  | [] => 0
  | d :: r => uptoBulk d + uptoBulkAll r
def uptoBulkEntries {H : Type} : List (Lit × DataW H) → Nat
  | [] => 0
  | x :: r => uptoBulkEntry x + uptoBulkEntries r
def uptoBulkEntry {H : Type} : Lit × DataW H → Nat
  | (.string bytes, d) => bytes.length + uptoBulk d + 1
  | (_, d) => uptoBulk d + 1
 end
def uptoSmall : (H : Type) → List (DataW H) → Bool := fun _ ds => decide (uptoBulkAll ds ≤ 1048576)
def OpenSpec.upto (s : _root_.Go.ChangeSpec) : _root_.Go.OpenSpec := { _root_.Go.OpenSpec.ofChange s with cond := some uptoSmall }

/-- 'copydesklaw04.MergeMatchesReference', WHERE WHAT IT READS IS OF BULK AT MOST 1048576: true; the input reads as it did. -/
def mergeMatchesReferenceUptoRow : OpenClaim := { program := "ytikpbknafhnieaagreatdoor", sum := "a2c5bfe2b2eb606e02d26de9ec1331ae3c1044c7381e57514c1e5ad391e3774a", func := "copydesk/copydesklaw04.MergeMatchesReference", spec := "mergeMatchesReference", inPlace := ["internal/bytealg.IndexByteString", "internal/bytealg.IndexString", "internal/abi.NoEscape", "internal/bytealg.MakeNoZero", "slices.overlaps[int]"], unfollowed := true, recurses := true, named := ["unicode/utf8.first", "unicode/utf8.acceptRanges", "internal/bytealg.MaxLen"], apart := false, laid := [("unicode/utf8.acceptRanges", laid_unicode_utf8_acceptRanges), ("unicode/utf8.first", laid_unicode_utf8_first)], narrowed := true }
def MergeMatchesReferenceUptoSaid : Prop := mergeMatchesReferenceUptoRow.holds Tryz.pinned (OpenSpec.upto mergeMatchesReferenceSpec)

/-- 'copydesklaw04.MergeErrors', WHERE WHAT IT READS IS OF BULK AT MOST 1048576: true; the input reads as it did. -/
def mergeErrorsUptoRow : OpenClaim := { program := "ytikpbknafhnieaagreatdoor", sum := "a2c5bfe2b2eb606e02d26de9ec1331ae3c1044c7381e57514c1e5ad391e3774a", func := "copydesk/copydesklaw04.MergeErrors", spec := "mergeErrors", inPlace := ["internal/bytealg.IndexByteString", "internal/bytealg.IndexString", "internal/abi.NoEscape", "internal/bytealg.MakeNoZero", "slices.overlaps[int]"], unfollowed := true, recurses := true, named := ["unicode/utf8.first", "unicode/utf8.acceptRanges", "internal/bytealg.MaxLen"], apart := false, laid := [("unicode/utf8.acceptRanges", laid_unicode_utf8_acceptRanges), ("unicode/utf8.first", laid_unicode_utf8_first)], narrowed := true }
def MergeErrorsUptoSaid : Prop := mergeErrorsUptoRow.holds Tryz.pinned (OpenSpec.upto mergeErrorsSpec)

/-- 'copydesklaw04.MergeContents', WHERE WHAT IT READS IS OF BULK AT MOST 1048576: true; the input reads as it did. -/
def mergeContentsUptoRow : OpenClaim := { program := "ytikpbknafhnieaagreatdoor", sum := "a2c5bfe2b2eb606e02d26de9ec1331ae3c1044c7381e57514c1e5ad391e3774a", func := "copydesk/copydesklaw04.MergeContents", spec := "mergeContents", inPlace := ["internal/bytealg.IndexByteString", "internal/bytealg.IndexString", "internal/abi.NoEscape", "internal/bytealg.MakeNoZero", "slices.overlaps[int]"], unfollowed := true, recurses := true, named := ["unicode/utf8.first", "unicode/utf8.acceptRanges", "internal/bytealg.MaxLen"], apart := false, laid := [("unicode/utf8.acceptRanges", laid_unicode_utf8_acceptRanges), ("unicode/utf8.first", laid_unicode_utf8_first)], narrowed := true }
def MergeContentsUptoSaid : Prop := mergeContentsUptoRow.holds Tryz.pinned (OpenSpec.upto mergeContentsSpec)

/-- 'copydesklaw04.MergeConflicts', WHERE WHAT IT READS IS OF BULK AT MOST 1048576: true; the input reads as it did. -/
def mergeConflictsUptoRow : OpenClaim := { program := "ytikpbknafhnieaagreatdoor", sum := "a2c5bfe2b2eb606e02d26de9ec1331ae3c1044c7381e57514c1e5ad391e3774a", func := "copydesk/copydesklaw04.MergeConflicts", spec := "mergeConflicts", inPlace := ["internal/bytealg.IndexByteString", "internal/bytealg.IndexString", "internal/abi.NoEscape", "internal/bytealg.MakeNoZero", "slices.overlaps[int]"], unfollowed := true, recurses := true, named := ["unicode/utf8.first", "unicode/utf8.acceptRanges", "internal/bytealg.MaxLen"], apart := false, laid := [("unicode/utf8.acceptRanges", laid_unicode_utf8_acceptRanges), ("unicode/utf8.first", laid_unicode_utf8_first)], narrowed := true }
def MergeConflictsUptoSaid : Prop := mergeConflictsUptoRow.holds Tryz.pinned (OpenSpec.upto mergeConflictsSpec)

/-- 'copydesklaw04.MergeExchanged', WHERE WHAT IT READS IS OF BULK AT MOST 1048576: true; the input reads as it did. -/
def mergeExchangedUptoRow : OpenClaim := { program := "ytikpbknafhnieaagreatdoor", sum := "a2c5bfe2b2eb606e02d26de9ec1331ae3c1044c7381e57514c1e5ad391e3774a", func := "copydesk/copydesklaw04.MergeExchanged", spec := "mergeExchanged", inPlace := ["internal/bytealg.IndexByteString", "internal/bytealg.IndexString", "internal/abi.NoEscape", "internal/bytealg.MakeNoZero", "slices.overlaps[int]"], unfollowed := true, recurses := true, named := ["unicode/utf8.first", "unicode/utf8.acceptRanges", "internal/bytealg.MaxLen"], apart := false, laid := [("unicode/utf8.acceptRanges", laid_unicode_utf8_acceptRanges), ("unicode/utf8.first", laid_unicode_utf8_first)], narrowed := true }
def MergeExchangedUptoSaid : Prop := mergeExchangedUptoRow.holds Tryz.pinned (OpenSpec.upto mergeExchangedSpec)

/-- 'copydesklaw04.MergeAgain', WHERE WHAT IT READS IS OF BULK AT MOST 1048576: true; the input reads as it did. -/
def mergeAgainUptoRow : OpenClaim := { program := "ytikpbknafhnieaagreatdoor", sum := "a2c5bfe2b2eb606e02d26de9ec1331ae3c1044c7381e57514c1e5ad391e3774a", func := "copydesk/copydesklaw04.MergeAgain", spec := "mergeAgain", inPlace := ["internal/bytealg.IndexByteString", "internal/bytealg.IndexString", "internal/abi.NoEscape", "internal/bytealg.MakeNoZero", "slices.overlaps[int]"], unfollowed := true, recurses := true, named := ["unicode/utf8.first", "unicode/utf8.acceptRanges", "internal/bytealg.MaxLen"], apart := false, laid := [("unicode/utf8.acceptRanges", laid_unicode_utf8_acceptRanges), ("unicode/utf8.first", laid_unicode_utf8_first)], narrowed := true }
def MergeAgainUptoSaid : Prop := mergeAgainUptoRow.holds Tryz.pinned (OpenSpec.upto mergeAgainSpec)

/-- 'copydesklaw04.MergeKeepsOrder', WHERE WHAT IT READS IS OF BULK AT MOST 1048576: true; the input reads as it did. -/
def mergeKeepsOrderUptoRow : OpenClaim := { program := "ytikpbknafhnieaagreatdoor", sum := "a2c5bfe2b2eb606e02d26de9ec1331ae3c1044c7381e57514c1e5ad391e3774a", func := "copydesk/copydesklaw04.MergeKeepsOrder", spec := "mergeKeepsOrder", inPlace := ["internal/bytealg.IndexByteString", "internal/bytealg.IndexString", "internal/abi.NoEscape", "internal/bytealg.MakeNoZero", "slices.overlaps[int]"], unfollowed := true, recurses := true, named := ["unicode/utf8.first", "unicode/utf8.acceptRanges", "internal/bytealg.MaxLen"], apart := false, laid := [("unicode/utf8.acceptRanges", laid_unicode_utf8_acceptRanges), ("unicode/utf8.first", laid_unicode_utf8_first)], narrowed := true }
def MergeKeepsOrderUptoSaid : Prop := mergeKeepsOrderUptoRow.holds Tryz.pinned (OpenSpec.upto mergeKeepsOrderSpec)

/-- 'copydesklaw04.MergeOwns', WHERE WHAT IT READS IS OF BULK AT MOST 1048576: true; the input reads as it did. -/
def mergeOwnsUptoRow : OpenClaim := { program := "ytikpbknafhnieaagreatdoor", sum := "a2c5bfe2b2eb606e02d26de9ec1331ae3c1044c7381e57514c1e5ad391e3774a", func := "copydesk/copydesklaw04.MergeOwns", spec := "mergeOwns", inPlace := ["internal/bytealg.IndexByteString", "internal/bytealg.IndexString", "internal/abi.NoEscape", "internal/bytealg.MakeNoZero", "slices.overlaps[int]"], unfollowed := true, recurses := true, named := ["unicode/utf8.first", "unicode/utf8.acceptRanges", "internal/bytealg.MaxLen"], apart := false, laid := [("unicode/utf8.acceptRanges", laid_unicode_utf8_acceptRanges), ("unicode/utf8.first", laid_unicode_utf8_first)], narrowed := true }
def MergeOwnsUptoSaid : Prop := mergeOwnsUptoRow.holds Tryz.pinned (OpenSpec.upto mergeOwnsSpec)

/-- 'copydesklaw04.MergeOneSide', WHERE WHAT IT READS IS OF BULK AT MOST 1048576: true; the input reads as it did. -/
def mergeOneSideUptoRow : OpenClaim := { program := "ytikpbknafhnieaagreatdoor", sum := "a2c5bfe2b2eb606e02d26de9ec1331ae3c1044c7381e57514c1e5ad391e3774a", func := "copydesk/copydesklaw04.MergeOneSide", spec := "mergeOneSide", inPlace := ["internal/bytealg.IndexByteString", "internal/bytealg.IndexString", "internal/abi.NoEscape", "internal/bytealg.MakeNoZero", "slices.overlaps[int]"], unfollowed := true, recurses := true, named := ["unicode/utf8.first", "unicode/utf8.acceptRanges", "internal/bytealg.MaxLen"], apart := false, laid := [("unicode/utf8.acceptRanges", laid_unicode_utf8_acceptRanges), ("unicode/utf8.first", laid_unicode_utf8_first)], narrowed := true }
def MergeOneSideUptoSaid : Prop := mergeOneSideUptoRow.holds Tryz.pinned (OpenSpec.upto mergeOneSideSpec)

end Rows
end Go.Proofs.YtikpbknafhnieaaGreatDoor
