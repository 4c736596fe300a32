/-
  NARROWER THAN 'FOR EVERY INPUT', by the rows' own cells (each row's printed sentence says how): AccessOutLeast: laid · AccessOutGrows: laid · AccessHides: laid · AccessStable: laid · AccessRedacted: laid · AccessTaken: laid · AccessMemory: laid.
  DERIVED. THE GIVEN ROWS OF THIS SEAT. 7 by the template 'for every input the law returns true; each argument reads behind the call as it read before'; 0 by the template 'total and deterministic' (their statements: YtgbihmafmmeicaaGreatDoorTotals.lean).
  GIVEN WITH THE SEED: the statements are not yours to turn. If you find one false, say at which input.
  Laid BY PROGRAM, IN A SANDBOX (cutbox-rows.mjs): the forced cells as the released guide's own fill.sh prints them over the translation 150378b96cba09d1… (all of the seat's roots in one cut). By AI agents, Wed Nov 11 2026. No macro, syntax, notation, axiom, sorry.
-/
import Derived.Test.YtgbihmafmmeicaaGreatDoorChecked
import GoSem.PinnedTables
import GoSem.Claim
import GoSem.ClaimJoined
import GoSem.ClaimMapViews
import Derived.JoinedTies
import Derived.KernelRfl
namespace Go.Proofs.YtgbihmafmmeicaaGreatDoor
/- THE CELL 'sum', in the pinned program and in every row, IS THE sha256 OF THE DUMP (.gsa) THAT YtgbihmafmmeicaaGreatDoorProg.lean LOADS. Nothing in Lean hashes anything: it is a label: what it is worth is what the hold of that sum in a sandbox is worth. -/
noncomputable def Tryz.pinned : Pinned := { name := "ytgbihmafmmeicaagreatdoor", sum := "150378b96cba09d113e170cd056935a1db7e75722c19083d721decf498ccefa1", checked := Tryz.checked }
namespace Rows
def none {H : Type} : Left H := { results := [], args := [] }

/- WHAT THE LISTED PACKAGE-LEVEL VARIABLES READ AS WHEN THE CALL BEGINS. Each datum BY PROGRAM (the guide's laid-datum.mjs) off the statement by which the dump's own 'gosem.cut.vars' lays the variable. In a bare row this is a premise. The card (YtgbihmafmmeicaaGreatDoorCards.lean) ties it to the program's text. -/
def laid_unicode_utf8_acceptRanges {H : Type} : DataW H := .agg [.agg [.lit (.int .u8 128), .lit (.int .u8 191)], .agg [.lit (.int .u8 160), .lit (.int .u8 191)], .agg [.lit (.int .u8 128), .lit (.int .u8 159)], .agg [.lit (.int .u8 144), .lit (.int .u8 191)], .agg [.lit (.int .u8 128), .lit (.int .u8 143)], .agg [.lit (.int .u8 0), .lit (.int .u8 0)], .agg [.lit (.int .u8 0), .lit (.int .u8 0)], .agg [.lit (.int .u8 0), .lit (.int .u8 0)], .agg [.lit (.int .u8 0), .lit (.int .u8 0)], .agg [.lit (.int .u8 0), .lit (.int .u8 0)], .agg [.lit (.int .u8 0), .lit (.int .u8 0)], .agg [.lit (.int .u8 0), .lit (.int .u8 0)], .agg [.lit (.int .u8 0), .lit (.int .u8 0)], .agg [.lit (.int .u8 0), .lit (.int .u8 0)], .agg [.lit (.int .u8 0), .lit (.int .u8 0)], .agg [.lit (.int .u8 0), .lit (.int .u8 0)]]
/-- One of Go's own tables, pinned by name: the form's constant. -/
def laid_unicode_utf8_first : DataW Unit := Go.Pinned.utf8First

/-- 'copydesklaw06.AccessOutLeast': WHATEVER THE INPUT: true; the input reads as it did. -/
def accessOutLeastSpec : ChangeSpec := { name := "accessOutLeast", fn := fun _ => fun
  | [d1, d2, d3] => { results := [.lit (.bool true)], args := [d1, d2, d3] }
  | _ => none }
def accessOutLeastRow : OpenClaim := { program := "ytgbihmafmmeicaagreatdoor", sum := "150378b96cba09d113e170cd056935a1db7e75722c19083d721decf498ccefa1", func := "copydesk/copydesklaw06.AccessOutLeast", spec := "accessOutLeast", inPlace := ["internal/bytealg.IndexByteString", "internal/bytealg.IndexString", "internal/abi.NoEscape", "internal/bytealg.MakeNoZero"], unfollowed := true, recurses := true, named := ["unicode/utf8.first", "unicode/utf8.acceptRanges", "internal/bytealg.MaxLen"], plainKeys := false, apart := false, laid := [("unicode/utf8.acceptRanges", laid_unicode_utf8_acceptRanges), ("unicode/utf8.first", laid_unicode_utf8_first)] }
def AccessOutLeastSaid : Prop := accessOutLeastRow.holds Tryz.pinned (OpenSpec.ofChange accessOutLeastSpec)

/-- ITS FALSE NEIGHBOUR: 'it returns false'. Refute it at one input. -/
def accessOutLeastWrong : ChangeSpec := { name := "accessOutLeast", fn := fun _ => fun
  | [d1, d2, d3] => { results := [.lit (.bool false)], args := [d1, d2, d3] }
  | _ => none }
def AccessOutLeastWrongFalsely : Prop := accessOutLeastRow.holds Tryz.pinned (OpenSpec.ofChange accessOutLeastWrong)

/-- 'copydesklaw06.AccessOutGrows': WHATEVER THE INPUT: true; the input reads as it did. -/
def accessOutGrowsSpec : ChangeSpec := { name := "accessOutGrows", fn := fun _ => fun
  | [d1, d2, d3] => { results := [.lit (.bool true)], args := [d1, d2, d3] }
  | _ => none }
def accessOutGrowsRow : OpenClaim := { program := "ytgbihmafmmeicaagreatdoor", sum := "150378b96cba09d113e170cd056935a1db7e75722c19083d721decf498ccefa1", func := "copydesk/copydesklaw06.AccessOutGrows", spec := "accessOutGrows", inPlace := ["internal/bytealg.IndexByteString", "internal/bytealg.IndexString", "internal/abi.NoEscape", "internal/bytealg.MakeNoZero"], unfollowed := true, recurses := true, named := ["unicode/utf8.first", "unicode/utf8.acceptRanges", "internal/bytealg.MaxLen"], plainKeys := false, apart := false, laid := [("unicode/utf8.acceptRanges", laid_unicode_utf8_acceptRanges), ("unicode/utf8.first", laid_unicode_utf8_first)] }
def AccessOutGrowsSaid : Prop := accessOutGrowsRow.holds Tryz.pinned (OpenSpec.ofChange accessOutGrowsSpec)

/-- ITS FALSE NEIGHBOUR: 'it returns false'. Refute it at one input. -/
def accessOutGrowsWrong : ChangeSpec := { name := "accessOutGrows", fn := fun _ => fun
  | [d1, d2, d3] => { results := [.lit (.bool false)], args := [d1, d2, d3] }
  | _ => none }
def AccessOutGrowsWrongFalsely : Prop := accessOutGrowsRow.holds Tryz.pinned (OpenSpec.ofChange accessOutGrowsWrong)

/-- 'copydesklaw06.AccessHides': WHATEVER THE INPUT: true; the input reads as it did. -/
def accessHidesSpec : ChangeSpec := { name := "accessHides", fn := fun _ => fun
  | [d1, d2, d3] => { results := [.lit (.bool true)], args := [d1, d2, d3] }
  | _ => none }
def accessHidesRow : OpenClaim := { program := "ytgbihmafmmeicaagreatdoor", sum := "150378b96cba09d113e170cd056935a1db7e75722c19083d721decf498ccefa1", func := "copydesk/copydesklaw06.AccessHides", spec := "accessHides", inPlace := ["internal/bytealg.IndexByteString", "internal/bytealg.IndexString", "internal/abi.NoEscape", "internal/bytealg.MakeNoZero"], unfollowed := true, recurses := true, named := ["unicode/utf8.first", "unicode/utf8.acceptRanges", "internal/bytealg.MaxLen"], plainKeys := false, apart := false, laid := [("unicode/utf8.acceptRanges", laid_unicode_utf8_acceptRanges), ("unicode/utf8.first", laid_unicode_utf8_first)] }
def AccessHidesSaid : Prop := accessHidesRow.holds Tryz.pinned (OpenSpec.ofChange accessHidesSpec)

/-- ITS FALSE NEIGHBOUR: 'it returns false'. Refute it at one input. -/
def accessHidesWrong : ChangeSpec := { name := "accessHides", fn := fun _ => fun
  | [d1, d2, d3] => { results := [.lit (.bool false)], args := [d1, d2, d3] }
  | _ => none }
def AccessHidesWrongFalsely : Prop := accessHidesRow.holds Tryz.pinned (OpenSpec.ofChange accessHidesWrong)

/-- 'copydesklaw06.AccessStable': WHATEVER THE INPUT: true; the input reads as it did. -/
def accessStableSpec : ChangeSpec := { name := "accessStable", fn := fun _ => fun
  | [d1, d2, d3] => { results := [.lit (.bool true)], args := [d1, d2, d3] }
  | _ => none }
def accessStableRow : OpenClaim := { program := "ytgbihmafmmeicaagreatdoor", sum := "150378b96cba09d113e170cd056935a1db7e75722c19083d721decf498ccefa1", func := "copydesk/copydesklaw06.AccessStable", spec := "accessStable", inPlace := ["internal/bytealg.IndexByteString", "internal/bytealg.IndexString", "internal/abi.NoEscape", "internal/bytealg.MakeNoZero"], unfollowed := true, recurses := true, named := ["unicode/utf8.first", "unicode/utf8.acceptRanges", "internal/bytealg.MaxLen"], plainKeys := false, apart := false, laid := [("unicode/utf8.acceptRanges", laid_unicode_utf8_acceptRanges), ("unicode/utf8.first", laid_unicode_utf8_first)] }
def AccessStableSaid : Prop := accessStableRow.holds Tryz.pinned (OpenSpec.ofChange accessStableSpec)

/-- ITS FALSE NEIGHBOUR: 'it returns false'. Refute it at one input. -/
def accessStableWrong : ChangeSpec := { name := "accessStable", fn := fun _ => fun
  | [d1, d2, d3] => { results := [.lit (.bool false)], args := [d1, d2, d3] }
  | _ => none }
def AccessStableWrongFalsely : Prop := accessStableRow.holds Tryz.pinned (OpenSpec.ofChange accessStableWrong)

/-- 'copydesklaw06.AccessRedacted': WHATEVER THE INPUT: true; the input reads as it did. -/
def accessRedactedSpec : ChangeSpec := { name := "accessRedacted", fn := fun _ => fun
  | [d1, d2, d3] => { results := [.lit (.bool true)], args := [d1, d2, d3] }
  | _ => none }
def accessRedactedRow : OpenClaim := { program := "ytgbihmafmmeicaagreatdoor", sum := "150378b96cba09d113e170cd056935a1db7e75722c19083d721decf498ccefa1", func := "copydesk/copydesklaw06.AccessRedacted", spec := "accessRedacted", inPlace := ["internal/bytealg.IndexByteString", "internal/bytealg.IndexString", "internal/abi.NoEscape", "internal/bytealg.MakeNoZero"], unfollowed := true, recurses := true, named := ["unicode/utf8.first", "unicode/utf8.acceptRanges", "internal/bytealg.MaxLen"], plainKeys := false, apart := false, laid := [("unicode/utf8.acceptRanges", laid_unicode_utf8_acceptRanges), ("unicode/utf8.first", laid_unicode_utf8_first)] }
def AccessRedactedSaid : Prop := accessRedactedRow.holds Tryz.pinned (OpenSpec.ofChange accessRedactedSpec)

/-- ITS FALSE NEIGHBOUR: 'it returns false'. Refute it at one input. -/
def accessRedactedWrong : ChangeSpec := { name := "accessRedacted", fn := fun _ => fun
  | [d1, d2, d3] => { results := [.lit (.bool false)], args := [d1, d2, d3] }
  | _ => none }
def AccessRedactedWrongFalsely : Prop := accessRedactedRow.holds Tryz.pinned (OpenSpec.ofChange accessRedactedWrong)

/-- 'copydesklaw06.AccessTaken': WHATEVER THE INPUT: true; the input reads as it did. -/
def accessTakenSpec : ChangeSpec := { name := "accessTaken", fn := fun _ => fun
  | [d1, d2, d3] => { results := [.lit (.bool true)], args := [d1, d2, d3] }
  | _ => none }
def accessTakenRow : OpenClaim := { program := "ytgbihmafmmeicaagreatdoor", sum := "150378b96cba09d113e170cd056935a1db7e75722c19083d721decf498ccefa1", func := "copydesk/copydesklaw06.AccessTaken", spec := "accessTaken", inPlace := ["internal/bytealg.IndexByteString", "internal/bytealg.IndexString", "internal/abi.NoEscape", "internal/bytealg.MakeNoZero"], unfollowed := true, recurses := true, named := ["unicode/utf8.first", "unicode/utf8.acceptRanges", "internal/bytealg.MaxLen"], plainKeys := false, apart := false, laid := [("unicode/utf8.acceptRanges", laid_unicode_utf8_acceptRanges), ("unicode/utf8.first", laid_unicode_utf8_first)] }
def AccessTakenSaid : Prop := accessTakenRow.holds Tryz.pinned (OpenSpec.ofChange accessTakenSpec)

/-- ITS FALSE NEIGHBOUR: 'it returns false'. Refute it at one input. -/
def accessTakenWrong : ChangeSpec := { name := "accessTaken", fn := fun _ => fun
  | [d1, d2, d3] => { results := [.lit (.bool false)], args := [d1, d2, d3] }
  | _ => none }
def AccessTakenWrongFalsely : Prop := accessTakenRow.holds Tryz.pinned (OpenSpec.ofChange accessTakenWrong)

/-- 'copydesklaw06.AccessMemory': WHATEVER THE INPUT: true; the input reads as it did. -/
def accessMemorySpec : ChangeSpec := { name := "accessMemory", fn := fun _ => fun
  | [d1, d2] => { results := [.lit (.bool true)], args := [d1, d2] }
  | _ => none }
def accessMemoryRow : OpenClaim := { program := "ytgbihmafmmeicaagreatdoor", sum := "150378b96cba09d113e170cd056935a1db7e75722c19083d721decf498ccefa1", func := "copydesk/copydesklaw06.AccessMemory", spec := "accessMemory", inPlace := ["internal/bytealg.IndexByteString", "internal/bytealg.IndexString", "internal/abi.NoEscape", "internal/bytealg.MakeNoZero"], unfollowed := true, recurses := true, named := ["unicode/utf8.first", "unicode/utf8.acceptRanges", "internal/bytealg.MaxLen"], plainKeys := false, apart := false, laid := [("unicode/utf8.acceptRanges", laid_unicode_utf8_acceptRanges), ("unicode/utf8.first", laid_unicode_utf8_first)] }
def AccessMemorySaid : Prop := accessMemoryRow.holds Tryz.pinned (OpenSpec.ofChange accessMemorySpec)

/-- ITS FALSE NEIGHBOUR: 'it returns false'. Refute it at one input. -/
def accessMemoryWrong : ChangeSpec := { name := "accessMemory", fn := fun _ => fun
  | [d1, d2] => { results := [.lit (.bool false)], args := [d1, d2] }
  | _ => none }
def AccessMemoryWrongFalsely : Prop := accessMemoryRow.holds Tryz.pinned (OpenSpec.ofChange accessMemoryWrong)

/- THE SECOND FORM. 'bulk': how many values and letters a reading holds, each counted each time it is reached (what is shared counts as often as it is met; a slice's spare places count too). A statement '..UptoSaid' is the law's where the arguments, and the package variables that the reading takes, are together of bulk at most 1048576: NARROWER than '..Said'. Prove '..Said' where nothing that the law and all that it calls make is longer than what came in: it says more and counts as full. Else prove '..UptoSaid'. A law counts once. -/
mutual
def uptoBulk {H : Type} : DataW H → Nat
  | .lit (.string bytes) => bytes.length + 1
  | .lit _ => 1
  | .nil => 1
  | .ptr d => uptoBulk d + 1
  | .slice elems spare => uptoBulkAll elems + uptoBulkAll spare + 1
  | .agg parts => uptoBulkAll parts + 1
  | .iface _ d => uptoBulk d + 1
  | .map entries => uptoBulkEntries entries + 1
  | .held _ => 1
def uptoBulkAll {H : Type} : List (DataW H) → Nat
  | [] => 0
  | d :: r => uptoBulk d + uptoBulkAll r
def uptoBulkEntries {H : Type} : List (Lit × DataW H) → Nat
  | [] => 0
  | x :: r => uptoBulkEntry x + uptoBulkEntries r
def uptoBulkEntry {H : Type} : Lit × DataW H → Nat
  | (.string bytes, d) => bytes.length + uptoBulk d + 1
  | (_, d) => uptoBulk d + 1
 end
def uptoSmall : (H : Type) → List (DataW H) → Bool := fun _ ds => decide (uptoBulkAll ds ≤ 1048576)
def OpenSpec.upto (s : _root_.Go.ChangeSpec) : _root_.Go.OpenSpec := { _root_.Go.OpenSpec.ofChange s with cond := some uptoSmall }

/-- 'copydesklaw06.AccessOutLeast', WHERE WHAT IT READS IS OF BULK AT MOST 1048576: true; the input reads as it did. -/
def accessOutLeastUptoRow : OpenClaim := { program := "ytgbihmafmmeicaagreatdoor", sum := "150378b96cba09d113e170cd056935a1db7e75722c19083d721decf498ccefa1", func := "copydesk/copydesklaw06.AccessOutLeast", spec := "accessOutLeast", inPlace := ["internal/bytealg.IndexByteString", "internal/bytealg.IndexString", "internal/abi.NoEscape", "internal/bytealg.MakeNoZero"], unfollowed := true, recurses := true, named := ["unicode/utf8.first", "unicode/utf8.acceptRanges", "internal/bytealg.MaxLen"], plainKeys := false, apart := false, laid := [("unicode/utf8.acceptRanges", laid_unicode_utf8_acceptRanges), ("unicode/utf8.first", laid_unicode_utf8_first)], narrowed := true }
def AccessOutLeastUptoSaid : Prop := accessOutLeastUptoRow.holds Tryz.pinned (OpenSpec.upto accessOutLeastSpec)

/-- 'copydesklaw06.AccessOutGrows', WHERE WHAT IT READS IS OF BULK AT MOST 1048576: true; the input reads as it did. -/
def accessOutGrowsUptoRow : OpenClaim := { program := "ytgbihmafmmeicaagreatdoor", sum := "150378b96cba09d113e170cd056935a1db7e75722c19083d721decf498ccefa1", func := "copydesk/copydesklaw06.AccessOutGrows", spec := "accessOutGrows", inPlace := ["internal/bytealg.IndexByteString", "internal/bytealg.IndexString", "internal/abi.NoEscape", "internal/bytealg.MakeNoZero"], unfollowed := true, recurses := true, named := ["unicode/utf8.first", "unicode/utf8.acceptRanges", "internal/bytealg.MaxLen"], plainKeys := false, apart := false, laid := [("unicode/utf8.acceptRanges", laid_unicode_utf8_acceptRanges), ("unicode/utf8.first", laid_unicode_utf8_first)], narrowed := true }
def AccessOutGrowsUptoSaid : Prop := accessOutGrowsUptoRow.holds Tryz.pinned (OpenSpec.upto accessOutGrowsSpec)

/-- 'copydesklaw06.AccessHides', WHERE WHAT IT READS IS OF BULK AT MOST 1048576: true; the input reads as it did. -/
def accessHidesUptoRow : OpenClaim := { program := "ytgbihmafmmeicaagreatdoor", sum := "150378b96cba09d113e170cd056935a1db7e75722c19083d721decf498ccefa1", func := "copydesk/copydesklaw06.AccessHides", spec := "accessHides", inPlace := ["internal/bytealg.IndexByteString", "internal/bytealg.IndexString", "internal/abi.NoEscape", "internal/bytealg.MakeNoZero"], unfollowed := true, recurses := true, named := ["unicode/utf8.first", "unicode/utf8.acceptRanges", "internal/bytealg.MaxLen"], plainKeys := false, apart := false, laid := [("unicode/utf8.acceptRanges", laid_unicode_utf8_acceptRanges), ("unicode/utf8.first", laid_unicode_utf8_first)], narrowed := true }
def AccessHidesUptoSaid : Prop := accessHidesUptoRow.holds Tryz.pinned (OpenSpec.upto accessHidesSpec)

/-- 'copydesklaw06.AccessStable', WHERE WHAT IT READS IS OF BULK AT MOST 1048576: true; the input reads as it did. -/
def accessStableUptoRow : OpenClaim := { program := "ytgbihmafmmeicaagreatdoor", sum := "150378b96cba09d113e170cd056935a1db7e75722c19083d721decf498ccefa1", func := "copydesk/copydesklaw06.AccessStable", spec := "accessStable", inPlace := ["internal/bytealg.IndexByteString", "internal/bytealg.IndexString", "internal/abi.NoEscape", "internal/bytealg.MakeNoZero"], unfollowed := true, recurses := true, named := ["unicode/utf8.first", "unicode/utf8.acceptRanges", "internal/bytealg.MaxLen"], plainKeys := false, apart := false, laid := [("unicode/utf8.acceptRanges", laid_unicode_utf8_acceptRanges), ("unicode/utf8.first", laid_unicode_utf8_first)], narrowed := true }
def AccessStableUptoSaid : Prop := accessStableUptoRow.holds Tryz.pinned (OpenSpec.upto accessStableSpec)

/-- 'copydesklaw06.AccessRedacted', WHERE WHAT IT READS IS OF BULK AT MOST 1048576: true; the input reads as it did. -/
def accessRedactedUptoRow : OpenClaim := { program := "ytgbihmafmmeicaagreatdoor", sum := "150378b96cba09d113e170cd056935a1db7e75722c19083d721decf498ccefa1", func := "copydesk/copydesklaw06.AccessRedacted", spec := "accessRedacted", inPlace := ["internal/bytealg.IndexByteString", "internal/bytealg.IndexString", "internal/abi.NoEscape", "internal/bytealg.MakeNoZero"], unfollowed := true, recurses := true, named := ["unicode/utf8.first", "unicode/utf8.acceptRanges", "internal/bytealg.MaxLen"], plainKeys := false, apart := false, laid := [("unicode/utf8.acceptRanges", laid_unicode_utf8_acceptRanges), ("unicode/utf8.first", laid_unicode_utf8_first)], narrowed := true }
def AccessRedactedUptoSaid : Prop := accessRedactedUptoRow.holds Tryz.pinned (OpenSpec.upto accessRedactedSpec)

/-- 'copydesklaw06.AccessTaken', WHERE WHAT IT READS IS OF BULK AT MOST 1048576: true; the input reads as it did. -/
def accessTakenUptoRow : OpenClaim := { program := "ytgbihmafmmeicaagreatdoor", sum := "150378b96cba09d113e170cd056935a1db7e75722c19083d721decf498ccefa1", func := "copydesk/copydesklaw06.AccessTaken", spec := "accessTaken", inPlace := ["internal/bytealg.IndexByteString", "internal/bytealg.IndexString", "internal/abi.NoEscape", "internal/bytealg.MakeNoZero"], unfollowed := true, recurses := true, named := ["unicode/utf8.first", "unicode/utf8.acceptRanges", "internal/bytealg.MaxLen"], plainKeys := false, apart := false, laid := [("unicode/utf8.acceptRanges", laid_unicode_utf8_acceptRanges), ("unicode/utf8.first", laid_unicode_utf8_first)], narrowed := true }
def AccessTakenUptoSaid : Prop := accessTakenUptoRow.holds Tryz.pinned (OpenSpec.upto accessTakenSpec)

/-- 'copydesklaw06.AccessMemory', WHERE WHAT IT READS IS OF BULK AT MOST 1048576: true; the input reads as it did. -/
def accessMemoryUptoRow : OpenClaim := { program := "ytgbihmafmmeicaagreatdoor", sum := "150378b96cba09d113e170cd056935a1db7e75722c19083d721decf498ccefa1", func := "copydesk/copydesklaw06.AccessMemory", spec := "accessMemory", inPlace := ["internal/bytealg.IndexByteString", "internal/bytealg.IndexString", "internal/abi.NoEscape", "internal/bytealg.MakeNoZero"], unfollowed := true, recurses := true, named := ["unicode/utf8.first", "unicode/utf8.acceptRanges", "internal/bytealg.MaxLen"], plainKeys := false, apart := false, laid := [("unicode/utf8.acceptRanges", laid_unicode_utf8_acceptRanges), ("unicode/utf8.first", laid_unicode_utf8_first)], narrowed := true }
def AccessMemoryUptoSaid : Prop := accessMemoryUptoRow.holds Tryz.pinned (OpenSpec.upto accessMemorySpec)

end Rows
end Go.Proofs.YtgbihmafmmeicaaGreatDoor
