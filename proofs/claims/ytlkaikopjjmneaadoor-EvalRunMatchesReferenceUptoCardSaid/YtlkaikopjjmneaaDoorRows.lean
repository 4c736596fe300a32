/-
  NARROWER THAN 'FOR EVERY INPUT', by the rows' own cells (each row's printed sentence says how): EvalRunMatchesReference: loops, laid · EvalFilterMatchesReference: laid · EvalConcatenation: loops, laid · EvalLoop: loops, laid · EvalChoice: loops, laid · EvalReplay: loops, laid · EvalBounded: loops, laid · EvalSteps: laid · EvalInclusions: laid · EvalFiltersAgain: laid · EvalFilterShapes: laid.
  DERIVED. THE GIVEN ROWS OF THIS SEAT. 11 by the template 'for every input the law returns true; each argument reads behind the call as it read before'; 0 by the template 'total and deterministic' (their statements: YtlkaikopjjmneaaDoorTotals.lean).
  GIVEN WITH THE SEED: the statements are not yours to turn. If you find one false, say at which input.
  Laid BY PROGRAM, IN A SANDBOX (cutbox-rows.mjs): the forced cells as the released guide's own fill.sh prints them over the translation 9044368505ef1c38… (all of the seat's roots in one cut). By AI agents, Wed Nov 11 2026. No macro, syntax, notation, axiom, sorry.
-/
import Derived.Test.YtlkaikopjjmneaaDoorChecked
import GoSem.PinnedTables
import GoSem.Claim
import GoSem.ClaimJoined
import GoSem.ClaimMapViews
import Derived.JoinedTies
import Derived.KernelRfl
namespace Go.Proofs.YtlkaikopjjmneaaDoor
/- THE CELL 'sum', in the pinned program and in every row, IS THE sha256 OF THE DUMP (.gsa) THAT YtlkaikopjjmneaaDoorProg.lean LOADS. Nothing in Lean hashes anything: it is a label: what it is worth is what the hold of that sum in a sandbox is worth. -/
noncomputable def Tryd.pinned : Pinned := { name := "ytlkaikopjjmneaadoor", sum := "9044368505ef1c38e2269f2c3d958527b67660fc459d4d4a3330dcb1e5006dce", checked := Tryd.checked }
namespace Rows
def none {H : Type} : Left H := { results := [], args := [] }

/- WHAT THE LISTED PACKAGE-LEVEL VARIABLES READ AS WHEN THE CALL BEGINS. Each datum BY PROGRAM (the guide's laid-datum.mjs) off the statement by which the dump's own 'gosem.cut.vars' lays the variable. In a bare row this is a premise. The card (YtlkaikopjjmneaaDoorCards.lean) ties it to the program's text. -/
def laid_math_bits_deBruijn32tab {H : Type} : DataW H := .agg [.lit (.int .u8 0), .lit (.int .u8 1), .lit (.int .u8 28), .lit (.int .u8 2), .lit (.int .u8 29), .lit (.int .u8 14), .lit (.int .u8 24), .lit (.int .u8 3), .lit (.int .u8 30), .lit (.int .u8 22), .lit (.int .u8 20), .lit (.int .u8 15), .lit (.int .u8 25), .lit (.int .u8 17), .lit (.int .u8 4), .lit (.int .u8 8), .lit (.int .u8 31), .lit (.int .u8 27), .lit (.int .u8 13), .lit (.int .u8 23), .lit (.int .u8 21), .lit (.int .u8 19), .lit (.int .u8 16), .lit (.int .u8 7), .lit (.int .u8 26), .lit (.int .u8 12), .lit (.int .u8 18), .lit (.int .u8 6), .lit (.int .u8 11), .lit (.int .u8 5), .lit (.int .u8 10), .lit (.int .u8 9)]
def laid_math_bits_deBruijn64tab {H : Type} : DataW H := .agg [.lit (.int .u8 0), .lit (.int .u8 1), .lit (.int .u8 56), .lit (.int .u8 2), .lit (.int .u8 57), .lit (.int .u8 49), .lit (.int .u8 28), .lit (.int .u8 3), .lit (.int .u8 61), .lit (.int .u8 58), .lit (.int .u8 42), .lit (.int .u8 50), .lit (.int .u8 38), .lit (.int .u8 29), .lit (.int .u8 17), .lit (.int .u8 4), .lit (.int .u8 62), .lit (.int .u8 47), .lit (.int .u8 59), .lit (.int .u8 36), .lit (.int .u8 45), .lit (.int .u8 43), .lit (.int .u8 51), .lit (.int .u8 22), .lit (.int .u8 53), .lit (.int .u8 39), .lit (.int .u8 33), .lit (.int .u8 30), .lit (.int .u8 24), .lit (.int .u8 18), .lit (.int .u8 12), .lit (.int .u8 5), .lit (.int .u8 63), .lit (.int .u8 55), .lit (.int .u8 48), .lit (.int .u8 27), .lit (.int .u8 60), .lit (.int .u8 41), .lit (.int .u8 37), .lit (.int .u8 16), .lit (.int .u8 46), .lit (.int .u8 35), .lit (.int .u8 44), .lit (.int .u8 21), .lit (.int .u8 52), .lit (.int .u8 32), .lit (.int .u8 23), .lit (.int .u8 11), .lit (.int .u8 54), .lit (.int .u8 26), .lit (.int .u8 40), .lit (.int .u8 15), .lit (.int .u8 34), .lit (.int .u8 20), .lit (.int .u8 31), .lit (.int .u8 10), .lit (.int .u8 25), .lit (.int .u8 14), .lit (.int .u8 19), .lit (.int .u8 9), .lit (.int .u8 13), .lit (.int .u8 8), .lit (.int .u8 7), .lit (.int .u8 6)]
def laid_internal_strconv_uint64pow10 {H : Type} : DataW H := .agg [.lit (.int .u64 1), .lit (.int .u64 10), .lit (.int .u64 100), .lit (.int .u64 1000), .lit (.int .u64 10000), .lit (.int .u64 100000), .lit (.int .u64 1000000), .lit (.int .u64 10000000), .lit (.int .u64 100000000), .lit (.int .u64 1000000000), .lit (.int .u64 10000000000), .lit (.int .u64 100000000000), .lit (.int .u64 1000000000000), .lit (.int .u64 10000000000000), .lit (.int .u64 100000000000000), .lit (.int .u64 1000000000000000), .lit (.int .u64 10000000000000000), .lit (.int .u64 100000000000000000), .lit (.int .u64 1000000000000000000), .lit (.int .u64 10000000000000000000)]
def laid_unicode_utf8_acceptRanges {H : Type} : DataW H := .agg [.agg [.lit (.int .u8 128), .lit (.int .u8 191)], .agg [.lit (.int .u8 160), .lit (.int .u8 191)], .agg [.lit (.int .u8 128), .lit (.int .u8 159)], .agg [.lit (.int .u8 144), .lit (.int .u8 191)], .agg [.lit (.int .u8 128), .lit (.int .u8 143)], .agg [.lit (.int .u8 0), .lit (.int .u8 0)], .agg [.lit (.int .u8 0), .lit (.int .u8 0)], .agg [.lit (.int .u8 0), .lit (.int .u8 0)], .agg [.lit (.int .u8 0), .lit (.int .u8 0)], .agg [.lit (.int .u8 0), .lit (.int .u8 0)], .agg [.lit (.int .u8 0), .lit (.int .u8 0)], .agg [.lit (.int .u8 0), .lit (.int .u8 0)], .agg [.lit (.int .u8 0), .lit (.int .u8 0)], .agg [.lit (.int .u8 0), .lit (.int .u8 0)], .agg [.lit (.int .u8 0), .lit (.int .u8 0)], .agg [.lit (.int .u8 0), .lit (.int .u8 0)]]
/-- One of Go's own tables, pinned by name: the form's constant. -/
def laid_unicode_utf8_first : DataW Unit := Go.Pinned.utf8First

/-- 'copydesklaw11.EvalRunMatchesReference': WHATEVER THE INPUT: true; the input reads as it did. -/
def evalRunMatchesReferenceSpec : ChangeSpec := { name := "evalRunMatchesReference", fn := fun _ => fun
  | [d1, d2, d3] => { results := [.lit (.bool true)], args := [d1, d2, d3] }
  | _ => none }
def evalRunMatchesReferenceRow : OpenClaim := { program := "ytlkaikopjjmneaadoor", sum := "9044368505ef1c38e2269f2c3d958527b67660fc459d4d4a3330dcb1e5006dce", func := "copydesk/copydesklaw11.EvalRunMatchesReference", spec := "evalRunMatchesReference", inPlace := ["internal/bytealg.IndexByteString", "internal/bytealg.IndexString"], unfollowed := true, recurses := true, named := ["unicode/utf8.first", "unicode/utf8.acceptRanges", "internal/strconv.uint64pow10", "math/bits.deBruijn32tab", "math/bits.deBruijn64tab", "internal/bytealg.MaxLen"], loops := true, apart := false, laid := [("math/bits.deBruijn32tab", laid_math_bits_deBruijn32tab), ("math/bits.deBruijn64tab", laid_math_bits_deBruijn64tab), ("internal/strconv.uint64pow10", laid_internal_strconv_uint64pow10), ("unicode/utf8.acceptRanges", laid_unicode_utf8_acceptRanges), ("unicode/utf8.first", laid_unicode_utf8_first)] }
def EvalRunMatchesReferenceSaid : Prop := evalRunMatchesReferenceRow.holds Tryd.pinned (OpenSpec.ofChange evalRunMatchesReferenceSpec)

/-- ITS FALSE NEIGHBOUR: 'it returns false'. Refute it at one input. -/
def evalRunMatchesReferenceWrong : ChangeSpec := { name := "evalRunMatchesReference", fn := fun _ => fun
  | [d1, d2, d3] => { results := [.lit (.bool false)], args := [d1, d2, d3] }
  | _ => none }
def EvalRunMatchesReferenceWrongFalsely : Prop := evalRunMatchesReferenceRow.holds Tryd.pinned (OpenSpec.ofChange evalRunMatchesReferenceWrong)

/-- 'copydesklaw11.EvalFilterMatchesReference': WHATEVER THE INPUT: true; the input reads as it did. -/
def evalFilterMatchesReferenceSpec : ChangeSpec := { name := "evalFilterMatchesReference", fn := fun _ => fun
  | [d1, d2] => { results := [.lit (.bool true)], args := [d1, d2] }
  | _ => none }
def evalFilterMatchesReferenceRow : OpenClaim := { program := "ytlkaikopjjmneaadoor", sum := "9044368505ef1c38e2269f2c3d958527b67660fc459d4d4a3330dcb1e5006dce", func := "copydesk/copydesklaw11.EvalFilterMatchesReference", spec := "evalFilterMatchesReference", inPlace := ["internal/bytealg.IndexByteString", "internal/bytealg.IndexString"], unfollowed := true, recurses := true, named := ["unicode/utf8.first", "unicode/utf8.acceptRanges", "internal/strconv.uint64pow10", "math/bits.deBruijn32tab", "math/bits.deBruijn64tab", "internal/bytealg.MaxLen"], apart := false, laid := [("math/bits.deBruijn32tab", laid_math_bits_deBruijn32tab), ("math/bits.deBruijn64tab", laid_math_bits_deBruijn64tab), ("internal/strconv.uint64pow10", laid_internal_strconv_uint64pow10), ("unicode/utf8.acceptRanges", laid_unicode_utf8_acceptRanges), ("unicode/utf8.first", laid_unicode_utf8_first)] }
def EvalFilterMatchesReferenceSaid : Prop := evalFilterMatchesReferenceRow.holds Tryd.pinned (OpenSpec.ofChange evalFilterMatchesReferenceSpec)

/-- ITS FALSE NEIGHBOUR: 'it returns false'. Refute it at one input. -/
def evalFilterMatchesReferenceWrong : ChangeSpec := { name := "evalFilterMatchesReference", fn := fun _ => fun
  | [d1, d2] => { results := [.lit (.bool false)], args := [d1, d2] }
  | _ => none }
def EvalFilterMatchesReferenceWrongFalsely : Prop := evalFilterMatchesReferenceRow.holds Tryd.pinned (OpenSpec.ofChange evalFilterMatchesReferenceWrong)

/-- 'copydesklaw11.EvalConcatenation': WHATEVER THE INPUT: true; the input reads as it did. -/
def evalConcatenationSpec : ChangeSpec := { name := "evalConcatenation", fn := fun _ => fun
  | [d1, d2, d3, d4] => { results := [.lit (.bool true)], args := [d1, d2, d3, d4] }
  | _ => none }
def evalConcatenationRow : OpenClaim := { program := "ytlkaikopjjmneaadoor", sum := "9044368505ef1c38e2269f2c3d958527b67660fc459d4d4a3330dcb1e5006dce", func := "copydesk/copydesklaw11.EvalConcatenation", spec := "evalConcatenation", inPlace := ["internal/bytealg.IndexByteString", "internal/bytealg.IndexString"], unfollowed := true, recurses := true, named := ["unicode/utf8.first", "unicode/utf8.acceptRanges", "internal/strconv.uint64pow10", "math/bits.deBruijn32tab", "math/bits.deBruijn64tab", "internal/bytealg.MaxLen"], loops := true, apart := false, laid := [("math/bits.deBruijn32tab", laid_math_bits_deBruijn32tab), ("math/bits.deBruijn64tab", laid_math_bits_deBruijn64tab), ("internal/strconv.uint64pow10", laid_internal_strconv_uint64pow10), ("unicode/utf8.acceptRanges", laid_unicode_utf8_acceptRanges), ("unicode/utf8.first", laid_unicode_utf8_first)] }
def EvalConcatenationSaid : Prop := evalConcatenationRow.holds Tryd.pinned (OpenSpec.ofChange evalConcatenationSpec)

/-- ITS FALSE NEIGHBOUR: 'it returns false'. Refute it at one input. -/
def evalConcatenationWrong : ChangeSpec := { name := "evalConcatenation", fn := fun _ => fun
  | [d1, d2, d3, d4] => { results := [.lit (.bool false)], args := [d1, d2, d3, d4] }
  | _ => none }
def EvalConcatenationWrongFalsely : Prop := evalConcatenationRow.holds Tryd.pinned (OpenSpec.ofChange evalConcatenationWrong)

/-- 'copydesklaw11.EvalLoop': WHATEVER THE INPUT: true; the input reads as it did. -/
def evalLoopSpec : ChangeSpec := { name := "evalLoop", fn := fun _ => fun
  | [d1, d2, d3, d4] => { results := [.lit (.bool true)], args := [d1, d2, d3, d4] }
  | _ => none }
def evalLoopRow : OpenClaim := { program := "ytlkaikopjjmneaadoor", sum := "9044368505ef1c38e2269f2c3d958527b67660fc459d4d4a3330dcb1e5006dce", func := "copydesk/copydesklaw11.EvalLoop", spec := "evalLoop", inPlace := ["internal/bytealg.IndexByteString", "internal/bytealg.IndexString"], unfollowed := true, recurses := true, named := ["unicode/utf8.first", "unicode/utf8.acceptRanges", "internal/strconv.uint64pow10", "math/bits.deBruijn32tab", "math/bits.deBruijn64tab", "internal/bytealg.MaxLen"], loops := true, apart := false, laid := [("math/bits.deBruijn32tab", laid_math_bits_deBruijn32tab), ("math/bits.deBruijn64tab", laid_math_bits_deBruijn64tab), ("internal/strconv.uint64pow10", laid_internal_strconv_uint64pow10), ("unicode/utf8.acceptRanges", laid_unicode_utf8_acceptRanges), ("unicode/utf8.first", laid_unicode_utf8_first)] }
def EvalLoopSaid : Prop := evalLoopRow.holds Tryd.pinned (OpenSpec.ofChange evalLoopSpec)

/-- ITS FALSE NEIGHBOUR: 'it returns false'. Refute it at one input. -/
def evalLoopWrong : ChangeSpec := { name := "evalLoop", fn := fun _ => fun
  | [d1, d2, d3, d4] => { results := [.lit (.bool false)], args := [d1, d2, d3, d4] }
  | _ => none }
def EvalLoopWrongFalsely : Prop := evalLoopRow.holds Tryd.pinned (OpenSpec.ofChange evalLoopWrong)

/-- 'copydesklaw11.EvalChoice': WHATEVER THE INPUT: true; the input reads as it did. -/
def evalChoiceSpec : ChangeSpec := { name := "evalChoice", fn := fun _ => fun
  | [d1, d2, d3, d4, d5] => { results := [.lit (.bool true)], args := [d1, d2, d3, d4, d5] }
  | _ => none }
def evalChoiceRow : OpenClaim := { program := "ytlkaikopjjmneaadoor", sum := "9044368505ef1c38e2269f2c3d958527b67660fc459d4d4a3330dcb1e5006dce", func := "copydesk/copydesklaw11.EvalChoice", spec := "evalChoice", inPlace := ["internal/bytealg.IndexByteString", "internal/bytealg.IndexString"], unfollowed := true, recurses := true, named := ["unicode/utf8.first", "unicode/utf8.acceptRanges", "internal/strconv.uint64pow10", "math/bits.deBruijn32tab", "math/bits.deBruijn64tab", "internal/bytealg.MaxLen"], loops := true, apart := false, laid := [("math/bits.deBruijn32tab", laid_math_bits_deBruijn32tab), ("math/bits.deBruijn64tab", laid_math_bits_deBruijn64tab), ("internal/strconv.uint64pow10", laid_internal_strconv_uint64pow10), ("unicode/utf8.acceptRanges", laid_unicode_utf8_acceptRanges), ("unicode/utf8.first", laid_unicode_utf8_first)] }
def EvalChoiceSaid : Prop := evalChoiceRow.holds Tryd.pinned (OpenSpec.ofChange evalChoiceSpec)

/-- ITS FALSE NEIGHBOUR: 'it returns false'. Refute it at one input. -/
def evalChoiceWrong : ChangeSpec := { name := "evalChoice", fn := fun _ => fun
  | [d1, d2, d3, d4, d5] => { results := [.lit (.bool false)], args := [d1, d2, d3, d4, d5] }
  | _ => none }
def EvalChoiceWrongFalsely : Prop := evalChoiceRow.holds Tryd.pinned (OpenSpec.ofChange evalChoiceWrong)

/-- 'copydesklaw11.EvalReplay': WHATEVER THE INPUT: true; the input reads as it did. -/
def evalReplaySpec : ChangeSpec := { name := "evalReplay", fn := fun _ => fun
  | [d1, d2, d3] => { results := [.lit (.bool true)], args := [d1, d2, d3] }
  | _ => none }
def evalReplayRow : OpenClaim := { program := "ytlkaikopjjmneaadoor", sum := "9044368505ef1c38e2269f2c3d958527b67660fc459d4d4a3330dcb1e5006dce", func := "copydesk/copydesklaw11.EvalReplay", spec := "evalReplay", inPlace := ["internal/bytealg.IndexByteString", "internal/bytealg.IndexString"], unfollowed := true, recurses := true, named := ["unicode/utf8.first", "unicode/utf8.acceptRanges", "internal/strconv.uint64pow10", "math/bits.deBruijn32tab", "math/bits.deBruijn64tab", "internal/bytealg.MaxLen"], loops := true, apart := false, laid := [("math/bits.deBruijn32tab", laid_math_bits_deBruijn32tab), ("math/bits.deBruijn64tab", laid_math_bits_deBruijn64tab), ("internal/strconv.uint64pow10", laid_internal_strconv_uint64pow10), ("unicode/utf8.acceptRanges", laid_unicode_utf8_acceptRanges), ("unicode/utf8.first", laid_unicode_utf8_first)] }
def EvalReplaySaid : Prop := evalReplayRow.holds Tryd.pinned (OpenSpec.ofChange evalReplaySpec)

/-- ITS FALSE NEIGHBOUR: 'it returns false'. Refute it at one input. -/
def evalReplayWrong : ChangeSpec := { name := "evalReplay", fn := fun _ => fun
  | [d1, d2, d3] => { results := [.lit (.bool false)], args := [d1, d2, d3] }
  | _ => none }
def EvalReplayWrongFalsely : Prop := evalReplayRow.holds Tryd.pinned (OpenSpec.ofChange evalReplayWrong)

/-- 'copydesklaw11.EvalBounded': WHATEVER THE INPUT: true; the input reads as it did. -/
def evalBoundedSpec : ChangeSpec := { name := "evalBounded", fn := fun _ => fun
  | [d1, d2, d3, d4] => { results := [.lit (.bool true)], args := [d1, d2, d3, d4] }
  | _ => none }
def evalBoundedRow : OpenClaim := { program := "ytlkaikopjjmneaadoor", sum := "9044368505ef1c38e2269f2c3d958527b67660fc459d4d4a3330dcb1e5006dce", func := "copydesk/copydesklaw11.EvalBounded", spec := "evalBounded", inPlace := ["internal/bytealg.IndexByteString", "internal/bytealg.IndexString"], unfollowed := true, recurses := true, named := ["unicode/utf8.first", "unicode/utf8.acceptRanges", "internal/strconv.uint64pow10", "math/bits.deBruijn32tab", "math/bits.deBruijn64tab", "internal/bytealg.MaxLen"], loops := true, apart := false, laid := [("math/bits.deBruijn32tab", laid_math_bits_deBruijn32tab), ("math/bits.deBruijn64tab", laid_math_bits_deBruijn64tab), ("internal/strconv.uint64pow10", laid_internal_strconv_uint64pow10), ("unicode/utf8.acceptRanges", laid_unicode_utf8_acceptRanges), ("unicode/utf8.first", laid_unicode_utf8_first)] }
def EvalBoundedSaid : Prop := evalBoundedRow.holds Tryd.pinned (OpenSpec.ofChange evalBoundedSpec)

/-- ITS FALSE NEIGHBOUR: 'it returns false'. Refute it at one input. -/
def evalBoundedWrong : ChangeSpec := { name := "evalBounded", fn := fun _ => fun
  | [d1, d2, d3, d4] => { results := [.lit (.bool false)], args := [d1, d2, d3, d4] }
  | _ => none }
def EvalBoundedWrongFalsely : Prop := evalBoundedRow.holds Tryd.pinned (OpenSpec.ofChange evalBoundedWrong)

/-- 'copydesklaw11.EvalSteps': WHATEVER THE INPUT: true; the input reads as it did. -/
def evalStepsSpec : ChangeSpec := { name := "evalSteps", fn := fun _ => fun
  | [d1, d2] => { results := [.lit (.bool true)], args := [d1, d2] }
  | _ => none }
def evalStepsRow : OpenClaim := { program := "ytlkaikopjjmneaadoor", sum := "9044368505ef1c38e2269f2c3d958527b67660fc459d4d4a3330dcb1e5006dce", func := "copydesk/copydesklaw11.EvalSteps", spec := "evalSteps", inPlace := ["internal/bytealg.IndexByteString", "internal/bytealg.IndexString"], unfollowed := true, recurses := true, named := ["unicode/utf8.first", "unicode/utf8.acceptRanges", "internal/strconv.uint64pow10", "math/bits.deBruijn32tab", "math/bits.deBruijn64tab", "internal/bytealg.MaxLen"], apart := false, laid := [("math/bits.deBruijn32tab", laid_math_bits_deBruijn32tab), ("math/bits.deBruijn64tab", laid_math_bits_deBruijn64tab), ("internal/strconv.uint64pow10", laid_internal_strconv_uint64pow10), ("unicode/utf8.acceptRanges", laid_unicode_utf8_acceptRanges), ("unicode/utf8.first", laid_unicode_utf8_first)] }
def EvalStepsSaid : Prop := evalStepsRow.holds Tryd.pinned (OpenSpec.ofChange evalStepsSpec)

/-- ITS FALSE NEIGHBOUR: 'it returns false'. Refute it at one input. -/
def evalStepsWrong : ChangeSpec := { name := "evalSteps", fn := fun _ => fun
  | [d1, d2] => { results := [.lit (.bool false)], args := [d1, d2] }
  | _ => none }
def EvalStepsWrongFalsely : Prop := evalStepsRow.holds Tryd.pinned (OpenSpec.ofChange evalStepsWrong)

/-- 'copydesklaw11.EvalInclusions': WHATEVER THE INPUT: true; the input reads as it did. -/
def evalInclusionsSpec : ChangeSpec := { name := "evalInclusions", fn := fun _ => fun
  | [d1, d2] => { results := [.lit (.bool true)], args := [d1, d2] }
  | _ => none }
def evalInclusionsRow : OpenClaim := { program := "ytlkaikopjjmneaadoor", sum := "9044368505ef1c38e2269f2c3d958527b67660fc459d4d4a3330dcb1e5006dce", func := "copydesk/copydesklaw11.EvalInclusions", spec := "evalInclusions", inPlace := ["internal/bytealg.IndexByteString", "internal/bytealg.IndexString"], unfollowed := true, recurses := true, named := ["unicode/utf8.first", "unicode/utf8.acceptRanges", "internal/strconv.uint64pow10", "math/bits.deBruijn32tab", "math/bits.deBruijn64tab", "internal/bytealg.MaxLen"], apart := false, laid := [("math/bits.deBruijn32tab", laid_math_bits_deBruijn32tab), ("math/bits.deBruijn64tab", laid_math_bits_deBruijn64tab), ("internal/strconv.uint64pow10", laid_internal_strconv_uint64pow10), ("unicode/utf8.acceptRanges", laid_unicode_utf8_acceptRanges), ("unicode/utf8.first", laid_unicode_utf8_first)] }
def EvalInclusionsSaid : Prop := evalInclusionsRow.holds Tryd.pinned (OpenSpec.ofChange evalInclusionsSpec)

/-- ITS FALSE NEIGHBOUR: 'it returns false'. Refute it at one input. -/
def evalInclusionsWrong : ChangeSpec := { name := "evalInclusions", fn := fun _ => fun
  | [d1, d2] => { results := [.lit (.bool false)], args := [d1, d2] }
  | _ => none }
def EvalInclusionsWrongFalsely : Prop := evalInclusionsRow.holds Tryd.pinned (OpenSpec.ofChange evalInclusionsWrong)

/-- 'copydesklaw11.EvalFiltersAgain': WHATEVER THE INPUT: true; the input reads as it did. -/
def evalFiltersAgainSpec : ChangeSpec := { name := "evalFiltersAgain", fn := fun _ => fun
  | [d] => { results := [.lit (.bool true)], args := [d] }
  | _ => none }
def evalFiltersAgainRow : OpenClaim := { program := "ytlkaikopjjmneaadoor", sum := "9044368505ef1c38e2269f2c3d958527b67660fc459d4d4a3330dcb1e5006dce", func := "copydesk/copydesklaw11.EvalFiltersAgain", spec := "evalFiltersAgain", inPlace := ["internal/bytealg.IndexByteString", "internal/bytealg.IndexString"], unfollowed := true, recurses := true, named := ["unicode/utf8.first", "unicode/utf8.acceptRanges", "internal/strconv.uint64pow10", "math/bits.deBruijn32tab", "math/bits.deBruijn64tab", "internal/bytealg.MaxLen"], apart := false, laid := [("math/bits.deBruijn32tab", laid_math_bits_deBruijn32tab), ("math/bits.deBruijn64tab", laid_math_bits_deBruijn64tab), ("internal/strconv.uint64pow10", laid_internal_strconv_uint64pow10), ("unicode/utf8.acceptRanges", laid_unicode_utf8_acceptRanges), ("unicode/utf8.first", laid_unicode_utf8_first)] }
def EvalFiltersAgainSaid : Prop := evalFiltersAgainRow.holds Tryd.pinned (OpenSpec.ofChange evalFiltersAgainSpec)

/-- ITS FALSE NEIGHBOUR: 'it returns false'. Refute it at one input. -/
def evalFiltersAgainWrong : ChangeSpec := { name := "evalFiltersAgain", fn := fun _ => fun
  | [d] => { results := [.lit (.bool false)], args := [d] }
  | _ => none }
def EvalFiltersAgainWrongFalsely : Prop := evalFiltersAgainRow.holds Tryd.pinned (OpenSpec.ofChange evalFiltersAgainWrong)

/-- 'copydesklaw11.EvalFilterShapes': WHATEVER THE INPUT: true; the input reads as it did. -/
def evalFilterShapesSpec : ChangeSpec := { name := "evalFilterShapes", fn := fun _ => fun
  | [d] => { results := [.lit (.bool true)], args := [d] }
  | _ => none }
def evalFilterShapesRow : OpenClaim := { program := "ytlkaikopjjmneaadoor", sum := "9044368505ef1c38e2269f2c3d958527b67660fc459d4d4a3330dcb1e5006dce", func := "copydesk/copydesklaw11.EvalFilterShapes", spec := "evalFilterShapes", inPlace := ["internal/bytealg.IndexByteString", "internal/bytealg.IndexString"], unfollowed := true, recurses := true, named := ["unicode/utf8.first", "unicode/utf8.acceptRanges", "internal/strconv.uint64pow10", "math/bits.deBruijn32tab", "math/bits.deBruijn64tab", "internal/bytealg.MaxLen"], apart := false, laid := [("math/bits.deBruijn32tab", laid_math_bits_deBruijn32tab), ("math/bits.deBruijn64tab", laid_math_bits_deBruijn64tab), ("internal/strconv.uint64pow10", laid_internal_strconv_uint64pow10), ("unicode/utf8.acceptRanges", laid_unicode_utf8_acceptRanges), ("unicode/utf8.first", laid_unicode_utf8_first)] }
def EvalFilterShapesSaid : Prop := evalFilterShapesRow.holds Tryd.pinned (OpenSpec.ofChange evalFilterShapesSpec)

/-- ITS FALSE NEIGHBOUR: 'it returns false'. Refute it at one input. -/
def evalFilterShapesWrong : ChangeSpec := { name := "evalFilterShapes", fn := fun _ => fun
  | [d] => { results := [.lit (.bool false)], args := [d] }
  | _ => none }
def EvalFilterShapesWrongFalsely : Prop := evalFilterShapesRow.holds Tryd.pinned (OpenSpec.ofChange evalFilterShapesWrong)

/- THE SECOND FORM. 'bulk': how many values and letters a reading holds, each counted each time it is reached (what is shared counts as often as it is met; a slice's spare places count too). A statement '..UptoSaid' is the law's where the arguments, and the package variables that the reading takes, are together of bulk at most 1048576: NARROWER than '..Said'. Prove '..Said' where nothing that the law and all that it calls make is longer than what came in: it says more and counts as full. Else prove '..UptoSaid'. A law counts once. -/
mutual
def uptoBulk {H : Type} : DataW H → Nat
  | .lit (.string bytes) => bytes.length + 1
  | .lit _ => 1
  | .nil => 1
  | .ptr d => uptoBulk d + 1
  | .slice elems spare => uptoBulkAll elems + uptoBulkAll spare + 1
  | .agg parts => uptoBulkAll parts + 1
  | .iface _ d => uptoBulk d + 1
  | .map entries => uptoBulkEntries entries + 1
  | .held _ => 1
def uptoBulkAll {H : Type} : List (DataW H) → Nat
  | [] => 0
  | d :: r => uptoBulk d + uptoBulkAll r
def uptoBulkEntries {H : Type} : List (Lit × DataW H) → Nat
  | [] => 0
  | x :: r => uptoBulkEntry x + uptoBulkEntries r
def uptoBulkEntry {H : Type} : Lit × DataW H → Nat
  | (.string bytes, d) => bytes.length + uptoBulk d + 1
  | (_, d) => uptoBulk d + 1
 end
def uptoSmall : (H : Type) → List (DataW H) → Bool := fun _ ds => decide (uptoBulkAll ds ≤ 1048576)
def OpenSpec.upto (s : _root_.Go.ChangeSpec) : _root_.Go.OpenSpec := { _root_.Go.OpenSpec.ofChange s with cond := some uptoSmall }

/-- 'copydesklaw11.EvalRunMatchesReference', WHERE WHAT IT READS IS OF BULK AT MOST 1048576: true; the input reads as it did. -/
def evalRunMatchesReferenceUptoRow : OpenClaim := { program := "ytlkaikopjjmneaadoor", sum := "9044368505ef1c38e2269f2c3d958527b67660fc459d4d4a3330dcb1e5006dce", func := "copydesk/copydesklaw11.EvalRunMatchesReference", spec := "evalRunMatchesReference", inPlace := ["internal/bytealg.IndexByteString", "internal/bytealg.IndexString"], unfollowed := true, recurses := true, named := ["unicode/utf8.first", "unicode/utf8.acceptRanges", "internal/strconv.uint64pow10", "math/bits.deBruijn32tab", "math/bits.deBruijn64tab", "internal/bytealg.MaxLen"], loops := true, apart := false, laid := [("math/bits.deBruijn32tab", laid_math_bits_deBruijn32tab), ("math/bits.deBruijn64tab", laid_math_bits_deBruijn64tab), ("internal/strconv.uint64pow10", laid_internal_strconv_uint64pow10), ("unicode/utf8.acceptRanges", laid_unicode_utf8_acceptRanges), ("unicode/utf8.first", laid_unicode_utf8_first)], narrowed := true }
def EvalRunMatchesReferenceUptoSaid : Prop := evalRunMatchesReferenceUptoRow.holds Tryd.pinned (OpenSpec.upto evalRunMatchesReferenceSpec)

/-- 'copydesklaw11.EvalFilterMatchesReference', WHERE WHAT IT READS IS OF BULK AT MOST 1048576: true; the input reads as it did. -/
def evalFilterMatchesReferenceUptoRow : OpenClaim := { program := "ytlkaikopjjmneaadoor", sum := "9044368505ef1c38e2269f2c3d958527b67660fc459d4d4a3330dcb1e5006dce", func := "copydesk/copydesklaw11.EvalFilterMatchesReference", spec := "evalFilterMatchesReference", inPlace := ["internal/bytealg.IndexByteString", "internal/bytealg.IndexString"], unfollowed := true, recurses := true, named := ["unicode/utf8.first", "unicode/utf8.acceptRanges", "internal/strconv.uint64pow10", "math/bits.deBruijn32tab", "math/bits.deBruijn64tab", "internal/bytealg.MaxLen"], apart := false, laid := [("math/bits.deBruijn32tab", laid_math_bits_deBruijn32tab), ("math/bits.deBruijn64tab", laid_math_bits_deBruijn64tab), ("internal/strconv.uint64pow10", laid_internal_strconv_uint64pow10), ("unicode/utf8.acceptRanges", laid_unicode_utf8_acceptRanges), ("unicode/utf8.first", laid_unicode_utf8_first)], narrowed := true }
def EvalFilterMatchesReferenceUptoSaid : Prop := evalFilterMatchesReferenceUptoRow.holds Tryd.pinned (OpenSpec.upto evalFilterMatchesReferenceSpec)

/-- 'copydesklaw11.EvalConcatenation', WHERE WHAT IT READS IS OF BULK AT MOST 1048576: true; the input reads as it did. -/
def evalConcatenationUptoRow : OpenClaim := { program := "ytlkaikopjjmneaadoor", sum := "9044368505ef1c38e2269f2c3d958527b67660fc459d4d4a3330dcb1e5006dce", func := "copydesk/copydesklaw11.EvalConcatenation", spec := "evalConcatenation", inPlace := ["internal/bytealg.IndexByteString", "internal/bytealg.IndexString"], unfollowed := true, recurses := true, named := ["unicode/utf8.first", "unicode/utf8.acceptRanges", "internal/strconv.uint64pow10", "math/bits.deBruijn32tab", "math/bits.deBruijn64tab", "internal/bytealg.MaxLen"], loops := true, apart := false, laid := [("math/bits.deBruijn32tab", laid_math_bits_deBruijn32tab), ("math/bits.deBruijn64tab", laid_math_bits_deBruijn64tab), ("internal/strconv.uint64pow10", laid_internal_strconv_uint64pow10), ("unicode/utf8.acceptRanges", laid_unicode_utf8_acceptRanges), ("unicode/utf8.first", laid_unicode_utf8_first)], narrowed := true }
def EvalConcatenationUptoSaid : Prop := evalConcatenationUptoRow.holds Tryd.pinned (OpenSpec.upto evalConcatenationSpec)

/-- 'copydesklaw11.EvalLoop', WHERE WHAT IT READS IS OF BULK AT MOST 1048576: true; the input reads as it did. -/
def evalLoopUptoRow : OpenClaim := { program := "ytlkaikopjjmneaadoor", sum := "9044368505ef1c38e2269f2c3d958527b67660fc459d4d4a3330dcb1e5006dce", func := "copydesk/copydesklaw11.EvalLoop", spec := "evalLoop", inPlace := ["internal/bytealg.IndexByteString", "internal/bytealg.IndexString"], unfollowed := true, recurses := true, named := ["unicode/utf8.first", "unicode/utf8.acceptRanges", "internal/strconv.uint64pow10", "math/bits.deBruijn32tab", "math/bits.deBruijn64tab", "internal/bytealg.MaxLen"], loops := true, apart := false, laid := [("math/bits.deBruijn32tab", laid_math_bits_deBruijn32tab), ("math/bits.deBruijn64tab", laid_math_bits_deBruijn64tab), ("internal/strconv.uint64pow10", laid_internal_strconv_uint64pow10), ("unicode/utf8.acceptRanges", laid_unicode_utf8_acceptRanges), ("unicode/utf8.first", laid_unicode_utf8_first)], narrowed := true }
def EvalLoopUptoSaid : Prop := evalLoopUptoRow.holds Tryd.pinned (OpenSpec.upto evalLoopSpec)

/-- 'copydesklaw11.EvalChoice', WHERE WHAT IT READS IS OF BULK AT MOST 1048576: true; the input reads as it did. -/
def evalChoiceUptoRow : OpenClaim := { program := "ytlkaikopjjmneaadoor", sum := "9044368505ef1c38e2269f2c3d958527b67660fc459d4d4a3330dcb1e5006dce", func := "copydesk/copydesklaw11.EvalChoice", spec := "evalChoice", inPlace := ["internal/bytealg.IndexByteString", "internal/bytealg.IndexString"], unfollowed := true, recurses := true, named := ["unicode/utf8.first", "unicode/utf8.acceptRanges", "internal/strconv.uint64pow10", "math/bits.deBruijn32tab", "math/bits.deBruijn64tab", "internal/bytealg.MaxLen"], loops := true, apart := false, laid := [("math/bits.deBruijn32tab", laid_math_bits_deBruijn32tab), ("math/bits.deBruijn64tab", laid_math_bits_deBruijn64tab), ("internal/strconv.uint64pow10", laid_internal_strconv_uint64pow10), ("unicode/utf8.acceptRanges", laid_unicode_utf8_acceptRanges), ("unicode/utf8.first", laid_unicode_utf8_first)], narrowed := true }
def EvalChoiceUptoSaid : Prop := evalChoiceUptoRow.holds Tryd.pinned (OpenSpec.upto evalChoiceSpec)

/-- 'copydesklaw11.EvalReplay', WHERE WHAT IT READS IS OF BULK AT MOST 1048576: true; the input reads as it did. -/
def evalReplayUptoRow : OpenClaim := { program := "ytlkaikopjjmneaadoor", sum := "9044368505ef1c38e2269f2c3d958527b67660fc459d4d4a3330dcb1e5006dce", func := "copydesk/copydesklaw11.EvalReplay", spec := "evalReplay", inPlace := ["internal/bytealg.IndexByteString", "internal/bytealg.IndexString"], unfollowed := true, recurses := true, named := ["unicode/utf8.first", "unicode/utf8.acceptRanges", "internal/strconv.uint64pow10", "math/bits.deBruijn32tab", "math/bits.deBruijn64tab", "internal/bytealg.MaxLen"], loops := true, apart := false, laid := [("math/bits.deBruijn32tab", laid_math_bits_deBruijn32tab), ("math/bits.deBruijn64tab", laid_math_bits_deBruijn64tab), ("internal/strconv.uint64pow10", laid_internal_strconv_uint64pow10), ("unicode/utf8.acceptRanges", laid_unicode_utf8_acceptRanges), ("unicode/utf8.first", laid_unicode_utf8_first)], narrowed := true }
def EvalReplayUptoSaid : Prop := evalReplayUptoRow.holds Tryd.pinned (OpenSpec.upto evalReplaySpec)

/-- 'copydesklaw11.EvalBounded', WHERE WHAT IT READS IS OF BULK AT MOST 1048576: true; the input reads as it did. -/
def evalBoundedUptoRow : OpenClaim := { program := "ytlkaikopjjmneaadoor", sum := "9044368505ef1c38e2269f2c3d958527b67660fc459d4d4a3330dcb1e5006dce", func := "copydesk/copydesklaw11.EvalBounded", spec := "evalBounded", inPlace := ["internal/bytealg.IndexByteString", "internal/bytealg.IndexString"], unfollowed := true, recurses := true, named := ["unicode/utf8.first", "unicode/utf8.acceptRanges", "internal/strconv.uint64pow10", "math/bits.deBruijn32tab", "math/bits.deBruijn64tab", "internal/bytealg.MaxLen"], loops := true, apart := false, laid := [("math/bits.deBruijn32tab", laid_math_bits_deBruijn32tab), ("math/bits.deBruijn64tab", laid_math_bits_deBruijn64tab), ("internal/strconv.uint64pow10", laid_internal_strconv_uint64pow10), ("unicode/utf8.acceptRanges", laid_unicode_utf8_acceptRanges), ("unicode/utf8.first", laid_unicode_utf8_first)], narrowed := true }
def EvalBoundedUptoSaid : Prop := evalBoundedUptoRow.holds Tryd.pinned (OpenSpec.upto evalBoundedSpec)

/-- 'copydesklaw11.EvalSteps', WHERE WHAT IT READS IS OF BULK AT MOST 1048576: true; the input reads as it did. -/
def evalStepsUptoRow : OpenClaim := { program := "ytlkaikopjjmneaadoor", sum := "9044368505ef1c38e2269f2c3d958527b67660fc459d4d4a3330dcb1e5006dce", func := "copydesk/copydesklaw11.EvalSteps", spec := "evalSteps", inPlace := ["internal/bytealg.IndexByteString", "internal/bytealg.IndexString"], unfollowed := true, recurses := true, named := ["unicode/utf8.first", "unicode/utf8.acceptRanges", "internal/strconv.uint64pow10", "math/bits.deBruijn32tab", "math/bits.deBruijn64tab", "internal/bytealg.MaxLen"], apart := false, laid := [("math/bits.deBruijn32tab", laid_math_bits_deBruijn32tab), ("math/bits.deBruijn64tab", laid_math_bits_deBruijn64tab), ("internal/strconv.uint64pow10", laid_internal_strconv_uint64pow10), ("unicode/utf8.acceptRanges", laid_unicode_utf8_acceptRanges), ("unicode/utf8.first", laid_unicode_utf8_first)], narrowed := true }
def EvalStepsUptoSaid : Prop := evalStepsUptoRow.holds Tryd.pinned (OpenSpec.upto evalStepsSpec)

/-- 'copydesklaw11.EvalInclusions', WHERE WHAT IT READS IS OF BULK AT MOST 1048576: true; the input reads as it did. -/
def evalInclusionsUptoRow : OpenClaim := { program := "ytlkaikopjjmneaadoor", sum := "9044368505ef1c38e2269f2c3d958527b67660fc459d4d4a3330dcb1e5006dce", func := "copydesk/copydesklaw11.EvalInclusions", spec := "evalInclusions", inPlace := ["internal/bytealg.IndexByteString", "internal/bytealg.IndexString"], unfollowed := true, recurses := true, named := ["unicode/utf8.first", "unicode/utf8.acceptRanges", "internal/strconv.uint64pow10", "math/bits.deBruijn32tab", "math/bits.deBruijn64tab", "internal/bytealg.MaxLen"], apart := false, laid := [("math/bits.deBruijn32tab", laid_math_bits_deBruijn32tab), ("math/bits.deBruijn64tab", laid_math_bits_deBruijn64tab), ("internal/strconv.uint64pow10", laid_internal_strconv_uint64pow10), ("unicode/utf8.acceptRanges", laid_unicode_utf8_acceptRanges), ("unicode/utf8.first", laid_unicode_utf8_first)], narrowed := true }
def EvalInclusionsUptoSaid : Prop := evalInclusionsUptoRow.holds Tryd.pinned (OpenSpec.upto evalInclusionsSpec)

/-- 'copydesklaw11.EvalFiltersAgain', WHERE WHAT IT READS IS OF BULK AT MOST 1048576: true; the input reads as it did. -/
def evalFiltersAgainUptoRow : OpenClaim := { program := "ytlkaikopjjmneaadoor", sum := "9044368505ef1c38e2269f2c3d958527b67660fc459d4d4a3330dcb1e5006dce", func := "copydesk/copydesklaw11.EvalFiltersAgain", spec := "evalFiltersAgain", inPlace := ["internal/bytealg.IndexByteString", "internal/bytealg.IndexString"], unfollowed := true, recurses := true, named := ["unicode/utf8.first", "unicode/utf8.acceptRanges", "internal/strconv.uint64pow10", "math/bits.deBruijn32tab", "math/bits.deBruijn64tab", "internal/bytealg.MaxLen"], apart := false, laid := [("math/bits.deBruijn32tab", laid_math_bits_deBruijn32tab), ("math/bits.deBruijn64tab", laid_math_bits_deBruijn64tab), ("internal/strconv.uint64pow10", laid_internal_strconv_uint64pow10), ("unicode/utf8.acceptRanges", laid_unicode_utf8_acceptRanges), ("unicode/utf8.first", laid_unicode_utf8_first)], narrowed := true }
def EvalFiltersAgainUptoSaid : Prop := evalFiltersAgainUptoRow.holds Tryd.pinned (OpenSpec.upto evalFiltersAgainSpec)

/-- 'copydesklaw11.EvalFilterShapes', WHERE WHAT IT READS IS OF BULK AT MOST 1048576: true; the input reads as it did. -/
def evalFilterShapesUptoRow : OpenClaim := { program := "ytlkaikopjjmneaadoor", sum := "9044368505ef1c38e2269f2c3d958527b67660fc459d4d4a3330dcb1e5006dce", func := "copydesk/copydesklaw11.EvalFilterShapes", spec := "evalFilterShapes", inPlace := ["internal/bytealg.IndexByteString", "internal/bytealg.IndexString"], unfollowed := true, recurses := true, named := ["unicode/utf8.first", "unicode/utf8.acceptRanges", "internal/strconv.uint64pow10", "math/bits.deBruijn32tab", "math/bits.deBruijn64tab", "internal/bytealg.MaxLen"], apart := false, laid := [("math/bits.deBruijn32tab", laid_math_bits_deBruijn32tab), ("math/bits.deBruijn64tab", laid_math_bits_deBruijn64tab), ("internal/strconv.uint64pow10", laid_internal_strconv_uint64pow10), ("unicode/utf8.acceptRanges", laid_unicode_utf8_acceptRanges), ("unicode/utf8.first", laid_unicode_utf8_first)], narrowed := true }
def EvalFilterShapesUptoSaid : Prop := evalFilterShapesUptoRow.holds Tryd.pinned (OpenSpec.upto evalFilterShapesSpec)

end Rows
end Go.Proofs.YtlkaikopjjmneaaDoor
