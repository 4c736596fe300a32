/-
  DERIVED. GIVEN WITH THE SEED: THE CARDS: each row of YtlkaikopjjmneaaDoorRows.lean that lists a variable, with what it lists TIED to the program's text (the seventh form; the later family's looks); each row that meets fmt, with fmt's text TOLD by the authors' own Lean function (tested against real Go, not proved from fmt's source: count such statements apart). THE CARD IS WHAT COUNTS. Prove the row's statement (the work); the ties are given (YtlkaikopjjmneaaDoorTie.lean); close each card by the builder's one call (the guide's Derived/Test/ToyasCard.lean, 'card_holds'). Laid BY PROGRAM, IN A SANDBOX (cutbox-door.mjs). By AI agents, Wed Nov 11 2026. No macro, syntax, notation, axiom, sorry.
-/
import Derived.Test.YtlkaikopjjmneaaDoorRows
import GoSem.ClaimSeven
namespace Go.Proofs.YtlkaikopjjmneaaDoor
namespace Rows

/-- THE TIED CARD OF 'copydesklaw11.EvalRunMatchesReference'. -/
def evalRunMatchesReferenceCard : Claim7 := { stood := { row := evalRunMatchesReferenceRow, standIns := [], harness := (true, "7d308a29af766f203510779dfb0160a6a3d180bc1304061072fdd6cae8f36546"), looks := true }, kinds := [], alts := [], laidByText := true, laidKinds := [.data, .data, .data, .data, .pinned], laidTests := true, laidLooks := .later }
def EvalRunMatchesReferenceCardSaid : Prop := Claim7.holds Tryd.pinned (.plain (OpenSpec.ofChange evalRunMatchesReferenceSpec)) evalRunMatchesReferenceCard

/-- THE TIED CARD OF 'copydesklaw11.EvalFilterMatchesReference'. -/
def evalFilterMatchesReferenceCard : Claim7 := { stood := { row := evalFilterMatchesReferenceRow, standIns := [], harness := (true, "7d308a29af766f203510779dfb0160a6a3d180bc1304061072fdd6cae8f36546"), looks := true }, kinds := [], alts := [], laidByText := true, laidKinds := [.data, .data, .data, .data, .pinned], laidTests := true, laidLooks := .later }
def EvalFilterMatchesReferenceCardSaid : Prop := Claim7.holds Tryd.pinned (.plain (OpenSpec.ofChange evalFilterMatchesReferenceSpec)) evalFilterMatchesReferenceCard

/-- THE TIED CARD OF 'copydesklaw11.EvalConcatenation'. -/
def evalConcatenationCard : Claim7 := { stood := { row := evalConcatenationRow, standIns := [], harness := (true, "7d308a29af766f203510779dfb0160a6a3d180bc1304061072fdd6cae8f36546"), looks := true }, kinds := [], alts := [], laidByText := true, laidKinds := [.data, .data, .data, .data, .pinned], laidTests := true, laidLooks := .later }
def EvalConcatenationCardSaid : Prop := Claim7.holds Tryd.pinned (.plain (OpenSpec.ofChange evalConcatenationSpec)) evalConcatenationCard

/-- THE TIED CARD OF 'copydesklaw11.EvalLoop'. -/
def evalLoopCard : Claim7 := { stood := { row := evalLoopRow, standIns := [], harness := (true, "7d308a29af766f203510779dfb0160a6a3d180bc1304061072fdd6cae8f36546"), looks := true }, kinds := [], alts := [], laidByText := true, laidKinds := [.data, .data, .data, .data, .pinned], laidTests := true, laidLooks := .later }
def EvalLoopCardSaid : Prop := Claim7.holds Tryd.pinned (.plain (OpenSpec.ofChange evalLoopSpec)) evalLoopCard

/-- THE TIED CARD OF 'copydesklaw11.EvalChoice'. -/
def evalChoiceCard : Claim7 := { stood := { row := evalChoiceRow, standIns := [], harness := (true, "7d308a29af766f203510779dfb0160a6a3d180bc1304061072fdd6cae8f36546"), looks := true }, kinds := [], alts := [], laidByText := true, laidKinds := [.data, .data, .data, .data, .pinned], laidTests := true, laidLooks := .later }
def EvalChoiceCardSaid : Prop := Claim7.holds Tryd.pinned (.plain (OpenSpec.ofChange evalChoiceSpec)) evalChoiceCard

/-- THE TIED CARD OF 'copydesklaw11.EvalReplay'. -/
def evalReplayCard : Claim7 := { stood := { row := evalReplayRow, standIns := [], harness := (true, "7d308a29af766f203510779dfb0160a6a3d180bc1304061072fdd6cae8f36546"), looks := true }, kinds := [], alts := [], laidByText := true, laidKinds := [.data, .data, .data, .data, .pinned], laidTests := true, laidLooks := .later }
def EvalReplayCardSaid : Prop := Claim7.holds Tryd.pinned (.plain (OpenSpec.ofChange evalReplaySpec)) evalReplayCard

/-- THE TIED CARD OF 'copydesklaw11.EvalBounded'. -/
def evalBoundedCard : Claim7 := { stood := { row := evalBoundedRow, standIns := [], harness := (true, "7d308a29af766f203510779dfb0160a6a3d180bc1304061072fdd6cae8f36546"), looks := true }, kinds := [], alts := [], laidByText := true, laidKinds := [.data, .data, .data, .data, .pinned], laidTests := true, laidLooks := .later }
def EvalBoundedCardSaid : Prop := Claim7.holds Tryd.pinned (.plain (OpenSpec.ofChange evalBoundedSpec)) evalBoundedCard

/-- THE TIED CARD OF 'copydesklaw11.EvalSteps'. -/
def evalStepsCard : Claim7 := { stood := { row := evalStepsRow, standIns := [], harness := (true, "7d308a29af766f203510779dfb0160a6a3d180bc1304061072fdd6cae8f36546"), looks := true }, kinds := [], alts := [], laidByText := true, laidKinds := [.data, .data, .data, .data, .pinned], laidTests := true, laidLooks := .later }
def EvalStepsCardSaid : Prop := Claim7.holds Tryd.pinned (.plain (OpenSpec.ofChange evalStepsSpec)) evalStepsCard

/-- THE TIED CARD OF 'copydesklaw11.EvalInclusions'. -/
def evalInclusionsCard : Claim7 := { stood := { row := evalInclusionsRow, standIns := [], harness := (true, "7d308a29af766f203510779dfb0160a6a3d180bc1304061072fdd6cae8f36546"), looks := true }, kinds := [], alts := [], laidByText := true, laidKinds := [.data, .data, .data, .data, .pinned], laidTests := true, laidLooks := .later }
def EvalInclusionsCardSaid : Prop := Claim7.holds Tryd.pinned (.plain (OpenSpec.ofChange evalInclusionsSpec)) evalInclusionsCard

/-- THE TIED CARD OF 'copydesklaw11.EvalFiltersAgain'. -/
def evalFiltersAgainCard : Claim7 := { stood := { row := evalFiltersAgainRow, standIns := [], harness := (true, "7d308a29af766f203510779dfb0160a6a3d180bc1304061072fdd6cae8f36546"), looks := true }, kinds := [], alts := [], laidByText := true, laidKinds := [.data, .data, .data, .data, .pinned], laidTests := true, laidLooks := .later }
def EvalFiltersAgainCardSaid : Prop := Claim7.holds Tryd.pinned (.plain (OpenSpec.ofChange evalFiltersAgainSpec)) evalFiltersAgainCard

/-- THE TIED CARD OF 'copydesklaw11.EvalFilterShapes'. -/
def evalFilterShapesCard : Claim7 := { stood := { row := evalFilterShapesRow, standIns := [], harness := (true, "7d308a29af766f203510779dfb0160a6a3d180bc1304061072fdd6cae8f36546"), looks := true }, kinds := [], alts := [], laidByText := true, laidKinds := [.data, .data, .data, .data, .pinned], laidTests := true, laidLooks := .later }
def EvalFilterShapesCardSaid : Prop := Claim7.holds Tryd.pinned (.plain (OpenSpec.ofChange evalFilterShapesSpec)) evalFilterShapesCard

/-- THE SECOND FORM's CARD OF 'copydesklaw11.EvalRunMatchesReference'. -/
def evalRunMatchesReferenceUptoCard : Claim7 := { stood := { row := evalRunMatchesReferenceUptoRow, standIns := [], harness := (true, "7d308a29af766f203510779dfb0160a6a3d180bc1304061072fdd6cae8f36546"), looks := true }, kinds := [], alts := [], laidByText := true, laidKinds := [.data, .data, .data, .data, .pinned], laidTests := true, laidLooks := .later }
def EvalRunMatchesReferenceUptoCardSaid : Prop := Claim7.holds Tryd.pinned (.plain (OpenSpec.upto evalRunMatchesReferenceSpec)) evalRunMatchesReferenceUptoCard

/-- THE SECOND FORM's CARD OF 'copydesklaw11.EvalFilterMatchesReference'. -/
def evalFilterMatchesReferenceUptoCard : Claim7 := { stood := { row := evalFilterMatchesReferenceUptoRow, standIns := [], harness := (true, "7d308a29af766f203510779dfb0160a6a3d180bc1304061072fdd6cae8f36546"), looks := true }, kinds := [], alts := [], laidByText := true, laidKinds := [.data, .data, .data, .data, .pinned], laidTests := true, laidLooks := .later }
def EvalFilterMatchesReferenceUptoCardSaid : Prop := Claim7.holds Tryd.pinned (.plain (OpenSpec.upto evalFilterMatchesReferenceSpec)) evalFilterMatchesReferenceUptoCard

/-- THE SECOND FORM's CARD OF 'copydesklaw11.EvalConcatenation'. -/
def evalConcatenationUptoCard : Claim7 := { stood := { row := evalConcatenationUptoRow, standIns := [], harness := (true, "7d308a29af766f203510779dfb0160a6a3d180bc1304061072fdd6cae8f36546"), looks := true }, kinds := [], alts := [], laidByText := true, laidKinds := [.data, .data, .data, .data, .pinned], laidTests := true, laidLooks := .later }
def EvalConcatenationUptoCardSaid : Prop := Claim7.holds Tryd.pinned (.plain (OpenSpec.upto evalConcatenationSpec)) evalConcatenationUptoCard

/-- THE SECOND FORM's CARD OF 'copydesklaw11.EvalLoop'. -/
def evalLoopUptoCard : Claim7 := { stood := { row := evalLoopUptoRow, standIns := [], harness := (true, "7d308a29af766f203510779dfb0160a6a3d180bc1304061072fdd6cae8f36546"), looks := true }, kinds := [], alts := [], laidByText := true, laidKinds := [.data, .data, .data, .data, .pinned], laidTests := true, laidLooks := .later }
def EvalLoopUptoCardSaid : Prop := Claim7.holds Tryd.pinned (.plain (OpenSpec.upto evalLoopSpec)) evalLoopUptoCard

/-- THE SECOND FORM's CARD OF 'copydesklaw11.EvalChoice'. -/
def evalChoiceUptoCard : Claim7 := { stood := { row := evalChoiceUptoRow, standIns := [], harness := (true, "7d308a29af766f203510779dfb0160a6a3d180bc1304061072fdd6cae8f36546"), looks := true }, kinds := [], alts := [], laidByText := true, laidKinds := [.data, .data, .data, .data, .pinned], laidTests := true, laidLooks := .later }
def EvalChoiceUptoCardSaid : Prop := Claim7.holds Tryd.pinned (.plain (OpenSpec.upto evalChoiceSpec)) evalChoiceUptoCard

/-- THE SECOND FORM's CARD OF 'copydesklaw11.EvalReplay'. -/
def evalReplayUptoCard : Claim7 := { stood := { row := evalReplayUptoRow, standIns := [], harness := (true, "7d308a29af766f203510779dfb0160a6a3d180bc1304061072fdd6cae8f36546"), looks := true }, kinds := [], alts := [], laidByText := true, laidKinds := [.data, .data, .data, .data, .pinned], laidTests := true, laidLooks := .later }
def EvalReplayUptoCardSaid : Prop := Claim7.holds Tryd.pinned (.plain (OpenSpec.upto evalReplaySpec)) evalReplayUptoCard

/-- THE SECOND FORM's CARD OF 'copydesklaw11.EvalBounded'. -/
def evalBoundedUptoCard : Claim7 := { stood := { row := evalBoundedUptoRow, standIns := [], harness := (true, "7d308a29af766f203510779dfb0160a6a3d180bc1304061072fdd6cae8f36546"), looks := true }, kinds := [], alts := [], laidByText := true, laidKinds := [.data, .data, .data, .data, .pinned], laidTests := true, laidLooks := .later }
def EvalBoundedUptoCardSaid : Prop := Claim7.holds Tryd.pinned (.plain (OpenSpec.upto evalBoundedSpec)) evalBoundedUptoCard

/-- THE SECOND FORM's CARD OF 'copydesklaw11.EvalSteps'. -/
def evalStepsUptoCard : Claim7 := { stood := { row := evalStepsUptoRow, standIns := [], harness := (true, "7d308a29af766f203510779dfb0160a6a3d180bc1304061072fdd6cae8f36546"), looks := true }, kinds := [], alts := [], laidByText := true, laidKinds := [.data, .data, .data, .data, .pinned], laidTests := true, laidLooks := .later }
def EvalStepsUptoCardSaid : Prop := Claim7.holds Tryd.pinned (.plain (OpenSpec.upto evalStepsSpec)) evalStepsUptoCard

/-- THE SECOND FORM's CARD OF 'copydesklaw11.EvalInclusions'. -/
def evalInclusionsUptoCard : Claim7 := { stood := { row := evalInclusionsUptoRow, standIns := [], harness := (true, "7d308a29af766f203510779dfb0160a6a3d180bc1304061072fdd6cae8f36546"), looks := true }, kinds := [], alts := [], laidByText := true, laidKinds := [.data, .data, .data, .data, .pinned], laidTests := true, laidLooks := .later }
def EvalInclusionsUptoCardSaid : Prop := Claim7.holds Tryd.pinned (.plain (OpenSpec.upto evalInclusionsSpec)) evalInclusionsUptoCard

/-- THE SECOND FORM's CARD OF 'copydesklaw11.EvalFiltersAgain'. -/
def evalFiltersAgainUptoCard : Claim7 := { stood := { row := evalFiltersAgainUptoRow, standIns := [], harness := (true, "7d308a29af766f203510779dfb0160a6a3d180bc1304061072fdd6cae8f36546"), looks := true }, kinds := [], alts := [], laidByText := true, laidKinds := [.data, .data, .data, .data, .pinned], laidTests := true, laidLooks := .later }
def EvalFiltersAgainUptoCardSaid : Prop := Claim7.holds Tryd.pinned (.plain (OpenSpec.upto evalFiltersAgainSpec)) evalFiltersAgainUptoCard

/-- THE SECOND FORM's CARD OF 'copydesklaw11.EvalFilterShapes'. -/
def evalFilterShapesUptoCard : Claim7 := { stood := { row := evalFilterShapesUptoRow, standIns := [], harness := (true, "7d308a29af766f203510779dfb0160a6a3d180bc1304061072fdd6cae8f36546"), looks := true }, kinds := [], alts := [], laidByText := true, laidKinds := [.data, .data, .data, .data, .pinned], laidTests := true, laidLooks := .later }
def EvalFilterShapesUptoCardSaid : Prop := Claim7.holds Tryd.pinned (.plain (OpenSpec.upto evalFilterShapesSpec)) evalFilterShapesUptoCard
end Rows
end Go.Proofs.YtlkaikopjjmneaaDoor
