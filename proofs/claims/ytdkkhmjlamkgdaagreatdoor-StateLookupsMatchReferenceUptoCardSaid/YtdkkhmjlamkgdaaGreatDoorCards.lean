/-
  DERIVED. GIVEN WITH THE SEED: THE CARDS: each row of YtdkkhmjlamkgdaaGreatDoorRows.lean that lists a variable, with what it lists TIED to the program's text (the seventh form; the later family's looks); each row that meets fmt, with fmt's text TOLD by the authors' own Lean function (tested against real Go, not proved from fmt's source: count such statements apart). THE CARD IS WHAT COUNTS. Prove the row's statement (the work); the ties are given (YtdkkhmjlamkgdaaGreatDoorTie.lean); close each card by the builder's one call (the guide's Derived/Test/ToyasCard.lean, 'card_holds'). Laid BY PROGRAM, IN A SANDBOX (cutbox-door.mjs). By AI agents, Wed Nov 11 2026. No macro, syntax, notation, axiom, sorry.
-/
import Derived.Test.YtdkkhmjlamkgdaaGreatDoorRows
import GoSem.ClaimSeven
namespace Go.Proofs.YtdkkhmjlamkgdaaGreatDoor
namespace Rows

/-- THE TIED CARD OF 'copydesklaw07.StateLookupsMatchReference'. -/
def stateLookupsMatchReferenceCard : Claim7 := { stood := { row := stateLookupsMatchReferenceRow, standIns := [], harness := (true, "021ad65b4018be75036049c6d7748719cf51cc3f3f92b44422fbef8c4d7b852b"), looks := false }, kinds := [], alts := [], laidByText := true, laidKinds := [.data, .data, .data, .data, .pinned], laidTests := true, laidLooks := .later }
def StateLookupsMatchReferenceCardSaid : Prop := Claim7.holds Tryz.pinned (.plain (OpenSpec.ofChange stateLookupsMatchReferenceSpec)) stateLookupsMatchReferenceCard

/-- THE TIED CARD OF 'copydesklaw07.StateGrows'. -/
def stateGrowsCard : Claim7 := { stood := { row := stateGrowsRow, standIns := [], harness := (true, "021ad65b4018be75036049c6d7748719cf51cc3f3f92b44422fbef8c4d7b852b"), looks := false }, kinds := [], alts := [], laidByText := true, laidKinds := [.data, .data, .data, .data, .pinned], laidTests := true, laidLooks := .later }
def StateGrowsCardSaid : Prop := Claim7.holds Tryz.pinned (.plain (OpenSpec.ofChange stateGrowsSpec)) stateGrowsCard

/-- THE TIED CARD OF 'copydesklaw07.StateTaken'. -/
def stateTakenCard : Claim7 := { stood := { row := stateTakenRow, standIns := [], harness := (true, "021ad65b4018be75036049c6d7748719cf51cc3f3f92b44422fbef8c4d7b852b"), looks := false }, kinds := [], alts := [], laidByText := true, laidKinds := [.data, .data, .data, .data, .pinned], laidTests := true, laidLooks := .later }
def StateTakenCardSaid : Prop := Claim7.holds Tryz.pinned (.plain (OpenSpec.ofChange stateTakenSpec)) stateTakenCard

/-- THE TIED CARD OF 'copydesklaw07.StateQuotesCorrected'. -/
def stateQuotesCorrectedCard : Claim7 := { stood := { row := stateQuotesCorrectedRow, standIns := [], harness := (true, "021ad65b4018be75036049c6d7748719cf51cc3f3f92b44422fbef8c4d7b852b"), looks := false }, kinds := [], alts := [], laidByText := true, laidKinds := [.data, .data, .data, .data, .pinned], laidTests := true, laidLooks := .later }
def StateQuotesCorrectedCardSaid : Prop := Claim7.holds Tryz.pinned (.plain (OpenSpec.ofChange stateQuotesCorrectedSpec)) stateQuotesCorrectedCard

/-- THE TIED CARD OF 'copydesklaw07.StateCircular'. -/
def stateCircularCard : Claim7 := { stood := { row := stateCircularRow, standIns := [], harness := (true, "021ad65b4018be75036049c6d7748719cf51cc3f3f92b44422fbef8c4d7b852b"), looks := false }, kinds := [], alts := [], laidByText := true, laidKinds := [.data, .data, .data, .data, .pinned], laidTests := true, laidLooks := .later }
def StateCircularCardSaid : Prop := Claim7.holds Tryz.pinned (.plain (OpenSpec.ofChange stateCircularSpec)) stateCircularCard

/-- THE TIED CARD OF 'copydesklaw07.StateCounts'. -/
def stateCountsCard : Claim7 := { stood := { row := stateCountsRow, standIns := [], harness := (true, "021ad65b4018be75036049c6d7748719cf51cc3f3f92b44422fbef8c4d7b852b"), looks := false }, kinds := [], alts := [], laidByText := true, laidKinds := [.data, .data, .data, .data, .pinned], laidTests := true, laidLooks := .later }
def StateCountsCardSaid : Prop := Claim7.holds Tryz.pinned (.plain (OpenSpec.ofChange stateCountsSpec)) stateCountsCard

/-- THE TIED CARD OF 'copydesklaw07.StateSorted'. -/
def stateSortedCard : Claim7 := { stood := { row := stateSortedRow, standIns := [], harness := (true, "021ad65b4018be75036049c6d7748719cf51cc3f3f92b44422fbef8c4d7b852b"), looks := false }, kinds := [], alts := [], laidByText := true, laidKinds := [.data, .data, .data, .data, .pinned], laidTests := true, laidLooks := .later }
def StateSortedCardSaid : Prop := Claim7.holds Tryz.pinned (.plain (OpenSpec.ofChange stateSortedSpec)) stateSortedCard

/-- THE TIED CARD OF 'copydesklaw07.StateLinear'. -/
def stateLinearCard : Claim7 := { stood := { row := stateLinearRow, standIns := [], harness := (true, "021ad65b4018be75036049c6d7748719cf51cc3f3f92b44422fbef8c4d7b852b"), looks := false }, kinds := [], alts := [], laidByText := true, laidKinds := [.data, .data, .data, .data, .pinned], laidTests := true, laidLooks := .later }
def StateLinearCardSaid : Prop := Claim7.holds Tryz.pinned (.plain (OpenSpec.ofChange stateLinearSpec)) stateLinearCard

/-- THE TIED CARD OF 'copydesklaw07.StateSameMatchesReference'. -/
def stateSameMatchesReferenceCard : Claim7 := { stood := { row := stateSameMatchesReferenceRow, standIns := [], harness := (true, "021ad65b4018be75036049c6d7748719cf51cc3f3f92b44422fbef8c4d7b852b"), looks := false }, kinds := [], alts := [], laidByText := true, laidKinds := [.data, .data, .data, .data, .pinned], laidTests := true, laidLooks := .later }
def StateSameMatchesReferenceCardSaid : Prop := Claim7.holds Tryz.pinned (.plain (OpenSpec.ofChange stateSameMatchesReferenceSpec)) stateSameMatchesReferenceCard

/-- THE TIED CARD OF 'copydesklaw07.StateSilentFacts'. -/
def stateSilentFactsCard : Claim7 := { stood := { row := stateSilentFactsRow, standIns := [], harness := (true, "021ad65b4018be75036049c6d7748719cf51cc3f3f92b44422fbef8c4d7b852b"), looks := false }, kinds := [], alts := [], laidByText := true, laidKinds := [.data, .data, .data, .data, .pinned], laidTests := true, laidLooks := .later }
def StateSilentFactsCardSaid : Prop := Claim7.holds Tryz.pinned (.plain (OpenSpec.ofChange stateSilentFactsSpec)) stateSilentFactsCard

/-- THE TIED CARD OF 'copydesklaw07.StateStoriesApart'. -/
def stateStoriesApartCard : Claim7 := { stood := { row := stateStoriesApartRow, standIns := [], harness := (true, "021ad65b4018be75036049c6d7748719cf51cc3f3f92b44422fbef8c4d7b852b"), looks := false }, kinds := [], alts := [], laidByText := true, laidKinds := [.data, .data, .data, .data, .pinned], laidTests := true, laidLooks := .later }
def StateStoriesApartCardSaid : Prop := Claim7.holds Tryz.pinned (.plain (OpenSpec.ofChange stateStoriesApartSpec)) stateStoriesApartCard

/-- THE TIED CARD OF 'copydesklaw07.StateCorrectionsFollow'. -/
def stateCorrectionsFollowCard : Claim7 := { stood := { row := stateCorrectionsFollowRow, standIns := [], harness := (true, "021ad65b4018be75036049c6d7748719cf51cc3f3f92b44422fbef8c4d7b852b"), looks := false }, kinds := [], alts := [], laidByText := true, laidKinds := [.data, .data, .data, .data, .pinned], laidTests := true, laidLooks := .later }
def StateCorrectionsFollowCardSaid : Prop := Claim7.holds Tryz.pinned (.plain (OpenSpec.ofChange stateCorrectionsFollowSpec)) stateCorrectionsFollowCard

/-- THE TIED CARD OF 'copydesklaw07.StateFresh'. -/
def stateFreshCard : Claim7 := { stood := { row := stateFreshRow, standIns := [], harness := (true, "021ad65b4018be75036049c6d7748719cf51cc3f3f92b44422fbef8c4d7b852b"), looks := false }, kinds := [], alts := [], laidByText := true, laidKinds := [.data, .data, .data, .data, .pinned], laidTests := true, laidLooks := .later }
def StateFreshCardSaid : Prop := Claim7.holds Tryz.pinned (.plain (OpenSpec.ofChange stateFreshSpec)) stateFreshCard

/-- THE SECOND FORM's CARD OF 'copydesklaw07.StateLookupsMatchReference'. -/
def stateLookupsMatchReferenceUptoCard : Claim7 := { stood := { row := stateLookupsMatchReferenceUptoRow, standIns := [], harness := (true, "021ad65b4018be75036049c6d7748719cf51cc3f3f92b44422fbef8c4d7b852b"), looks := false }, kinds := [], alts := [], laidByText := true, laidKinds := [.data, .data, .data, .data, .pinned], laidTests := true, laidLooks := .later }
def StateLookupsMatchReferenceUptoCardSaid : Prop := Claim7.holds Tryz.pinned (.plain (OpenSpec.upto stateLookupsMatchReferenceSpec)) stateLookupsMatchReferenceUptoCard

/-- THE SECOND FORM's CARD OF 'copydesklaw07.StateGrows'. -/
def stateGrowsUptoCard : Claim7 := { stood := { row := stateGrowsUptoRow, standIns := [], harness := (true, "021ad65b4018be75036049c6d7748719cf51cc3f3f92b44422fbef8c4d7b852b"), looks := false }, kinds := [], alts := [], laidByText := true, laidKinds := [.data, .data, .data, .data, .pinned], laidTests := true, laidLooks := .later }
def StateGrowsUptoCardSaid : Prop := Claim7.holds Tryz.pinned (.plain (OpenSpec.upto stateGrowsSpec)) stateGrowsUptoCard

/-- THE SECOND FORM's CARD OF 'copydesklaw07.StateTaken'. -/
def stateTakenUptoCard : Claim7 := { stood := { row := stateTakenUptoRow, standIns := [], harness := (true, "021ad65b4018be75036049c6d7748719cf51cc3f3f92b44422fbef8c4d7b852b"), looks := false }, kinds := [], alts := [], laidByText := true, laidKinds := [.data, .data, .data, .data, .pinned], laidTests := true, laidLooks := .later }
def StateTakenUptoCardSaid : Prop := Claim7.holds Tryz.pinned (.plain (OpenSpec.upto stateTakenSpec)) stateTakenUptoCard

/-- THE SECOND FORM's CARD OF 'copydesklaw07.StateQuotesCorrected'. -/
def stateQuotesCorrectedUptoCard : Claim7 := { stood := { row := stateQuotesCorrectedUptoRow, standIns := [], harness := (true, "021ad65b4018be75036049c6d7748719cf51cc3f3f92b44422fbef8c4d7b852b"), looks := false }, kinds := [], alts := [], laidByText := true, laidKinds := [.data, .data, .data, .data, .pinned], laidTests := true, laidLooks := .later }
def StateQuotesCorrectedUptoCardSaid : Prop := Claim7.holds Tryz.pinned (.plain (OpenSpec.upto stateQuotesCorrectedSpec)) stateQuotesCorrectedUptoCard

/-- THE SECOND FORM's CARD OF 'copydesklaw07.StateCircular'. -/
def stateCircularUptoCard : Claim7 := { stood := { row := stateCircularUptoRow, standIns := [], harness := (true, "021ad65b4018be75036049c6d7748719cf51cc3f3f92b44422fbef8c4d7b852b"), looks := false }, kinds := [], alts := [], laidByText := true, laidKinds := [.data, .data, .data, .data, .pinned], laidTests := true, laidLooks := .later }
def StateCircularUptoCardSaid : Prop := Claim7.holds Tryz.pinned (.plain (OpenSpec.upto stateCircularSpec)) stateCircularUptoCard

/-- THE SECOND FORM's CARD OF 'copydesklaw07.StateCounts'. -/
def stateCountsUptoCard : Claim7 := { stood := { row := stateCountsUptoRow, standIns := [], harness := (true, "021ad65b4018be75036049c6d7748719cf51cc3f3f92b44422fbef8c4d7b852b"), looks := false }, kinds := [], alts := [], laidByText := true, laidKinds := [.data, .data, .data, .data, .pinned], laidTests := true, laidLooks := .later }
def StateCountsUptoCardSaid : Prop := Claim7.holds Tryz.pinned (.plain (OpenSpec.upto stateCountsSpec)) stateCountsUptoCard

/-- THE SECOND FORM's CARD OF 'copydesklaw07.StateSorted'. -/
def stateSortedUptoCard : Claim7 := { stood := { row := stateSortedUptoRow, standIns := [], harness := (true, "021ad65b4018be75036049c6d7748719cf51cc3f3f92b44422fbef8c4d7b852b"), looks := false }, kinds := [], alts := [], laidByText := true, laidKinds := [.data, .data, .data, .data, .pinned], laidTests := true, laidLooks := .later }
def StateSortedUptoCardSaid : Prop := Claim7.holds Tryz.pinned (.plain (OpenSpec.upto stateSortedSpec)) stateSortedUptoCard

/-- THE SECOND FORM's CARD OF 'copydesklaw07.StateLinear'. -/
def stateLinearUptoCard : Claim7 := { stood := { row := stateLinearUptoRow, standIns := [], harness := (true, "021ad65b4018be75036049c6d7748719cf51cc3f3f92b44422fbef8c4d7b852b"), looks := false }, kinds := [], alts := [], laidByText := true, laidKinds := [.data, .data, .data, .data, .pinned], laidTests := true, laidLooks := .later }
def StateLinearUptoCardSaid : Prop := Claim7.holds Tryz.pinned (.plain (OpenSpec.upto stateLinearSpec)) stateLinearUptoCard

/-- THE SECOND FORM's CARD OF 'copydesklaw07.StateSameMatchesReference'. -/
def stateSameMatchesReferenceUptoCard : Claim7 := { stood := { row := stateSameMatchesReferenceUptoRow, standIns := [], harness := (true, "021ad65b4018be75036049c6d7748719cf51cc3f3f92b44422fbef8c4d7b852b"), looks := false }, kinds := [], alts := [], laidByText := true, laidKinds := [.data, .data, .data, .data, .pinned], laidTests := true, laidLooks := .later }
def StateSameMatchesReferenceUptoCardSaid : Prop := Claim7.holds Tryz.pinned (.plain (OpenSpec.upto stateSameMatchesReferenceSpec)) stateSameMatchesReferenceUptoCard

/-- THE SECOND FORM's CARD OF 'copydesklaw07.StateSilentFacts'. -/
def stateSilentFactsUptoCard : Claim7 := { stood := { row := stateSilentFactsUptoRow, standIns := [], harness := (true, "021ad65b4018be75036049c6d7748719cf51cc3f3f92b44422fbef8c4d7b852b"), looks := false }, kinds := [], alts := [], laidByText := true, laidKinds := [.data, .data, .data, .data, .pinned], laidTests := true, laidLooks := .later }
def StateSilentFactsUptoCardSaid : Prop := Claim7.holds Tryz.pinned (.plain (OpenSpec.upto stateSilentFactsSpec)) stateSilentFactsUptoCard

/-- THE SECOND FORM's CARD OF 'copydesklaw07.StateStoriesApart'. -/
def stateStoriesApartUptoCard : Claim7 := { stood := { row := stateStoriesApartUptoRow, standIns := [], harness := (true, "021ad65b4018be75036049c6d7748719cf51cc3f3f92b44422fbef8c4d7b852b"), looks := false }, kinds := [], alts := [], laidByText := true, laidKinds := [.data, .data, .data, .data, .pinned], laidTests := true, laidLooks := .later }
def StateStoriesApartUptoCardSaid : Prop := Claim7.holds Tryz.pinned (.plain (OpenSpec.upto stateStoriesApartSpec)) stateStoriesApartUptoCard

/-- THE SECOND FORM's CARD OF 'copydesklaw07.StateCorrectionsFollow'. -/
def stateCorrectionsFollowUptoCard : Claim7 := { stood := { row := stateCorrectionsFollowUptoRow, standIns := [], harness := (true, "021ad65b4018be75036049c6d7748719cf51cc3f3f92b44422fbef8c4d7b852b"), looks := false }, kinds := [], alts := [], laidByText := true, laidKinds := [.data, .data, .data, .data, .pinned], laidTests := true, laidLooks := .later }
def StateCorrectionsFollowUptoCardSaid : Prop := Claim7.holds Tryz.pinned (.plain (OpenSpec.upto stateCorrectionsFollowSpec)) stateCorrectionsFollowUptoCard

/-- THE SECOND FORM's CARD OF 'copydesklaw07.StateFresh'. -/
def stateFreshUptoCard : Claim7 := { stood := { row := stateFreshUptoRow, standIns := [], harness := (true, "021ad65b4018be75036049c6d7748719cf51cc3f3f92b44422fbef8c4d7b852b"), looks := false }, kinds := [], alts := [], laidByText := true, laidKinds := [.data, .data, .data, .data, .pinned], laidTests := true, laidLooks := .later }
def StateFreshUptoCardSaid : Prop := Claim7.holds Tryz.pinned (.plain (OpenSpec.upto stateFreshSpec)) stateFreshUptoCard
end Rows
end Go.Proofs.YtdkkhmjlamkgdaaGreatDoor
