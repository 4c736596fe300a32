/-
  DERIVED. GIVEN WITH THE SEED: THE CARDS: each row of YtikpbknafhnieaaGreatDoorRows.lean that lists a variable, with what it lists TIED to the program's text (the seventh form; the later family's looks); each row that meets fmt, with fmt's text TOLD by the authors' own Lean function (tested against real Go, not proved from fmt's source: count such statements apart). THE CARD IS WHAT COUNTS. Prove the row's statement (the work); the ties are given (YtikpbknafhnieaaGreatDoorTie.lean); close each card by the builder's one call (the guide's Derived/Test/ToyasCard.lean, 'card_holds'). Laid BY PROGRAM, IN A SANDBOX (cutbox-door.mjs). By AI agents, Wed Nov 11 2026. No macro, syntax, notation, axiom, sorry.
-/
import Derived.Test.YtikpbknafhnieaaGreatDoorRows
import GoSem.ClaimSeven
namespace Go.Proofs.YtikpbknafhnieaaGreatDoor
namespace Rows

/-- THE TIED CARD OF 'copydesklaw04.MergeMatchesReference'. -/
def mergeMatchesReferenceCard : Claim7 := { stood := { row := mergeMatchesReferenceRow, standIns := [], harness := (true, "c7ab49f183efeb00490baa4270da880c444d6998b57399a2af6b95a30db18281"), looks := false }, kinds := [], alts := [], laidByText := true, laidKinds := [.data, .pinned], laidTests := true, laidLooks := .later }
def MergeMatchesReferenceCardSaid : Prop := Claim7.holds Tryz.pinned (.plain (OpenSpec.ofChange mergeMatchesReferenceSpec)) mergeMatchesReferenceCard

/-- THE TIED CARD OF 'copydesklaw04.MergeErrors'. -/
def mergeErrorsCard : Claim7 := { stood := { row := mergeErrorsRow, standIns := [], harness := (true, "c7ab49f183efeb00490baa4270da880c444d6998b57399a2af6b95a30db18281"), looks := false }, kinds := [], alts := [], laidByText := true, laidKinds := [.data, .pinned], laidTests := true, laidLooks := .later }
def MergeErrorsCardSaid : Prop := Claim7.holds Tryz.pinned (.plain (OpenSpec.ofChange mergeErrorsSpec)) mergeErrorsCard

/-- THE TIED CARD OF 'copydesklaw04.MergeContents'. -/
def mergeContentsCard : Claim7 := { stood := { row := mergeContentsRow, standIns := [], harness := (true, "c7ab49f183efeb00490baa4270da880c444d6998b57399a2af6b95a30db18281"), looks := false }, kinds := [], alts := [], laidByText := true, laidKinds := [.data, .pinned], laidTests := true, laidLooks := .later }
def MergeContentsCardSaid : Prop := Claim7.holds Tryz.pinned (.plain (OpenSpec.ofChange mergeContentsSpec)) mergeContentsCard

/-- THE TIED CARD OF 'copydesklaw04.MergeConflicts'. -/
def mergeConflictsCard : Claim7 := { stood := { row := mergeConflictsRow, standIns := [], harness := (true, "c7ab49f183efeb00490baa4270da880c444d6998b57399a2af6b95a30db18281"), looks := false }, kinds := [], alts := [], laidByText := true, laidKinds := [.data, .pinned], laidTests := true, laidLooks := .later }
def MergeConflictsCardSaid : Prop := Claim7.holds Tryz.pinned (.plain (OpenSpec.ofChange mergeConflictsSpec)) mergeConflictsCard

/-- THE TIED CARD OF 'copydesklaw04.MergeExchanged'. -/
def mergeExchangedCard : Claim7 := { stood := { row := mergeExchangedRow, standIns := [], harness := (true, "c7ab49f183efeb00490baa4270da880c444d6998b57399a2af6b95a30db18281"), looks := false }, kinds := [], alts := [], laidByText := true, laidKinds := [.data, .pinned], laidTests := true, laidLooks := .later }
def MergeExchangedCardSaid : Prop := Claim7.holds Tryz.pinned (.plain (OpenSpec.ofChange mergeExchangedSpec)) mergeExchangedCard

/-- THE TIED CARD OF 'copydesklaw04.MergeAgain'. -/
def mergeAgainCard : Claim7 := { stood := { row := mergeAgainRow, standIns := [], harness := (true, "c7ab49f183efeb00490baa4270da880c444d6998b57399a2af6b95a30db18281"), looks := false }, kinds := [], alts := [], laidByText := true, laidKinds := [.data, .pinned], laidTests := true, laidLooks := .later }
def MergeAgainCardSaid : Prop := Claim7.holds Tryz.pinned (.plain (OpenSpec.ofChange mergeAgainSpec)) mergeAgainCard

/-- THE TIED CARD OF 'copydesklaw04.MergeKeepsOrder'. -/
def mergeKeepsOrderCard : Claim7 := { stood := { row := mergeKeepsOrderRow, standIns := [], harness := (true, "c7ab49f183efeb00490baa4270da880c444d6998b57399a2af6b95a30db18281"), looks := false }, kinds := [], alts := [], laidByText := true, laidKinds := [.data, .pinned], laidTests := true, laidLooks := .later }
def MergeKeepsOrderCardSaid : Prop := Claim7.holds Tryz.pinned (.plain (OpenSpec.ofChange mergeKeepsOrderSpec)) mergeKeepsOrderCard

/-- THE TIED CARD OF 'copydesklaw04.MergeOwns'. -/
def mergeOwnsCard : Claim7 := { stood := { row := mergeOwnsRow, standIns := [], harness := (true, "c7ab49f183efeb00490baa4270da880c444d6998b57399a2af6b95a30db18281"), looks := false }, kinds := [], alts := [], laidByText := true, laidKinds := [.data, .pinned], laidTests := true, laidLooks := .later }
def MergeOwnsCardSaid : Prop := Claim7.holds Tryz.pinned (.plain (OpenSpec.ofChange mergeOwnsSpec)) mergeOwnsCard

/-- THE TIED CARD OF 'copydesklaw04.MergeOneSide'. -/
def mergeOneSideCard : Claim7 := { stood := { row := mergeOneSideRow, standIns := [], harness := (true, "c7ab49f183efeb00490baa4270da880c444d6998b57399a2af6b95a30db18281"), looks := false }, kinds := [], alts := [], laidByText := true, laidKinds := [.data, .pinned], laidTests := true, laidLooks := .later }
def MergeOneSideCardSaid : Prop := Claim7.holds Tryz.pinned (.plain (OpenSpec.ofChange mergeOneSideSpec)) mergeOneSideCard

/-- THE SECOND FORM's CARD OF 'copydesklaw04.MergeMatchesReference'. -/
def mergeMatchesReferenceUptoCard : Claim7 := { stood := { row := mergeMatchesReferenceUptoRow, standIns := [], harness := (true, "c7ab49f183efeb00490baa4270da880c444d6998b57399a2af6b95a30db18281"), looks := false }, kinds := [], alts := [], laidByText := true, laidKinds := [.data, .pinned], laidTests := true, laidLooks := .later }
def MergeMatchesReferenceUptoCardSaid : Prop := Claim7.holds Tryz.pinned (.plain (OpenSpec.upto mergeMatchesReferenceSpec)) mergeMatchesReferenceUptoCard

/-- THE SECOND FORM's CARD OF 'copydesklaw04.MergeErrors'. -/
def mergeErrorsUptoCard : Claim7 := { stood := { row := mergeErrorsUptoRow, standIns := [], harness := (true, "c7ab49f183efeb00490baa4270da880c444d6998b57399a2af6b95a30db18281"), looks := false }, kinds := [], alts := [], laidByText := true, laidKinds := [.data, .pinned], laidTests := true, laidLooks := .later }
def MergeErrorsUptoCardSaid : Prop := Claim7.holds Tryz.pinned (.plain (OpenSpec.upto mergeErrorsSpec)) mergeErrorsUptoCard

/-- THE SECOND FORM's CARD OF 'copydesklaw04.MergeContents'. -/
def mergeContentsUptoCard : Claim7 := { stood := { row := mergeContentsUptoRow, standIns := [], harness := (true, "c7ab49f183efeb00490baa4270da880c444d6998b57399a2af6b95a30db18281"), looks := false }, kinds := [], alts := [], laidByText := true, laidKinds := [.data, .pinned], laidTests := true, laidLooks := .later }
def MergeContentsUptoCardSaid : Prop := Claim7.holds Tryz.pinned (.plain (OpenSpec.upto mergeContentsSpec)) mergeContentsUptoCard

/-- THE SECOND FORM's CARD OF 'copydesklaw04.MergeConflicts'. -/
def mergeConflictsUptoCard : Claim7 := { stood := { row := mergeConflictsUptoRow, standIns := [], harness := (true, "c7ab49f183efeb00490baa4270da880c444d6998b57399a2af6b95a30db18281"), looks := false }, kinds := [], alts := [], laidByText := true, laidKinds := [.data, .pinned], laidTests := true, laidLooks := .later }
def MergeConflictsUptoCardSaid : Prop := Claim7.holds Tryz.pinned (.plain (OpenSpec.upto mergeConflictsSpec)) mergeConflictsUptoCard

/-- THE SECOND FORM's CARD OF 'copydesklaw04.MergeExchanged'. -/
def mergeExchangedUptoCard : Claim7 := { stood := { row := mergeExchangedUptoRow, standIns := [], harness := (true, "c7ab49f183efeb00490baa4270da880c444d6998b57399a2af6b95a30db18281"), looks := false }, kinds := [], alts := [], laidByText := true, laidKinds := [.data, .pinned], laidTests := true, laidLooks := .later }
def MergeExchangedUptoCardSaid : Prop := Claim7.holds Tryz.pinned (.plain (OpenSpec.upto mergeExchangedSpec)) mergeExchangedUptoCard

/-- THE SECOND FORM's CARD OF 'copydesklaw04.MergeAgain'. -/
def mergeAgainUptoCard : Claim7 := { stood := { row := mergeAgainUptoRow, standIns := [], harness := (true, "c7ab49f183efeb00490baa4270da880c444d6998b57399a2af6b95a30db18281"), looks := false }, kinds := [], alts := [], laidByText := true, laidKinds := [.data, .pinned], laidTests := true, laidLooks := .later }
def MergeAgainUptoCardSaid : Prop := Claim7.holds Tryz.pinned (.plain (OpenSpec.upto mergeAgainSpec)) mergeAgainUptoCard

/-- THE SECOND FORM's CARD OF 'copydesklaw04.MergeKeepsOrder'. -/
def mergeKeepsOrderUptoCard : Claim7 := { stood := { row := mergeKeepsOrderUptoRow, standIns := [], harness := (true, "c7ab49f183efeb00490baa4270da880c444d6998b57399a2af6b95a30db18281"), looks := false }, kinds := [], alts := [], laidByText := true, laidKinds := [.data, .pinned], laidTests := true, laidLooks := .later }
def MergeKeepsOrderUptoCardSaid : Prop := Claim7.holds Tryz.pinned (.plain (OpenSpec.upto mergeKeepsOrderSpec)) mergeKeepsOrderUptoCard

/-- THE SECOND FORM's CARD OF 'copydesklaw04.MergeOwns'. -/
def mergeOwnsUptoCard : Claim7 := { stood := { row := mergeOwnsUptoRow, standIns := [], harness := (true, "c7ab49f183efeb00490baa4270da880c444d6998b57399a2af6b95a30db18281"), looks := false }, kinds := [], alts := [], laidByText := true, laidKinds := [.data, .pinned], laidTests := true, laidLooks := .later }
def MergeOwnsUptoCardSaid : Prop := Claim7.holds Tryz.pinned (.plain (OpenSpec.upto mergeOwnsSpec)) mergeOwnsUptoCard

/-- THE SECOND FORM's CARD OF 'copydesklaw04.MergeOneSide'. -/
def mergeOneSideUptoCard : Claim7 := { stood := { row := mergeOneSideUptoRow, standIns := [], harness := (true, "c7ab49f183efeb00490baa4270da880c444d6998b57399a2af6b95a30db18281"), looks := false }, kinds := [], alts := [], laidByText := true, laidKinds := [.data, .pinned], laidTests := true, laidLooks := .later }
def MergeOneSideUptoCardSaid : Prop := Claim7.holds Tryz.pinned (.plain (OpenSpec.upto mergeOneSideSpec)) mergeOneSideUptoCard
end Rows
end Go.Proofs.YtikpbknafhnieaaGreatDoor
