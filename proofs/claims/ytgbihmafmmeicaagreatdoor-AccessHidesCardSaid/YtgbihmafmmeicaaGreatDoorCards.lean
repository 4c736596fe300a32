/-
  DERIVED. GIVEN WITH THE SEED: THE CARDS: each row of YtgbihmafmmeicaaGreatDoorRows.lean that lists a variable, with what it lists TIED to the program's text (the seventh form; the later family's looks); each row that meets fmt, with fmt's text TOLD by the authors' own Lean function (tested against real Go, not proved from fmt's source: count such statements apart). THE CARD IS WHAT COUNTS. Prove the row's statement (the work); the ties are given (YtgbihmafmmeicaaGreatDoorTie.lean); close each card by the builder's one call (the guide's Derived/Test/ToyasCard.lean, 'card_holds'). Laid BY PROGRAM, IN A SANDBOX (cutbox-door.mjs). By AI agents, Wed Nov 11 2026. No macro, syntax, notation, axiom, sorry.
-/
import Derived.Test.YtgbihmafmmeicaaGreatDoorRows
import GoSem.ClaimSeven
namespace Go.Proofs.YtgbihmafmmeicaaGreatDoor
namespace Rows

/-- THE TIED CARD OF 'copydesklaw06.AccessOutLeast'. -/
def accessOutLeastCard : Claim7 := { stood := { row := accessOutLeastRow, standIns := [], harness := (true, "37cbbdda66596ffed587f2ae646d58f35f5b5309847f394b3aa1c42616a0337c"), looks := false }, kinds := [], alts := [], laidByText := true, laidKinds := [.data, .pinned], laidTests := true, laidLooks := .later }
def AccessOutLeastCardSaid : Prop := Claim7.holds Tryz.pinned (.plain (OpenSpec.ofChange accessOutLeastSpec)) accessOutLeastCard

/-- THE TIED CARD OF 'copydesklaw06.AccessOutGrows'. -/
def accessOutGrowsCard : Claim7 := { stood := { row := accessOutGrowsRow, standIns := [], harness := (true, "37cbbdda66596ffed587f2ae646d58f35f5b5309847f394b3aa1c42616a0337c"), looks := false }, kinds := [], alts := [], laidByText := true, laidKinds := [.data, .pinned], laidTests := true, laidLooks := .later }
def AccessOutGrowsCardSaid : Prop := Claim7.holds Tryz.pinned (.plain (OpenSpec.ofChange accessOutGrowsSpec)) accessOutGrowsCard

/-- THE TIED CARD OF 'copydesklaw06.AccessHides'. -/
def accessHidesCard : Claim7 := { stood := { row := accessHidesRow, standIns := [], harness := (true, "37cbbdda66596ffed587f2ae646d58f35f5b5309847f394b3aa1c42616a0337c"), looks := false }, kinds := [], alts := [], laidByText := true, laidKinds := [.data, .pinned], laidTests := true, laidLooks := .later }
def AccessHidesCardSaid : Prop := Claim7.holds Tryz.pinned (.plain (OpenSpec.ofChange accessHidesSpec)) accessHidesCard

/-- THE TIED CARD OF 'copydesklaw06.AccessStable'. -/
def accessStableCard : Claim7 := { stood := { row := accessStableRow, standIns := [], harness := (true, "37cbbdda66596ffed587f2ae646d58f35f5b5309847f394b3aa1c42616a0337c"), looks := false }, kinds := [], alts := [], laidByText := true, laidKinds := [.data, .pinned], laidTests := true, laidLooks := .later }
def AccessStableCardSaid : Prop := Claim7.holds Tryz.pinned (.plain (OpenSpec.ofChange accessStableSpec)) accessStableCard

/-- THE TIED CARD OF 'copydesklaw06.AccessRedacted'. -/
def accessRedactedCard : Claim7 := { stood := { row := accessRedactedRow, standIns := [], harness := (true, "37cbbdda66596ffed587f2ae646d58f35f5b5309847f394b3aa1c42616a0337c"), looks := false }, kinds := [], alts := [], laidByText := true, laidKinds := [.data, .pinned], laidTests := true, laidLooks := .later }
def AccessRedactedCardSaid : Prop := Claim7.holds Tryz.pinned (.plain (OpenSpec.ofChange accessRedactedSpec)) accessRedactedCard

/-- THE TIED CARD OF 'copydesklaw06.AccessTaken'. -/
def accessTakenCard : Claim7 := { stood := { row := accessTakenRow, standIns := [], harness := (true, "37cbbdda66596ffed587f2ae646d58f35f5b5309847f394b3aa1c42616a0337c"), looks := false }, kinds := [], alts := [], laidByText := true, laidKinds := [.data, .pinned], laidTests := true, laidLooks := .later }
def AccessTakenCardSaid : Prop := Claim7.holds Tryz.pinned (.plain (OpenSpec.ofChange accessTakenSpec)) accessTakenCard

/-- THE TIED CARD OF 'copydesklaw06.AccessMemory'. -/
def accessMemoryCard : Claim7 := { stood := { row := accessMemoryRow, standIns := [], harness := (true, "37cbbdda66596ffed587f2ae646d58f35f5b5309847f394b3aa1c42616a0337c"), looks := false }, kinds := [], alts := [], laidByText := true, laidKinds := [.data, .pinned], laidTests := true, laidLooks := .later }
def AccessMemoryCardSaid : Prop := Claim7.holds Tryz.pinned (.plain (OpenSpec.ofChange accessMemorySpec)) accessMemoryCard

/-- THE SECOND FORM's CARD OF 'copydesklaw06.AccessOutLeast'. -/
def accessOutLeastUptoCard : Claim7 := { stood := { row := accessOutLeastUptoRow, standIns := [], harness := (true, "37cbbdda66596ffed587f2ae646d58f35f5b5309847f394b3aa1c42616a0337c"), looks := false }, kinds := [], alts := [], laidByText := true, laidKinds := [.data, .pinned], laidTests := true, laidLooks := .later }
def AccessOutLeastUptoCardSaid : Prop := Claim7.holds Tryz.pinned (.plain (OpenSpec.upto accessOutLeastSpec)) accessOutLeastUptoCard

/-- THE SECOND FORM's CARD OF 'copydesklaw06.AccessOutGrows'. -/
def accessOutGrowsUptoCard : Claim7 := { stood := { row := accessOutGrowsUptoRow, standIns := [], harness := (true, "37cbbdda66596ffed587f2ae646d58f35f5b5309847f394b3aa1c42616a0337c"), looks := false }, kinds := [], alts := [], laidByText := true, laidKinds := [.data, .pinned], laidTests := true, laidLooks := .later }
def AccessOutGrowsUptoCardSaid : Prop := Claim7.holds Tryz.pinned (.plain (OpenSpec.upto accessOutGrowsSpec)) accessOutGrowsUptoCard

/-- THE SECOND FORM's CARD OF 'copydesklaw06.AccessHides'. -/
def accessHidesUptoCard : Claim7 := { stood := { row := accessHidesUptoRow, standIns := [], harness := (true, "37cbbdda66596ffed587f2ae646d58f35f5b5309847f394b3aa1c42616a0337c"), looks := false }, kinds := [], alts := [], laidByText := true, laidKinds := [.data, .pinned], laidTests := true, laidLooks := .later }
def AccessHidesUptoCardSaid : Prop := Claim7.holds Tryz.pinned (.plain (OpenSpec.upto accessHidesSpec)) accessHidesUptoCard

/-- THE SECOND FORM's CARD OF 'copydesklaw06.AccessStable'. -/
def accessStableUptoCard : Claim7 := { stood := { row := accessStableUptoRow, standIns := [], harness := (true, "37cbbdda66596ffed587f2ae646d58f35f5b5309847f394b3aa1c42616a0337c"), looks := false }, kinds := [], alts := [], laidByText := true, laidKinds := [.data, .pinned], laidTests := true, laidLooks := .later }
def AccessStableUptoCardSaid : Prop := Claim7.holds Tryz.pinned (.plain (OpenSpec.upto accessStableSpec)) accessStableUptoCard

/-- THE SECOND FORM's CARD OF 'copydesklaw06.AccessRedacted'. -/
def accessRedactedUptoCard : Claim7 := { stood := { row := accessRedactedUptoRow, standIns := [], harness := (true, "37cbbdda66596ffed587f2ae646d58f35f5b5309847f394b3aa1c42616a0337c"), looks := false }, kinds := [], alts := [], laidByText := true, laidKinds := [.data, .pinned], laidTests := true, laidLooks := .later }
def AccessRedactedUptoCardSaid : Prop := Claim7.holds Tryz.pinned (.plain (OpenSpec.upto accessRedactedSpec)) accessRedactedUptoCard

/-- THE SECOND FORM's CARD OF 'copydesklaw06.AccessTaken'. -/
def accessTakenUptoCard : Claim7 := { stood := { row := accessTakenUptoRow, standIns := [], harness := (true, "37cbbdda66596ffed587f2ae646d58f35f5b5309847f394b3aa1c42616a0337c"), looks := false }, kinds := [], alts := [], laidByText := true, laidKinds := [.data, .pinned], laidTests := true, laidLooks := .later }
def AccessTakenUptoCardSaid : Prop := Claim7.holds Tryz.pinned (.plain (OpenSpec.upto accessTakenSpec)) accessTakenUptoCard

/-- THE SECOND FORM's CARD OF 'copydesklaw06.AccessMemory'. -/
def accessMemoryUptoCard : Claim7 := { stood := { row := accessMemoryUptoRow, standIns := [], harness := (true, "37cbbdda66596ffed587f2ae646d58f35f5b5309847f394b3aa1c42616a0337c"), looks := false }, kinds := [], alts := [], laidByText := true, laidKinds := [.data, .pinned], laidTests := true, laidLooks := .later }
def AccessMemoryUptoCardSaid : Prop := Claim7.holds Tryz.pinned (.plain (OpenSpec.upto accessMemorySpec)) accessMemoryUptoCard
end Rows
end Go.Proofs.YtgbihmafmmeicaaGreatDoor
