/-
  DERIVED. GIVEN WITH THE SEED: THE CARDS: each row of YtncadbcjikekhaaGreatDoorRows.lean that lists a variable, with what it lists TIED to the program's text (the seventh form; the later family's looks); each row that meets fmt, with fmt's text TOLD by the authors' own Lean function (tested against real Go, not proved from fmt's source: count such statements apart). THE CARD IS WHAT COUNTS. Prove the row's statement (the work); the ties are given (YtncadbcjikekhaaGreatDoorTie.lean); close each card by the builder's one call (the guide's Derived/Test/ToyasCard.lean, 'card_holds'). Laid BY PROGRAM, IN A SANDBOX (cutbox-door.mjs). By AI agents, Wed Nov 11 2026. No macro, syntax, notation, axiom, sorry.
-/
import Derived.Test.YtncadbcjikekhaaGreatDoorRows
import GoSem.ClaimSeven
namespace Go.Proofs.YtncadbcjikekhaaGreatDoor
namespace Rows

/-- THE TIED CARD OF 'partywalllaw17.MatchItems'. -/
def matchItemsCard : Claim7 := { stood := { row := matchItemsRow, standIns := [], harness := (true, "22be4bd8a30bf760abd2b5dccd063fd291b0a6e46ebd3626731f461ceb6b2ae4"), looks := true }, kinds := [], alts := [], laidByText := true, laidKinds := [.data, .data, .data, .data, .pinned], laidTests := true, laidLooks := .later }
def MatchItemsCardSaid : Prop := Claim7.holds Tryz.pinned (.plain (OpenSpec.ofChange matchItemsSpec)) matchItemsCard

/-- THE TIED CARD OF 'partywalllaw17.MatchSorts'. -/
def matchSortsCard : Claim7 := { stood := { row := matchSortsRow, standIns := [], harness := (true, "22be4bd8a30bf760abd2b5dccd063fd291b0a6e46ebd3626731f461ceb6b2ae4"), looks := true }, kinds := [], alts := [], laidByText := true, laidKinds := [.data, .data, .data, .data, .pinned], laidTests := true, laidLooks := .later }
def MatchSortsCardSaid : Prop := Claim7.holds Tryz.pinned (.plain (OpenSpec.ofChange matchSortsSpec)) matchSortsCard

/-- THE TIED CARD OF 'partywalllaw17.MatchReads'. -/
def matchReadsCard : Claim7 := { stood := { row := matchReadsRow, standIns := [], harness := (true, "22be4bd8a30bf760abd2b5dccd063fd291b0a6e46ebd3626731f461ceb6b2ae4"), looks := true }, kinds := [], alts := [], laidByText := true, laidKinds := [.data, .data, .data, .data, .pinned], laidTests := true, laidLooks := .later }
def MatchReadsCardSaid : Prop := Claim7.holds Tryz.pinned (.plain (OpenSpec.ofChange matchReadsSpec)) matchReadsCard

/-- THE TIED CARD OF 'partywalllaw17.MatchOrder'. -/
def matchOrderCard : Claim7 := { stood := { row := matchOrderRow, standIns := [], harness := (true, "22be4bd8a30bf760abd2b5dccd063fd291b0a6e46ebd3626731f461ceb6b2ae4"), looks := true }, kinds := [], alts := [], laidByText := true, laidKinds := [.data, .data, .data, .data, .pinned], laidTests := true, laidLooks := .later }
def MatchOrderCardSaid : Prop := Claim7.holds Tryz.pinned (.plain (OpenSpec.ofChange matchOrderSpec)) matchOrderCard

/-- THE TIED CARD OF 'partywalllaw17.MatchBack'. -/
def matchBackCard : Claim7 := { stood := { row := matchBackRow, standIns := [], harness := (true, "22be4bd8a30bf760abd2b5dccd063fd291b0a6e46ebd3626731f461ceb6b2ae4"), looks := true }, kinds := [], alts := [], laidByText := true, laidKinds := [.data, .data, .data, .data, .pinned], laidTests := true, laidLooks := .later }
def MatchBackCardSaid : Prop := Claim7.holds Tryz.pinned (.plain (OpenSpec.ofChange matchBackSpec)) matchBackCard

/-- THE TIED CARD OF 'partywalllaw17.MatchSorted'. -/
def matchSortedCard : Claim7 := { stood := { row := matchSortedRow, standIns := [], harness := (true, "22be4bd8a30bf760abd2b5dccd063fd291b0a6e46ebd3626731f461ceb6b2ae4"), looks := true }, kinds := [], alts := [], laidByText := true, laidKinds := [.data, .data, .data, .data, .pinned], laidTests := true, laidLooks := .later }
def MatchSortedCardSaid : Prop := Claim7.holds Tryz.pinned (.plain (OpenSpec.ofChange matchSortedSpec)) matchSortedCard

/-- THE SECOND FORM's CARD OF 'partywalllaw17.MatchItems'. -/
def matchItemsUptoCard : Claim7 := { stood := { row := matchItemsUptoRow, standIns := [], harness := (true, "22be4bd8a30bf760abd2b5dccd063fd291b0a6e46ebd3626731f461ceb6b2ae4"), looks := true }, kinds := [], alts := [], laidByText := true, laidKinds := [.data, .data, .data, .data, .pinned], laidTests := true, laidLooks := .later }
def MatchItemsUptoCardSaid : Prop := Claim7.holds Tryz.pinned (.plain (OpenSpec.upto matchItemsSpec)) matchItemsUptoCard

/-- THE SECOND FORM's CARD OF 'partywalllaw17.MatchSorts'. -/
def matchSortsUptoCard : Claim7 := { stood := { row := matchSortsUptoRow, standIns := [], harness := (true, "22be4bd8a30bf760abd2b5dccd063fd291b0a6e46ebd3626731f461ceb6b2ae4"), looks := true }, kinds := [], alts := [], laidByText := true, laidKinds := [.data, .data, .data, .data, .pinned], laidTests := true, laidLooks := .later }
def MatchSortsUptoCardSaid : Prop := Claim7.holds Tryz.pinned (.plain (OpenSpec.upto matchSortsSpec)) matchSortsUptoCard

/-- THE SECOND FORM's CARD OF 'partywalllaw17.MatchReads'. -/
def matchReadsUptoCard : Claim7 := { stood := { row := matchReadsUptoRow, standIns := [], harness := (true, "22be4bd8a30bf760abd2b5dccd063fd291b0a6e46ebd3626731f461ceb6b2ae4"), looks := true }, kinds := [], alts := [], laidByText := true, laidKinds := [.data, .data, .data, .data, .pinned], laidTests := true, laidLooks := .later }
def MatchReadsUptoCardSaid : Prop := Claim7.holds Tryz.pinned (.plain (OpenSpec.upto matchReadsSpec)) matchReadsUptoCard

/-- THE SECOND FORM's CARD OF 'partywalllaw17.MatchOrder'. -/
def matchOrderUptoCard : Claim7 := { stood := { row := matchOrderUptoRow, standIns := [], harness := (true, "22be4bd8a30bf760abd2b5dccd063fd291b0a6e46ebd3626731f461ceb6b2ae4"), looks := true }, kinds := [], alts := [], laidByText := true, laidKinds := [.data, .data, .data, .data, .pinned], laidTests := true, laidLooks := .later }
def MatchOrderUptoCardSaid : Prop := Claim7.holds Tryz.pinned (.plain (OpenSpec.upto matchOrderSpec)) matchOrderUptoCard

/-- THE SECOND FORM's CARD OF 'partywalllaw17.MatchBack'. -/
def matchBackUptoCard : Claim7 := { stood := { row := matchBackUptoRow, standIns := [], harness := (true, "22be4bd8a30bf760abd2b5dccd063fd291b0a6e46ebd3626731f461ceb6b2ae4"), looks := true }, kinds := [], alts := [], laidByText := true, laidKinds := [.data, .data, .data, .data, .pinned], laidTests := true, laidLooks := .later }
def MatchBackUptoCardSaid : Prop := Claim7.holds Tryz.pinned (.plain (OpenSpec.upto matchBackSpec)) matchBackUptoCard

/-- THE SECOND FORM's CARD OF 'partywalllaw17.MatchSorted'. -/
def matchSortedUptoCard : Claim7 := { stood := { row := matchSortedUptoRow, standIns := [], harness := (true, "22be4bd8a30bf760abd2b5dccd063fd291b0a6e46ebd3626731f461ceb6b2ae4"), looks := true }, kinds := [], alts := [], laidByText := true, laidKinds := [.data, .data, .data, .data, .pinned], laidTests := true, laidLooks := .later }
def MatchSortedUptoCardSaid : Prop := Claim7.holds Tryz.pinned (.plain (OpenSpec.upto matchSortedSpec)) matchSortedUptoCard
end Rows
end Go.Proofs.YtncadbcjikekhaaGreatDoor
