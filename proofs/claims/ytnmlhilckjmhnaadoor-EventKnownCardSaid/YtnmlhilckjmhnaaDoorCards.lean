/-
  DERIVED. GIVEN WITH THE SEED: THE CARDS: each row of YtnmlhilckjmhnaaDoorRows.lean that lists a variable, with what it lists TIED to the program's text (the seventh form; the later family's looks); each row that meets fmt, with fmt's text TOLD by the authors' own Lean function (tested against real Go, not proved from fmt's source: count such statements apart). THE CARD IS WHAT COUNTS. Prove the row's statement (the work); the ties are given (YtnmlhilckjmhnaaDoorTie.lean); close each card by the builder's one call (the guide's Derived/Test/ToyasCard.lean, 'card_holds'). Laid BY PROGRAM, IN A SANDBOX (cutbox-door.mjs). By AI agents, Wed Nov 11 2026. No macro, syntax, notation, axiom, sorry.
-/
import Derived.Test.YtnmlhilckjmhnaaDoorRows
import GoSem.ClaimSeven
namespace Go.Proofs.YtnmlhilckjmhnaaDoor
namespace Rows

/-- THE TIED CARD OF 'partywalllaw03.EventOrder'. -/
def eventOrderCard : Claim7 := { stood := { row := eventOrderRow, standIns := [], harness := (true, "4713263376ff40db73f95e6b97e2810f437a372d5f4d306f25f316c68719cbe5"), looks := false }, kinds := [], alts := [], laidByText := true, laidKinds := [.data, .data, .data], laidTests := true, laidLooks := .later }
def EventOrderCardSaid : Prop := Claim7.holds Tryd.pinned (.plain (OpenSpec.ofChange eventOrderSpec)) eventOrderCard

/-- THE TIED CARD OF 'partywalllaw03.EventApart'. -/
def eventApartCard : Claim7 := { stood := { row := eventApartRow, standIns := [], harness := (true, "4713263376ff40db73f95e6b97e2810f437a372d5f4d306f25f316c68719cbe5"), looks := false }, kinds := [], alts := [], laidByText := true, laidKinds := [.data, .data, .data], laidTests := true, laidLooks := .later }
def EventApartCardSaid : Prop := Claim7.holds Tryd.pinned (.plain (OpenSpec.ofChange eventApartSpec)) eventApartCard

/-- THE TIED CARD OF 'partywalllaw03.EventStores'. -/
def eventStoresCard : Claim7 := { stood := { row := eventStoresRow, standIns := [], harness := (true, "4713263376ff40db73f95e6b97e2810f437a372d5f4d306f25f316c68719cbe5"), looks := false }, kinds := [], alts := [], laidByText := true, laidKinds := [.data, .data, .data], laidTests := true, laidLooks := .later }
def EventStoresCardSaid : Prop := Claim7.holds Tryd.pinned (.plain (OpenSpec.ofChange eventStoresSpec)) eventStoresCard

/-- THE TIED CARD OF 'partywalllaw03.EventBytes'. -/
def eventBytesCard : Claim7 := { stood := { row := eventBytesRow, standIns := [], harness := (true, "4713263376ff40db73f95e6b97e2810f437a372d5f4d306f25f316c68719cbe5"), looks := false }, kinds := [], alts := [], laidByText := true, laidKinds := [.data, .data, .data], laidTests := true, laidLooks := .later }
def EventBytesCardSaid : Prop := Claim7.holds Tryd.pinned (.plain (OpenSpec.ofChange eventBytesSpec)) eventBytesCard

/-- THE TIED CARD OF 'partywalllaw03.EventTexts'. -/
def eventTextsCard : Claim7 := { stood := { row := eventTextsRow, standIns := [], harness := (true, "4713263376ff40db73f95e6b97e2810f437a372d5f4d306f25f316c68719cbe5"), looks := false }, kinds := [], alts := [], laidByText := true, laidKinds := [.data, .data, .data, .data, .pinned], laidTests := true, laidLooks := .later }
def EventTextsCardSaid : Prop := Claim7.holds Tryd.pinned (.plain (OpenSpec.ofChange eventTextsSpec)) eventTextsCard

/-- THE TIED CARD OF 'partywalllaw03.EventBack'. -/
def eventBackCard : Claim7 := { stood := { row := eventBackRow, standIns := [], harness := (true, "4713263376ff40db73f95e6b97e2810f437a372d5f4d306f25f316c68719cbe5"), looks := false }, kinds := [], alts := [], laidByText := true, laidKinds := [.data, .data, .data, .data, .pinned], laidTests := true, laidLooks := .later }
def EventBackCardSaid : Prop := Claim7.holds Tryd.pinned (.plain (OpenSpec.ofChange eventBackSpec)) eventBackCard

/-- THE TIED CARD OF 'partywalllaw03.EventKnown'. -/
def eventKnownCard : Claim7 := { stood := { row := eventKnownRow, standIns := [], harness := (true, "4713263376ff40db73f95e6b97e2810f437a372d5f4d306f25f316c68719cbe5"), looks := false }, kinds := [], alts := [], laidByText := true, laidKinds := [.data, .data, .data, .data, .pinned], laidTests := true, laidLooks := .later }
def EventKnownCardSaid : Prop := Claim7.holds Tryd.pinned (.plain (OpenSpec.ofChange eventKnownSpec)) eventKnownCard

/-- THE SECOND FORM's CARD OF 'partywalllaw03.EventOrder'. -/
def eventOrderUptoCard : Claim7 := { stood := { row := eventOrderUptoRow, standIns := [], harness := (true, "4713263376ff40db73f95e6b97e2810f437a372d5f4d306f25f316c68719cbe5"), looks := false }, kinds := [], alts := [], laidByText := true, laidKinds := [.data, .data, .data], laidTests := true, laidLooks := .later }
def EventOrderUptoCardSaid : Prop := Claim7.holds Tryd.pinned (.plain (OpenSpec.upto eventOrderSpec)) eventOrderUptoCard

/-- THE SECOND FORM's CARD OF 'partywalllaw03.EventApart'. -/
def eventApartUptoCard : Claim7 := { stood := { row := eventApartUptoRow, standIns := [], harness := (true, "4713263376ff40db73f95e6b97e2810f437a372d5f4d306f25f316c68719cbe5"), looks := false }, kinds := [], alts := [], laidByText := true, laidKinds := [.data, .data, .data], laidTests := true, laidLooks := .later }
def EventApartUptoCardSaid : Prop := Claim7.holds Tryd.pinned (.plain (OpenSpec.upto eventApartSpec)) eventApartUptoCard

/-- THE SECOND FORM's CARD OF 'partywalllaw03.EventStores'. -/
def eventStoresUptoCard : Claim7 := { stood := { row := eventStoresUptoRow, standIns := [], harness := (true, "4713263376ff40db73f95e6b97e2810f437a372d5f4d306f25f316c68719cbe5"), looks := false }, kinds := [], alts := [], laidByText := true, laidKinds := [.data, .data, .data], laidTests := true, laidLooks := .later }
def EventStoresUptoCardSaid : Prop := Claim7.holds Tryd.pinned (.plain (OpenSpec.upto eventStoresSpec)) eventStoresUptoCard

/-- THE SECOND FORM's CARD OF 'partywalllaw03.EventBytes'. -/
def eventBytesUptoCard : Claim7 := { stood := { row := eventBytesUptoRow, standIns := [], harness := (true, "4713263376ff40db73f95e6b97e2810f437a372d5f4d306f25f316c68719cbe5"), looks := false }, kinds := [], alts := [], laidByText := true, laidKinds := [.data, .data, .data], laidTests := true, laidLooks := .later }
def EventBytesUptoCardSaid : Prop := Claim7.holds Tryd.pinned (.plain (OpenSpec.upto eventBytesSpec)) eventBytesUptoCard

/-- THE SECOND FORM's CARD OF 'partywalllaw03.EventTexts'. -/
def eventTextsUptoCard : Claim7 := { stood := { row := eventTextsUptoRow, standIns := [], harness := (true, "4713263376ff40db73f95e6b97e2810f437a372d5f4d306f25f316c68719cbe5"), looks := false }, kinds := [], alts := [], laidByText := true, laidKinds := [.data, .data, .data, .data, .pinned], laidTests := true, laidLooks := .later }
def EventTextsUptoCardSaid : Prop := Claim7.holds Tryd.pinned (.plain (OpenSpec.upto eventTextsSpec)) eventTextsUptoCard

/-- THE SECOND FORM's CARD OF 'partywalllaw03.EventBack'. -/
def eventBackUptoCard : Claim7 := { stood := { row := eventBackUptoRow, standIns := [], harness := (true, "4713263376ff40db73f95e6b97e2810f437a372d5f4d306f25f316c68719cbe5"), looks := false }, kinds := [], alts := [], laidByText := true, laidKinds := [.data, .data, .data, .data, .pinned], laidTests := true, laidLooks := .later }
def EventBackUptoCardSaid : Prop := Claim7.holds Tryd.pinned (.plain (OpenSpec.upto eventBackSpec)) eventBackUptoCard

/-- THE SECOND FORM's CARD OF 'partywalllaw03.EventKnown'. -/
def eventKnownUptoCard : Claim7 := { stood := { row := eventKnownUptoRow, standIns := [], harness := (true, "4713263376ff40db73f95e6b97e2810f437a372d5f4d306f25f316c68719cbe5"), looks := false }, kinds := [], alts := [], laidByText := true, laidKinds := [.data, .data, .data, .data, .pinned], laidTests := true, laidLooks := .later }
def EventKnownUptoCardSaid : Prop := Claim7.holds Tryd.pinned (.plain (OpenSpec.upto eventKnownSpec)) eventKnownUptoCard
end Rows
end Go.Proofs.YtnmlhilckjmhnaaDoor
