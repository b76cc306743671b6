/-
  DERIVED. GIVEN WITH THE SEED: THE CARDS: each row of YtemddijemikleaaDoorRows.lean that lists a variable, with what it lists TIED to the program's text (the seventh form; the later family's looks); each row that meets fmt, with fmt's text TOLD by the authors' own Lean function (tested against real Go, not proved from fmt's source: count such statements apart). THE CARD IS WHAT COUNTS. Prove the row's statement (the work); the ties are given (YtemddijemikleaaDoorTie.lean); close each card by the builder's one call (the guide's Derived/Test/ToyasCard.lean, 'card_holds'). Laid BY PROGRAM, IN A SANDBOX (cutbox-door.mjs). By AI agents, Wed Nov 11 2026. No macro, syntax, notation, axiom, sorry.
-/
import Derived.Test.YtemddijemikleaaDoorRows
import GoSem.ClaimSeven
namespace Go.Proofs.YtemddijemikleaaDoor
namespace Rows

/-- THE TIED CARD OF 'partywalllaw06.RowWrites'. -/
def rowWritesCard : Claim7 := { stood := { row := rowWritesRow, standIns := [], harness := (true, "34c5016ae800b033a46d69906f3b3a5736d92cb2f08863f3dd92b05912bfff1e"), looks := false }, kinds := [], alts := [], laidByText := true, laidKinds := [.data, .pinned], laidTests := true, laidLooks := .later }
def RowWritesCardSaid : Prop := Claim7.holds Tryd.pinned (.plain (OpenSpec.ofChange rowWritesSpec)) rowWritesCard

/-- THE TIED CARD OF 'partywalllaw06.RowWords'. -/
def rowWordsCard : Claim7 := { stood := { row := rowWordsRow, standIns := [], harness := (true, "34c5016ae800b033a46d69906f3b3a5736d92cb2f08863f3dd92b05912bfff1e"), looks := false }, kinds := [], alts := [], laidByText := true, laidKinds := [.data, .pinned], laidTests := true, laidLooks := .later }
def RowWordsCardSaid : Prop := Claim7.holds Tryd.pinned (.plain (OpenSpec.ofChange rowWordsSpec)) rowWordsCard

/-- THE TIED CARD OF 'partywalllaw06.RowKnown'. -/
def rowKnownCard : Claim7 := { stood := { row := rowKnownRow, standIns := [], harness := (true, "34c5016ae800b033a46d69906f3b3a5736d92cb2f08863f3dd92b05912bfff1e"), looks := false }, kinds := [], alts := [], laidByText := true, laidKinds := [.data, .pinned], laidTests := true, laidLooks := .later }
def RowKnownCardSaid : Prop := Claim7.holds Tryd.pinned (.plain (OpenSpec.ofChange rowKnownSpec)) rowKnownCard

/-- THE TIED CARD OF 'partywalllaw06.RowBack'. -/
def rowBackCard : Claim7 := { stood := { row := rowBackRow, standIns := [], harness := (true, "34c5016ae800b033a46d69906f3b3a5736d92cb2f08863f3dd92b05912bfff1e"), looks := false }, kinds := [], alts := [], laidByText := true, laidKinds := [.data, .pinned], laidTests := true, laidLooks := .later }
def RowBackCardSaid : Prop := Claim7.holds Tryd.pinned (.plain (OpenSpec.ofChange rowBackSpec)) rowBackCard

/-- THE TIED CARD OF 'partywalllaw06.RowAgain'. -/
def rowAgainCard : Claim7 := { stood := { row := rowAgainRow, standIns := [], harness := (true, "34c5016ae800b033a46d69906f3b3a5736d92cb2f08863f3dd92b05912bfff1e"), looks := false }, kinds := [], alts := [], laidByText := true, laidKinds := [.data, .pinned], laidTests := true, laidLooks := .later }
def RowAgainCardSaid : Prop := Claim7.holds Tryd.pinned (.plain (OpenSpec.ofChange rowAgainSpec)) rowAgainCard

/-- THE TIED CARD OF 'partywalllaw06.RowBytes'. -/
def rowBytesCard : Claim7 := { stood := { row := rowBytesRow, standIns := [], harness := (true, "34c5016ae800b033a46d69906f3b3a5736d92cb2f08863f3dd92b05912bfff1e"), looks := false }, kinds := [], alts := [], laidByText := true, laidKinds := [.data, .pinned], laidTests := true, laidLooks := .later }
def RowBytesCardSaid : Prop := Claim7.holds Tryd.pinned (.plain (OpenSpec.ofChange rowBytesSpec)) rowBytesCard

/-- THE SECOND FORM's CARD OF 'partywalllaw06.RowWrites'. -/
def rowWritesUptoCard : Claim7 := { stood := { row := rowWritesUptoRow, standIns := [], harness := (true, "34c5016ae800b033a46d69906f3b3a5736d92cb2f08863f3dd92b05912bfff1e"), looks := false }, kinds := [], alts := [], laidByText := true, laidKinds := [.data, .pinned], laidTests := true, laidLooks := .later }
def RowWritesUptoCardSaid : Prop := Claim7.holds Tryd.pinned (.plain (OpenSpec.upto rowWritesSpec)) rowWritesUptoCard

/-- THE SECOND FORM's CARD OF 'partywalllaw06.RowWords'. -/
def rowWordsUptoCard : Claim7 := { stood := { row := rowWordsUptoRow, standIns := [], harness := (true, "34c5016ae800b033a46d69906f3b3a5736d92cb2f08863f3dd92b05912bfff1e"), looks := false }, kinds := [], alts := [], laidByText := true, laidKinds := [.data, .pinned], laidTests := true, laidLooks := .later }
def RowWordsUptoCardSaid : Prop := Claim7.holds Tryd.pinned (.plain (OpenSpec.upto rowWordsSpec)) rowWordsUptoCard

/-- THE SECOND FORM's CARD OF 'partywalllaw06.RowKnown'. -/
def rowKnownUptoCard : Claim7 := { stood := { row := rowKnownUptoRow, standIns := [], harness := (true, "34c5016ae800b033a46d69906f3b3a5736d92cb2f08863f3dd92b05912bfff1e"), looks := false }, kinds := [], alts := [], laidByText := true, laidKinds := [.data, .pinned], laidTests := true, laidLooks := .later }
def RowKnownUptoCardSaid : Prop := Claim7.holds Tryd.pinned (.plain (OpenSpec.upto rowKnownSpec)) rowKnownUptoCard

/-- THE SECOND FORM's CARD OF 'partywalllaw06.RowBack'. -/
def rowBackUptoCard : Claim7 := { stood := { row := rowBackUptoRow, standIns := [], harness := (true, "34c5016ae800b033a46d69906f3b3a5736d92cb2f08863f3dd92b05912bfff1e"), looks := false }, kinds := [], alts := [], laidByText := true, laidKinds := [.data, .pinned], laidTests := true, laidLooks := .later }
def RowBackUptoCardSaid : Prop := Claim7.holds Tryd.pinned (.plain (OpenSpec.upto rowBackSpec)) rowBackUptoCard

/-- THE SECOND FORM's CARD OF 'partywalllaw06.RowAgain'. -/
def rowAgainUptoCard : Claim7 := { stood := { row := rowAgainUptoRow, standIns := [], harness := (true, "34c5016ae800b033a46d69906f3b3a5736d92cb2f08863f3dd92b05912bfff1e"), looks := false }, kinds := [], alts := [], laidByText := true, laidKinds := [.data, .pinned], laidTests := true, laidLooks := .later }
def RowAgainUptoCardSaid : Prop := Claim7.holds Tryd.pinned (.plain (OpenSpec.upto rowAgainSpec)) rowAgainUptoCard

/-- THE SECOND FORM's CARD OF 'partywalllaw06.RowBytes'. -/
def rowBytesUptoCard : Claim7 := { stood := { row := rowBytesUptoRow, standIns := [], harness := (true, "34c5016ae800b033a46d69906f3b3a5736d92cb2f08863f3dd92b05912bfff1e"), looks := false }, kinds := [], alts := [], laidByText := true, laidKinds := [.data, .pinned], laidTests := true, laidLooks := .later }
def RowBytesUptoCardSaid : Prop := Claim7.holds Tryd.pinned (.plain (OpenSpec.upto rowBytesSpec)) rowBytesUptoCard
end Rows
end Go.Proofs.YtemddijemikleaaDoor
