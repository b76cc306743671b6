/-
  DERIVED. GIVEN WITH THE SEED: THE CARDS: each row of YtbbkckogjdjjgaaDoorRows.lean that lists a variable, with what it lists TIED to the program's text (the seventh form; the later family's looks); each row that meets fmt, with fmt's text TOLD by the authors' own Lean function (tested against real Go, not proved from fmt's source: count such statements apart). THE CARD IS WHAT COUNTS. Prove the row's statement (the work); the ties are given (YtbbkckogjdjjgaaDoorTie.lean); close each card by the builder's one call (the guide's Derived/Test/ToyasCard.lean, 'card_holds'). Laid BY PROGRAM, IN A SANDBOX (cutbox-door.mjs). By AI agents, Wed Nov 11 2026. No macro, syntax, notation, axiom, sorry.
-/
import Derived.Test.YtbbkckogjdjjgaaDoorRows
import GoSem.ClaimSeven
namespace Go.Proofs.YtbbkckogjdjjgaaDoor
namespace Rows

/-- THE TIED CARD OF 'partywalllaw28.AuditAppends'. -/
def auditAppendsCard : Claim7 := { stood := { row := auditAppendsRow, standIns := [], harness := (true, "05c81fcc41417bd7ab7cefdc94f4af8ee69bcfb752be39a967d251dfeda24bab"), looks := false }, kinds := [], alts := [], laidByText := true, laidKinds := [.data, .data, .data], laidTests := true, laidLooks := .later }
def AuditAppendsCardSaid : Prop := Claim7.holds Tryd.pinned (.plain (OpenSpec.ofChange auditAppendsSpec)) auditAppendsCard

/-- THE TIED CARD OF 'partywalllaw28.AuditBlind'. -/
def auditBlindCard : Claim7 := { stood := { row := auditBlindRow, standIns := [], harness := (true, "05c81fcc41417bd7ab7cefdc94f4af8ee69bcfb752be39a967d251dfeda24bab"), looks := false }, kinds := [], alts := [], laidByText := true, laidKinds := [.data, .data, .data], laidTests := true, laidLooks := .later }
def AuditBlindCardSaid : Prop := Claim7.holds Tryd.pinned (.plain (OpenSpec.ofChange auditBlindSpec)) auditBlindCard

/-- THE TIED CARD OF 'partywalllaw28.AuditKnown'. -/
def auditKnownCard : Claim7 := { stood := { row := auditKnownRow, standIns := [], harness := (true, "05c81fcc41417bd7ab7cefdc94f4af8ee69bcfb752be39a967d251dfeda24bab"), looks := false }, kinds := [], alts := [], laidByText := true, laidKinds := [.data, .data, .data], laidTests := true, laidLooks := .later }
def AuditKnownCardSaid : Prop := Claim7.holds Tryd.pinned (.plain (OpenSpec.ofChange auditKnownSpec)) auditKnownCard

/-- THE TIED CARD OF 'partywalllaw28.AuditParts'. -/
def auditPartsCard : Claim7 := { stood := { row := auditPartsRow, standIns := [], harness := (true, "05c81fcc41417bd7ab7cefdc94f4af8ee69bcfb752be39a967d251dfeda24bab"), looks := false }, kinds := [], alts := [], laidByText := true, laidKinds := [.data, .data, .data], laidTests := true, laidLooks := .later }
def AuditPartsCardSaid : Prop := Claim7.holds Tryd.pinned (.plain (OpenSpec.ofChange auditPartsSpec)) auditPartsCard

/-- THE TIED CARD OF 'partywalllaw28.AuditGrows'. -/
def auditGrowsCard : Claim7 := { stood := { row := auditGrowsRow, standIns := [], harness := (true, "05c81fcc41417bd7ab7cefdc94f4af8ee69bcfb752be39a967d251dfeda24bab"), looks := false }, kinds := [], alts := [], laidByText := true, laidKinds := [.data, .data, .data], laidTests := true, laidLooks := .later }
def AuditGrowsCardSaid : Prop := Claim7.holds Tryd.pinned (.plain (OpenSpec.ofChange auditGrowsSpec)) auditGrowsCard

/-- THE TIED CARD OF 'partywalllaw28.AuditReads'. -/
def auditReadsCard : Claim7 := { stood := { row := auditReadsRow, standIns := [], harness := (true, "05c81fcc41417bd7ab7cefdc94f4af8ee69bcfb752be39a967d251dfeda24bab"), looks := false }, kinds := [], alts := [], laidByText := true, laidKinds := [.data, .data, .data], laidTests := true, laidLooks := .later }
def AuditReadsCardSaid : Prop := Claim7.holds Tryd.pinned (.plain (OpenSpec.ofChange auditReadsSpec)) auditReadsCard

/-- THE SECOND FORM's CARD OF 'partywalllaw28.AuditAppends'. -/
def auditAppendsUptoCard : Claim7 := { stood := { row := auditAppendsUptoRow, standIns := [], harness := (true, "05c81fcc41417bd7ab7cefdc94f4af8ee69bcfb752be39a967d251dfeda24bab"), looks := false }, kinds := [], alts := [], laidByText := true, laidKinds := [.data, .data, .data], laidTests := true, laidLooks := .later }
def AuditAppendsUptoCardSaid : Prop := Claim7.holds Tryd.pinned (.plain (OpenSpec.upto auditAppendsSpec)) auditAppendsUptoCard

/-- THE SECOND FORM's CARD OF 'partywalllaw28.AuditBlind'. -/
def auditBlindUptoCard : Claim7 := { stood := { row := auditBlindUptoRow, standIns := [], harness := (true, "05c81fcc41417bd7ab7cefdc94f4af8ee69bcfb752be39a967d251dfeda24bab"), looks := false }, kinds := [], alts := [], laidByText := true, laidKinds := [.data, .data, .data], laidTests := true, laidLooks := .later }
def AuditBlindUptoCardSaid : Prop := Claim7.holds Tryd.pinned (.plain (OpenSpec.upto auditBlindSpec)) auditBlindUptoCard

/-- THE SECOND FORM's CARD OF 'partywalllaw28.AuditKnown'. -/
def auditKnownUptoCard : Claim7 := { stood := { row := auditKnownUptoRow, standIns := [], harness := (true, "05c81fcc41417bd7ab7cefdc94f4af8ee69bcfb752be39a967d251dfeda24bab"), looks := false }, kinds := [], alts := [], laidByText := true, laidKinds := [.data, .data, .data], laidTests := true, laidLooks := .later }
def AuditKnownUptoCardSaid : Prop := Claim7.holds Tryd.pinned (.plain (OpenSpec.upto auditKnownSpec)) auditKnownUptoCard

/-- THE SECOND FORM's CARD OF 'partywalllaw28.AuditParts'. -/
def auditPartsUptoCard : Claim7 := { stood := { row := auditPartsUptoRow, standIns := [], harness := (true, "05c81fcc41417bd7ab7cefdc94f4af8ee69bcfb752be39a967d251dfeda24bab"), looks := false }, kinds := [], alts := [], laidByText := true, laidKinds := [.data, .data, .data], laidTests := true, laidLooks := .later }
def AuditPartsUptoCardSaid : Prop := Claim7.holds Tryd.pinned (.plain (OpenSpec.upto auditPartsSpec)) auditPartsUptoCard

/-- THE SECOND FORM's CARD OF 'partywalllaw28.AuditGrows'. -/
def auditGrowsUptoCard : Claim7 := { stood := { row := auditGrowsUptoRow, standIns := [], harness := (true, "05c81fcc41417bd7ab7cefdc94f4af8ee69bcfb752be39a967d251dfeda24bab"), looks := false }, kinds := [], alts := [], laidByText := true, laidKinds := [.data, .data, .data], laidTests := true, laidLooks := .later }
def AuditGrowsUptoCardSaid : Prop := Claim7.holds Tryd.pinned (.plain (OpenSpec.upto auditGrowsSpec)) auditGrowsUptoCard

/-- THE SECOND FORM's CARD OF 'partywalllaw28.AuditReads'. -/
def auditReadsUptoCard : Claim7 := { stood := { row := auditReadsUptoRow, standIns := [], harness := (true, "05c81fcc41417bd7ab7cefdc94f4af8ee69bcfb752be39a967d251dfeda24bab"), looks := false }, kinds := [], alts := [], laidByText := true, laidKinds := [.data, .data, .data], laidTests := true, laidLooks := .later }
def AuditReadsUptoCardSaid : Prop := Claim7.holds Tryd.pinned (.plain (OpenSpec.upto auditReadsSpec)) auditReadsUptoCard
end Rows
end Go.Proofs.YtbbkckogjdjjgaaDoor
