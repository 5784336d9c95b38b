/-
  DERIVED. GIVEN WITH THE SEED: THE CARDS: each row of YtmnlmjlmbceimaaDoorRows.lean that lists a variable, with what it lists TIED to the program's text (the seventh form; the later family's looks); each row that meets fmt, with fmt's text TOLD by the authors' own Lean function (tested against real Go, not proved from fmt's source: count such statements apart). THE CARD IS WHAT COUNTS. Prove the row's statement (the work); the ties are given (YtmnlmjlmbceimaaDoorTie.lean); close each card by the builder's one call (the guide's Derived/Test/ToyasCard.lean, 'card_holds'). Laid BY PROGRAM, IN A SANDBOX (cutbox-door.mjs). By AI agents, Wed Nov 11 2026. No macro, syntax, notation, axiom, sorry.
-/
import Derived.Test.YtmnlmjlmbceimaaDoorRows
import GoSem.ClaimSeven
namespace Go.Proofs.YtmnlmjlmbceimaaDoor
namespace Rows

/-- THE TIED CARD OF 'rilllaw11.SectorBack'. -/
def sectorBackCard : Claim7 := { stood := { row := sectorBackRow, standIns := [], harness := (true, "0c7e55e46b35a2e92a5924e17fcfe984d3d7db7983f57e23da153d4e376affb1"), looks := false }, kinds := [], alts := [], laidByText := true, laidKinds := [.data], laidTests := true, laidLooks := .later }
def SectorBackCardSaid : Prop := Claim7.holds Tryd.pinned (.plain (OpenSpec.ofChange sectorBackSpec)) sectorBackCard

/-- THE TIED CARD OF 'rilllaw11.SectorOnly'. -/
def sectorOnlyCard : Claim7 := { stood := { row := sectorOnlyRow, standIns := [], harness := (true, "0c7e55e46b35a2e92a5924e17fcfe984d3d7db7983f57e23da153d4e376affb1"), looks := false }, kinds := [], alts := [], laidByText := true, laidKinds := [.data], laidTests := true, laidLooks := .later }
def SectorOnlyCardSaid : Prop := Claim7.holds Tryd.pinned (.plain (OpenSpec.ofChange sectorOnlySpec)) sectorOnlyCard

/-- THE TIED CARD OF 'rilllaw11.SectorFound'. -/
def sectorFoundCard : Claim7 := { stood := { row := sectorFoundRow, standIns := [], harness := (true, "0c7e55e46b35a2e92a5924e17fcfe984d3d7db7983f57e23da153d4e376affb1"), looks := false }, kinds := [], alts := [], laidByText := true, laidKinds := [.data], laidTests := true, laidLooks := .later }
def SectorFoundCardSaid : Prop := Claim7.holds Tryd.pinned (.plain (OpenSpec.ofChange sectorFoundSpec)) sectorFoundCard

/-- THE TIED CARD OF 'rilllaw11.SectorKnown'. -/
def sectorKnownCard : Claim7 := { stood := { row := sectorKnownRow, standIns := [], harness := (true, "0c7e55e46b35a2e92a5924e17fcfe984d3d7db7983f57e23da153d4e376affb1"), looks := false }, kinds := [], alts := [], laidByText := true, laidKinds := [.data], laidTests := true, laidLooks := .later }
def SectorKnownCardSaid : Prop := Claim7.holds Tryd.pinned (.plain (OpenSpec.ofChange sectorKnownSpec)) sectorKnownCard

/-- THE TIED CARD OF 'rilllaw11.SectorUnlike'. -/
def sectorUnlikeCard : Claim7 := { stood := { row := sectorUnlikeRow, standIns := [], harness := (true, "0c7e55e46b35a2e92a5924e17fcfe984d3d7db7983f57e23da153d4e376affb1"), looks := false }, kinds := [], alts := [], laidByText := true, laidKinds := [.data], laidTests := true, laidLooks := .later }
def SectorUnlikeCardSaid : Prop := Claim7.holds Tryd.pinned (.plain (OpenSpec.ofChange sectorUnlikeSpec)) sectorUnlikeCard

/-- THE SECOND FORM's CARD OF 'rilllaw11.SectorBack'. -/
def sectorBackUptoCard : Claim7 := { stood := { row := sectorBackUptoRow, standIns := [], harness := (true, "0c7e55e46b35a2e92a5924e17fcfe984d3d7db7983f57e23da153d4e376affb1"), looks := false }, kinds := [], alts := [], laidByText := true, laidKinds := [.data], laidTests := true, laidLooks := .later }
def SectorBackUptoCardSaid : Prop := Claim7.holds Tryd.pinned (.plain (OpenSpec.upto sectorBackSpec)) sectorBackUptoCard

/-- THE SECOND FORM's CARD OF 'rilllaw11.SectorOnly'. -/
def sectorOnlyUptoCard : Claim7 := { stood := { row := sectorOnlyUptoRow, standIns := [], harness := (true, "0c7e55e46b35a2e92a5924e17fcfe984d3d7db7983f57e23da153d4e376affb1"), looks := false }, kinds := [], alts := [], laidByText := true, laidKinds := [.data], laidTests := true, laidLooks := .later }
def SectorOnlyUptoCardSaid : Prop := Claim7.holds Tryd.pinned (.plain (OpenSpec.upto sectorOnlySpec)) sectorOnlyUptoCard

/-- THE SECOND FORM's CARD OF 'rilllaw11.SectorFound'. -/
def sectorFoundUptoCard : Claim7 := { stood := { row := sectorFoundUptoRow, standIns := [], harness := (true, "0c7e55e46b35a2e92a5924e17fcfe984d3d7db7983f57e23da153d4e376affb1"), looks := false }, kinds := [], alts := [], laidByText := true, laidKinds := [.data], laidTests := true, laidLooks := .later }
def SectorFoundUptoCardSaid : Prop := Claim7.holds Tryd.pinned (.plain (OpenSpec.upto sectorFoundSpec)) sectorFoundUptoCard

/-- THE SECOND FORM's CARD OF 'rilllaw11.SectorKnown'. -/
def sectorKnownUptoCard : Claim7 := { stood := { row := sectorKnownUptoRow, standIns := [], harness := (true, "0c7e55e46b35a2e92a5924e17fcfe984d3d7db7983f57e23da153d4e376affb1"), looks := false }, kinds := [], alts := [], laidByText := true, laidKinds := [.data], laidTests := true, laidLooks := .later }
def SectorKnownUptoCardSaid : Prop := Claim7.holds Tryd.pinned (.plain (OpenSpec.upto sectorKnownSpec)) sectorKnownUptoCard

/-- THE SECOND FORM's CARD OF 'rilllaw11.SectorUnlike'. -/
def sectorUnlikeUptoCard : Claim7 := { stood := { row := sectorUnlikeUptoRow, standIns := [], harness := (true, "0c7e55e46b35a2e92a5924e17fcfe984d3d7db7983f57e23da153d4e376affb1"), looks := false }, kinds := [], alts := [], laidByText := true, laidKinds := [.data], laidTests := true, laidLooks := .later }
def SectorUnlikeUptoCardSaid : Prop := Claim7.holds Tryd.pinned (.plain (OpenSpec.upto sectorUnlikeSpec)) sectorUnlikeUptoCard
end Rows
end Go.Proofs.YtmnlmjlmbceimaaDoor
