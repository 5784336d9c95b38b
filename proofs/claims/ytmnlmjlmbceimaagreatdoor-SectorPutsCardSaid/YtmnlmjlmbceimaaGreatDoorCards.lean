/-
  DERIVED. GIVEN WITH THE SEED: THE CARDS: each row of YtmnlmjlmbceimaaGreatDoorRows.lean that lists a variable, with what it lists TIED to the program's text (the seventh form; the later family's looks); each row that meets fmt, with fmt's text TOLD by the authors' own Lean function (tested against real Go, not proved from fmt's source: count such statements apart). THE CARD IS WHAT COUNTS. Prove the row's statement (the work); the ties are given (YtmnlmjlmbceimaaGreatDoorTie.lean); close each card by the builder's one call (the guide's Derived/Test/ToyasCard.lean, 'card_holds'). Laid BY PROGRAM, IN A SANDBOX (cutbox-door.mjs). By AI agents, Wed Nov 11 2026. No macro, syntax, notation, axiom, sorry.
-/
import Derived.Test.YtmnlmjlmbceimaaGreatDoorRows
import GoSem.ClaimSeven
namespace Go.Proofs.YtmnlmjlmbceimaaGreatDoor
namespace Rows

/-- THE TIED CARD OF 'rilllaw11.SectorPuts'. -/
def sectorPutsCard : Claim7 := { stood := { row := sectorPutsRow, standIns := [], harness := (true, "9876404d299d91f0d43822e946394030e2da80aec66786e161c9b1cedadbdb01"), looks := false }, kinds := [], alts := [], laidByText := true, laidKinds := [.data, .data], laidTests := true, laidLooks := .later }
def SectorPutsCardSaid : Prop := Claim7.holds Tryz.pinned (.plain (OpenSpec.ofChange sectorPutsSpec)) sectorPutsCard

/-- THE SECOND FORM's CARD OF 'rilllaw11.SectorPuts'. -/
def sectorPutsUptoCard : Claim7 := { stood := { row := sectorPutsUptoRow, standIns := [], harness := (true, "9876404d299d91f0d43822e946394030e2da80aec66786e161c9b1cedadbdb01"), looks := false }, kinds := [], alts := [], laidByText := true, laidKinds := [.data, .data], laidTests := true, laidLooks := .later }
def SectorPutsUptoCardSaid : Prop := Claim7.holds Tryz.pinned (.plain (OpenSpec.upto sectorPutsSpec)) sectorPutsUptoCard
end Rows
end Go.Proofs.YtmnlmjlmbceimaaGreatDoor
