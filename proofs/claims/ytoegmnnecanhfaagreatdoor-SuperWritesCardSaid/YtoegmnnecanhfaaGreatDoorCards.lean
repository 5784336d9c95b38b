/-
  DERIVED. GIVEN WITH THE SEED: THE CARDS: each row of YtoegmnnecanhfaaGreatDoorRows.lean that lists a variable, with what it lists TIED to the program's text (the seventh form; the later family's looks); each row that meets fmt, with fmt's text TOLD by the authors' own Lean function (tested against real Go, not proved from fmt's source: count such statements apart). THE CARD IS WHAT COUNTS. Prove the row's statement (the work); the ties are given (YtoegmnnecanhfaaGreatDoorTie.lean); close each card by the builder's one call (the guide's Derived/Test/ToyasCard.lean, 'card_holds'). Laid BY PROGRAM, IN A SANDBOX (cutbox-door.mjs). By AI agents, Wed Nov 11 2026. No macro, syntax, notation, axiom, sorry.
-/
import Derived.Test.YtoegmnnecanhfaaGreatDoorRows
import GoSem.ClaimSeven
namespace Go.Proofs.YtoegmnnecanhfaaGreatDoor
namespace Rows

/-- THE TIED CARD OF 'rilllaw15.SuperWrites'. -/
def superWritesCard : Claim7 := { stood := { row := superWritesRow, standIns := [], harness := (true, "c45979b86827dc84f7bd4f3ee33778c5fd893b8817edc43275494700b26f8b6b"), looks := false }, kinds := [], alts := [], laidByText := true, laidKinds := [.data, .data], laidTests := true, laidLooks := .later }
def SuperWritesCardSaid : Prop := Claim7.holds Tryz.pinned (.plain (OpenSpec.ofChange superWritesSpec)) superWritesCard

/-- THE SECOND FORM's CARD OF 'rilllaw15.SuperWrites'. -/
def superWritesUptoCard : Claim7 := { stood := { row := superWritesUptoRow, standIns := [], harness := (true, "c45979b86827dc84f7bd4f3ee33778c5fd893b8817edc43275494700b26f8b6b"), looks := false }, kinds := [], alts := [], laidByText := true, laidKinds := [.data, .data], laidTests := true, laidLooks := .later }
def SuperWritesUptoCardSaid : Prop := Claim7.holds Tryz.pinned (.plain (OpenSpec.upto superWritesSpec)) superWritesUptoCard
end Rows
end Go.Proofs.YtoegmnnecanhfaaGreatDoor
