/-
  DERIVED. GIVEN WITH THE SEED: THE CARDS: each row of YtdmdakaliilghaaDoorRows.lean that lists a variable, with what it lists TIED to the program's text (the seventh form; the later family's looks); each row that meets fmt, with fmt's text TOLD by the authors' own Lean function (tested against real Go, not proved from fmt's source: count such statements apart). THE CARD IS WHAT COUNTS. Prove the row's statement (the work); the ties are given (YtdmdakaliilghaaDoorTie.lean); close each card by the builder's one call (the guide's Derived/Test/ToyasCard.lean, 'card_holds'). Laid BY PROGRAM, IN A SANDBOX (cutbox-door.mjs). By AI agents, Wed Nov 11 2026. No macro, syntax, notation, axiom, sorry.
-/
import Derived.Test.YtdmdakaliilghaaDoorRows
import GoSem.ClaimSeven
namespace Go.Proofs.YtdmdakaliilghaaDoor
namespace Rows

/-- THE TIED CARD OF 'rilllaw05.SealBack'. -/
def sealBackCard : Claim7 := { stood := { row := sealBackRow, standIns := [], harness := (true, "18134bf5994e1861323edf7644ed147bcb5d24620a7c51293adc2f83699a7c2c"), looks := false }, kinds := [], alts := [], laidByText := true, laidKinds := [.data], laidTests := true, laidLooks := .later }
def SealBackCardSaid : Prop := Claim7.holds Tryd.pinned (.plain (OpenSpec.ofChange sealBackSpec)) sealBackCard

/-- THE TIED CARD OF 'rilllaw05.SealOnly'. -/
def sealOnlyCard : Claim7 := { stood := { row := sealOnlyRow, standIns := [], harness := (true, "18134bf5994e1861323edf7644ed147bcb5d24620a7c51293adc2f83699a7c2c"), looks := false }, kinds := [], alts := [], laidByText := true, laidKinds := [.data], laidTests := true, laidLooks := .later }
def SealOnlyCardSaid : Prop := Claim7.holds Tryd.pinned (.plain (OpenSpec.ofChange sealOnlySpec)) sealOnlyCard

/-- THE TIED CARD OF 'rilllaw05.SealKnown'. -/
def sealKnownCard : Claim7 := { stood := { row := sealKnownRow, standIns := [], harness := (true, "18134bf5994e1861323edf7644ed147bcb5d24620a7c51293adc2f83699a7c2c"), looks := false }, kinds := [], alts := [], laidByText := true, laidKinds := [.data], laidTests := true, laidLooks := .later }
def SealKnownCardSaid : Prop := Claim7.holds Tryd.pinned (.plain (OpenSpec.ofChange sealKnownSpec)) sealKnownCard

/-- THE TIED CARD OF 'rilllaw05.SealSeals'. -/
def sealSealsCard : Claim7 := { stood := { row := sealSealsRow, standIns := [], harness := (true, "18134bf5994e1861323edf7644ed147bcb5d24620a7c51293adc2f83699a7c2c"), looks := false }, kinds := [], alts := [], laidByText := true, laidKinds := [.data, .data], laidTests := true, laidLooks := .later }
def SealSealsCardSaid : Prop := Claim7.holds Tryd.pinned (.plain (OpenSpec.ofChange sealSealsSpec)) sealSealsCard

/-- THE TIED CARD OF 'rilllaw05.SealEither'. -/
def sealEitherCard : Claim7 := { stood := { row := sealEitherRow, standIns := [], harness := (true, "18134bf5994e1861323edf7644ed147bcb5d24620a7c51293adc2f83699a7c2c"), looks := false }, kinds := [], alts := [], laidByText := true, laidKinds := [.data], laidTests := true, laidLooks := .later }
def SealEitherCardSaid : Prop := Claim7.holds Tryd.pinned (.plain (OpenSpec.ofChange sealEitherSpec)) sealEitherCard

/-- THE SECOND FORM's CARD OF 'rilllaw05.SealBack'. -/
def sealBackUptoCard : Claim7 := { stood := { row := sealBackUptoRow, standIns := [], harness := (true, "18134bf5994e1861323edf7644ed147bcb5d24620a7c51293adc2f83699a7c2c"), looks := false }, kinds := [], alts := [], laidByText := true, laidKinds := [.data], laidTests := true, laidLooks := .later }
def SealBackUptoCardSaid : Prop := Claim7.holds Tryd.pinned (.plain (OpenSpec.upto sealBackSpec)) sealBackUptoCard

/-- THE SECOND FORM's CARD OF 'rilllaw05.SealOnly'. -/
def sealOnlyUptoCard : Claim7 := { stood := { row := sealOnlyUptoRow, standIns := [], harness := (true, "18134bf5994e1861323edf7644ed147bcb5d24620a7c51293adc2f83699a7c2c"), looks := false }, kinds := [], alts := [], laidByText := true, laidKinds := [.data], laidTests := true, laidLooks := .later }
def SealOnlyUptoCardSaid : Prop := Claim7.holds Tryd.pinned (.plain (OpenSpec.upto sealOnlySpec)) sealOnlyUptoCard

/-- THE SECOND FORM's CARD OF 'rilllaw05.SealKnown'. -/
def sealKnownUptoCard : Claim7 := { stood := { row := sealKnownUptoRow, standIns := [], harness := (true, "18134bf5994e1861323edf7644ed147bcb5d24620a7c51293adc2f83699a7c2c"), looks := false }, kinds := [], alts := [], laidByText := true, laidKinds := [.data], laidTests := true, laidLooks := .later }
def SealKnownUptoCardSaid : Prop := Claim7.holds Tryd.pinned (.plain (OpenSpec.upto sealKnownSpec)) sealKnownUptoCard

/-- THE SECOND FORM's CARD OF 'rilllaw05.SealSeals'. -/
def sealSealsUptoCard : Claim7 := { stood := { row := sealSealsUptoRow, standIns := [], harness := (true, "18134bf5994e1861323edf7644ed147bcb5d24620a7c51293adc2f83699a7c2c"), looks := false }, kinds := [], alts := [], laidByText := true, laidKinds := [.data, .data], laidTests := true, laidLooks := .later }
def SealSealsUptoCardSaid : Prop := Claim7.holds Tryd.pinned (.plain (OpenSpec.upto sealSealsSpec)) sealSealsUptoCard

/-- THE SECOND FORM's CARD OF 'rilllaw05.SealEither'. -/
def sealEitherUptoCard : Claim7 := { stood := { row := sealEitherUptoRow, standIns := [], harness := (true, "18134bf5994e1861323edf7644ed147bcb5d24620a7c51293adc2f83699a7c2c"), looks := false }, kinds := [], alts := [], laidByText := true, laidKinds := [.data], laidTests := true, laidLooks := .later }
def SealEitherUptoCardSaid : Prop := Claim7.holds Tryd.pinned (.plain (OpenSpec.upto sealEitherSpec)) sealEitherUptoCard
end Rows
end Go.Proofs.YtdmdakaliilghaaDoor
