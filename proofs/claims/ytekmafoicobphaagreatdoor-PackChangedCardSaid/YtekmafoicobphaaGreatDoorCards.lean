/-
  DERIVED. GIVEN WITH THE SEED: THE CARDS: each row of YtekmafoicobphaaGreatDoorRows.lean that lists a variable, with what it lists TIED to the program's text (the seventh form; the later family's looks); each row that meets fmt, with fmt's text TOLD by the authors' own Lean function (tested against real Go, not proved from fmt's source: count such statements apart). THE CARD IS WHAT COUNTS. Prove the row's statement (the work); the ties are given (YtekmafoicobphaaGreatDoorTie.lean); close each card by the builder's one call (the guide's Derived/Test/ToyasCard.lean, 'card_holds'). Laid BY PROGRAM, IN A SANDBOX (cutbox-door.mjs). By AI agents, Wed Nov 11 2026. No macro, syntax, notation, axiom, sorry.
-/
import Derived.Test.YtekmafoicobphaaGreatDoorRows
import GoSem.ClaimSeven
namespace Go.Proofs.YtekmafoicobphaaGreatDoor
namespace Rows

/-- THE TIED CARD OF 'seedbedlaw13.PackUnpacks'. -/
def packUnpacksCard : Claim7 := { stood := { row := packUnpacksRow, standIns := [], harness := (true, "d8eb96f3ccea2aeb7fd989a42a9802fd4731d57f4d8e1844e4711a23ec0d74dc"), looks := true }, kinds := [], alts := [], laidByText := true, laidKinds := [.data, .listed, .data, .pinned], laidTests := true, laidLooks := .later }
def PackUnpacksCardSaid : Prop := Claim7.holds Tryz.pinned (.plain (OpenSpec.ofChange packUnpacksSpec)) packUnpacksCard

/-- THE TIED CARD OF 'seedbedlaw13.PackNumbers'. -/
def packNumbersCard : Claim7 := { stood := { row := packNumbersRow, standIns := [], harness := (true, "d8eb96f3ccea2aeb7fd989a42a9802fd4731d57f4d8e1844e4711a23ec0d74dc"), looks := true }, kinds := [], alts := [], laidByText := true, laidKinds := [.data, .listed, .data, .pinned], laidTests := true, laidLooks := .later }
def PackNumbersCardSaid : Prop := Claim7.holds Tryz.pinned (.plain (OpenSpec.ofChange packNumbersSpec)) packNumbersCard

/-- THE TIED CARD OF 'seedbedlaw13.PackPacks'. -/
def packPacksCard : Claim7 := { stood := { row := packPacksRow, standIns := [], harness := (true, "d8eb96f3ccea2aeb7fd989a42a9802fd4731d57f4d8e1844e4711a23ec0d74dc"), looks := true }, kinds := [], alts := [], laidByText := true, laidKinds := [.data, .listed, .data, .pinned], laidTests := true, laidLooks := .later }
def PackPacksCardSaid : Prop := Claim7.holds Tryz.pinned (.plain (OpenSpec.ofChange packPacksSpec)) packPacksCard

/-- THE TIED CARD OF 'seedbedlaw13.PackChanged'. -/
def packChangedCard : Claim7 := { stood := { row := packChangedRow, standIns := [], harness := (true, "d8eb96f3ccea2aeb7fd989a42a9802fd4731d57f4d8e1844e4711a23ec0d74dc"), looks := true }, kinds := [], alts := [], laidByText := true, laidKinds := [.data, .listed, .data, .pinned], laidTests := true, laidLooks := .later }
def PackChangedCardSaid : Prop := Claim7.holds Tryz.pinned (.plain (OpenSpec.ofChange packChangedSpec)) packChangedCard

/-- THE TIED CARD OF 'seedbedlaw13.PackSealed'. -/
def packSealedCard : Claim7 := { stood := { row := packSealedRow, standIns := [], harness := (true, "d8eb96f3ccea2aeb7fd989a42a9802fd4731d57f4d8e1844e4711a23ec0d74dc"), looks := true }, kinds := [], alts := [], laidByText := true, laidKinds := [.data, .listed, .data, .pinned], laidTests := true, laidLooks := .later }
def PackSealedCardSaid : Prop := Claim7.holds Tryz.pinned (.plain (OpenSpec.ofChange packSealedSpec)) packSealedCard

/-- THE TIED CARD OF 'seedbedlaw13.PackBack'. -/
def packBackCard : Claim7 := { stood := { row := packBackRow, standIns := [], harness := (true, "d8eb96f3ccea2aeb7fd989a42a9802fd4731d57f4d8e1844e4711a23ec0d74dc"), looks := true }, kinds := [], alts := [], laidByText := true, laidKinds := [.data, .data, .data, .data, .listed, .data, .pinned], laidTests := true, laidLooks := .later }
def PackBackCardSaid : Prop := Claim7.holds Tryz.pinned (.plain (OpenSpec.ofChange packBackSpec)) packBackCard

/-- THE SECOND FORM's CARD OF 'seedbedlaw13.PackUnpacks'. -/
def packUnpacksUptoCard : Claim7 := { stood := { row := packUnpacksUptoRow, standIns := [], harness := (true, "d8eb96f3ccea2aeb7fd989a42a9802fd4731d57f4d8e1844e4711a23ec0d74dc"), looks := true }, kinds := [], alts := [], laidByText := true, laidKinds := [.data, .listed, .data, .pinned], laidTests := true, laidLooks := .later }
def PackUnpacksUptoCardSaid : Prop := Claim7.holds Tryz.pinned (.plain (OpenSpec.upto packUnpacksSpec)) packUnpacksUptoCard

/-- THE SECOND FORM's CARD OF 'seedbedlaw13.PackNumbers'. -/
def packNumbersUptoCard : Claim7 := { stood := { row := packNumbersUptoRow, standIns := [], harness := (true, "d8eb96f3ccea2aeb7fd989a42a9802fd4731d57f4d8e1844e4711a23ec0d74dc"), looks := true }, kinds := [], alts := [], laidByText := true, laidKinds := [.data, .listed, .data, .pinned], laidTests := true, laidLooks := .later }
def PackNumbersUptoCardSaid : Prop := Claim7.holds Tryz.pinned (.plain (OpenSpec.upto packNumbersSpec)) packNumbersUptoCard

/-- THE SECOND FORM's CARD OF 'seedbedlaw13.PackPacks'. -/
def packPacksUptoCard : Claim7 := { stood := { row := packPacksUptoRow, standIns := [], harness := (true, "d8eb96f3ccea2aeb7fd989a42a9802fd4731d57f4d8e1844e4711a23ec0d74dc"), looks := true }, kinds := [], alts := [], laidByText := true, laidKinds := [.data, .listed, .data, .pinned], laidTests := true, laidLooks := .later }
def PackPacksUptoCardSaid : Prop := Claim7.holds Tryz.pinned (.plain (OpenSpec.upto packPacksSpec)) packPacksUptoCard

/-- THE SECOND FORM's CARD OF 'seedbedlaw13.PackChanged'. -/
def packChangedUptoCard : Claim7 := { stood := { row := packChangedUptoRow, standIns := [], harness := (true, "d8eb96f3ccea2aeb7fd989a42a9802fd4731d57f4d8e1844e4711a23ec0d74dc"), looks := true }, kinds := [], alts := [], laidByText := true, laidKinds := [.data, .listed, .data, .pinned], laidTests := true, laidLooks := .later }
def PackChangedUptoCardSaid : Prop := Claim7.holds Tryz.pinned (.plain (OpenSpec.upto packChangedSpec)) packChangedUptoCard

/-- THE SECOND FORM's CARD OF 'seedbedlaw13.PackSealed'. -/
def packSealedUptoCard : Claim7 := { stood := { row := packSealedUptoRow, standIns := [], harness := (true, "d8eb96f3ccea2aeb7fd989a42a9802fd4731d57f4d8e1844e4711a23ec0d74dc"), looks := true }, kinds := [], alts := [], laidByText := true, laidKinds := [.data, .listed, .data, .pinned], laidTests := true, laidLooks := .later }
def PackSealedUptoCardSaid : Prop := Claim7.holds Tryz.pinned (.plain (OpenSpec.upto packSealedSpec)) packSealedUptoCard

/-- THE SECOND FORM's CARD OF 'seedbedlaw13.PackBack'. -/
def packBackUptoCard : Claim7 := { stood := { row := packBackUptoRow, standIns := [], harness := (true, "d8eb96f3ccea2aeb7fd989a42a9802fd4731d57f4d8e1844e4711a23ec0d74dc"), looks := true }, kinds := [], alts := [], laidByText := true, laidKinds := [.data, .data, .data, .data, .listed, .data, .pinned], laidTests := true, laidLooks := .later }
def PackBackUptoCardSaid : Prop := Claim7.holds Tryz.pinned (.plain (OpenSpec.upto packBackSpec)) packBackUptoCard
end Rows
end Go.Proofs.YtekmafoicobphaaGreatDoor
