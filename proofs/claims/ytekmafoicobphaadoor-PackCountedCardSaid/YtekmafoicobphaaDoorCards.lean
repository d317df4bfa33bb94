/-
  DERIVED. GIVEN WITH THE SEED: THE CARDS: each row of YtekmafoicobphaaDoorRows.lean that lists a variable, with what it lists TIED to the program's text (the seventh form; the later family's looks); each row that meets fmt, with fmt's text TOLD by the authors' own Lean function (tested against real Go, not proved from fmt's source: count such statements apart). THE CARD IS WHAT COUNTS. Prove the row's statement (the work); the ties are given (YtekmafoicobphaaDoorTie.lean); close each card by the builder's one call (the guide's Derived/Test/ToyasCard.lean, 'card_holds'). Laid BY PROGRAM, IN A SANDBOX (cutbox-door.mjs). By AI agents, Wed Nov 11 2026. No macro, syntax, notation, axiom, sorry.
-/
import Derived.Test.YtekmafoicobphaaDoorRows
import GoSem.ClaimSeven
namespace Go.Proofs.YtekmafoicobphaaDoor
namespace Rows

/-- THE TIED CARD OF 'seedbedlaw13.PackCounted'. -/
def packCountedCard : Claim7 := { stood := { row := packCountedRow, standIns := [], harness := (true, "b42e853d3fe870680ec2573d47a5e817a0dc42e3f650f0ea466b69a1db4e1cc4"), looks := true }, kinds := [], alts := [], laidByText := true, laidKinds := [.data, .listed, .data, .pinned], laidTests := true, laidLooks := .later }
def PackCountedCardSaid : Prop := Claim7.holds Tryd.pinned (.plain (OpenSpec.ofChange packCountedSpec)) packCountedCard

/-- THE TIED CARD OF 'seedbedlaw13.PackSums'. -/
def packSumsCard : Claim7 := { stood := { row := packSumsRow, standIns := [], harness := (true, "b42e853d3fe870680ec2573d47a5e817a0dc42e3f650f0ea466b69a1db4e1cc4"), looks := true }, kinds := [], alts := [], laidByText := true, laidKinds := [.data, .listed, .data, .pinned], laidTests := true, laidLooks := .later }
def PackSumsCardSaid : Prop := Claim7.holds Tryd.pinned (.plain (OpenSpec.ofChange packSumsSpec)) packSumsCard

/-- THE SECOND FORM's CARD OF 'seedbedlaw13.PackCounted'. -/
def packCountedUptoCard : Claim7 := { stood := { row := packCountedUptoRow, standIns := [], harness := (true, "b42e853d3fe870680ec2573d47a5e817a0dc42e3f650f0ea466b69a1db4e1cc4"), looks := true }, kinds := [], alts := [], laidByText := true, laidKinds := [.data, .listed, .data, .pinned], laidTests := true, laidLooks := .later }
def PackCountedUptoCardSaid : Prop := Claim7.holds Tryd.pinned (.plain (OpenSpec.upto packCountedSpec)) packCountedUptoCard

/-- THE SECOND FORM's CARD OF 'seedbedlaw13.PackSums'. -/
def packSumsUptoCard : Claim7 := { stood := { row := packSumsUptoRow, standIns := [], harness := (true, "b42e853d3fe870680ec2573d47a5e817a0dc42e3f650f0ea466b69a1db4e1cc4"), looks := true }, kinds := [], alts := [], laidByText := true, laidKinds := [.data, .listed, .data, .pinned], laidTests := true, laidLooks := .later }
def PackSumsUptoCardSaid : Prop := Claim7.holds Tryd.pinned (.plain (OpenSpec.upto packSumsSpec)) packSumsUptoCard
end Rows
end Go.Proofs.YtekmafoicobphaaDoor
