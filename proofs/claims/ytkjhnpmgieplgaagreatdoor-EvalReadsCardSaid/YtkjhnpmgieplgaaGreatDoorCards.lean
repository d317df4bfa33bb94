/-
  DERIVED. GIVEN WITH THE SEED: THE CARDS: each row of YtkjhnpmgieplgaaGreatDoorRows.lean that lists a variable, with what it lists TIED to the program's text (the seventh form; the later family's looks); each row that meets fmt, with fmt's text TOLD by the authors' own Lean function (tested against real Go, not proved from fmt's source: count such statements apart). THE CARD IS WHAT COUNTS. Prove the row's statement (the work); the ties are given (YtkjhnpmgieplgaaGreatDoorTie.lean); close each card by the builder's one call (the guide's Derived/Test/ToyasCard.lean, 'card_holds'). Laid BY PROGRAM, IN A SANDBOX (cutbox-door.mjs). By AI agents, Wed Nov 11 2026. No macro, syntax, notation, axiom, sorry.
-/
import Derived.Test.YtkjhnpmgieplgaaGreatDoorRows
import GoSem.ClaimSeven
namespace Go.Proofs.YtkjhnpmgieplgaaGreatDoor
namespace Rows

/-- THE TIED CARD OF 'seedbedlaw07.EvalShows'. -/
def evalShowsCard : Claim7 := { stood := { row := evalShowsRow, standIns := [], harness := (true, "519c412bf5cf6e77824910daca05d67252f6934dc795e2ff66eee7a20e961279"), looks := true }, kinds := [], alts := [], laidByText := true, laidKinds := [.data, .data, .data, .data, .sentinel, .sentinel, .listed, .data, .pinned], laidTests := true, laidLooks := .later }
def EvalShowsCardSaid : Prop := Claim7.holds Tryz.pinned (.plain (OpenSpec.ofChange evalShowsSpec)) evalShowsCard

/-- THE TIED CARD OF 'seedbedlaw07.EvalReads'. -/
def evalReadsCard : Claim7 := { stood := { row := evalReadsRow, standIns := [], harness := (true, "519c412bf5cf6e77824910daca05d67252f6934dc795e2ff66eee7a20e961279"), looks := true }, kinds := [], alts := [], laidByText := true, laidKinds := [.data, .data, .data, .data, .sentinel, .sentinel, .listed, .data, .pinned], laidTests := true, laidLooks := .later }
def EvalReadsCardSaid : Prop := Claim7.holds Tryz.pinned (.plain (OpenSpec.ofChange evalReadsSpec)) evalReadsCard

/-- THE TIED CARD OF 'seedbedlaw07.EvalBack'. -/
def evalBackCard : Claim7 := { stood := { row := evalBackRow, standIns := [], harness := (true, "519c412bf5cf6e77824910daca05d67252f6934dc795e2ff66eee7a20e961279"), looks := true }, kinds := [], alts := [], laidByText := true, laidKinds := [.data, .data, .data, .data, .sentinel, .sentinel, .listed, .data, .pinned], laidTests := true, laidLooks := .later }
def EvalBackCardSaid : Prop := Claim7.holds Tryz.pinned (.plain (OpenSpec.ofChange evalBackSpec)) evalBackCard

/-- THE TIED CARD OF 'seedbedlaw07.EvalDivided'. -/
def evalDividedCard : Claim7 := { stood := { row := evalDividedRow, standIns := [], harness := (true, "519c412bf5cf6e77824910daca05d67252f6934dc795e2ff66eee7a20e961279"), looks := true }, kinds := [], alts := [], laidByText := true, laidKinds := [.data, .data, .data, .data, .sentinel, .sentinel, .listed, .data, .pinned], laidTests := true, laidLooks := .later }
def EvalDividedCardSaid : Prop := Claim7.holds Tryz.pinned (.plain (OpenSpec.ofChange evalDividedSpec)) evalDividedCard

/-- THE TIED CARD OF 'seedbedlaw07.EvalOrders'. -/
def evalOrdersCard : Claim7 := { stood := { row := evalOrdersRow, standIns := [], harness := (true, "519c412bf5cf6e77824910daca05d67252f6934dc795e2ff66eee7a20e961279"), looks := true }, kinds := [], alts := [], laidByText := true, laidKinds := [.data, .data, .data, .data, .sentinel, .sentinel, .listed, .data, .pinned], laidTests := true, laidLooks := .later }
def EvalOrdersCardSaid : Prop := Claim7.holds Tryz.pinned (.plain (OpenSpec.ofChange evalOrdersSpec)) evalOrdersCard

/-- THE TIED CARD OF 'seedbedlaw07.EvalValid'. -/
def evalValidCard : Claim7 := { stood := { row := evalValidRow, standIns := [], harness := (true, "519c412bf5cf6e77824910daca05d67252f6934dc795e2ff66eee7a20e961279"), looks := true }, kinds := [], alts := [], laidByText := true, laidKinds := [.data, .data, .data, .data, .sentinel, .sentinel, .listed, .data, .pinned], laidTests := true, laidLooks := .later }
def EvalValidCardSaid : Prop := Claim7.holds Tryz.pinned (.plain (OpenSpec.ofChange evalValidSpec)) evalValidCard

/-- THE TIED CARD OF 'seedbedlaw07.EvalOperators'. -/
def evalOperatorsCard : Claim7 := { stood := { row := evalOperatorsRow, standIns := [], harness := (true, "519c412bf5cf6e77824910daca05d67252f6934dc795e2ff66eee7a20e961279"), looks := true }, kinds := [], alts := [], laidByText := true, laidKinds := [.data, .data, .data, .data, .sentinel, .sentinel, .listed, .data, .pinned], laidTests := true, laidLooks := .later }
def EvalOperatorsCardSaid : Prop := Claim7.holds Tryz.pinned (.plain (OpenSpec.ofChange evalOperatorsSpec)) evalOperatorsCard

/-- THE TIED CARD OF 'seedbedlaw07.EvalValues'. -/
def evalValuesCard : Claim7 := { stood := { row := evalValuesRow, standIns := [], harness := (true, "519c412bf5cf6e77824910daca05d67252f6934dc795e2ff66eee7a20e961279"), looks := true }, kinds := [], alts := [], laidByText := true, laidKinds := [.data, .data, .data, .data, .sentinel, .sentinel, .listed, .data, .pinned], laidTests := true, laidLooks := .later }
def EvalValuesCardSaid : Prop := Claim7.holds Tryz.pinned (.plain (OpenSpec.ofChange evalValuesSpec)) evalValuesCard

/-- THE TIED CARD OF 'seedbedlaw07.EvalSound'. -/
def evalSoundCard : Claim7 := { stood := { row := evalSoundRow, standIns := [], harness := (true, "519c412bf5cf6e77824910daca05d67252f6934dc795e2ff66eee7a20e961279"), looks := true }, kinds := [], alts := [], laidByText := true, laidKinds := [.data, .data, .data, .data, .sentinel, .sentinel, .listed, .data, .pinned], laidTests := true, laidLooks := .later }
def EvalSoundCardSaid : Prop := Claim7.holds Tryz.pinned (.plain (OpenSpec.ofChange evalSoundSpec)) evalSoundCard

/-- THE TIED CARD OF 'seedbedlaw07.EvalFolds'. -/
def evalFoldsCard : Claim7 := { stood := { row := evalFoldsRow, standIns := [], harness := (true, "519c412bf5cf6e77824910daca05d67252f6934dc795e2ff66eee7a20e961279"), looks := true }, kinds := [], alts := [], laidByText := true, laidKinds := [.data, .data, .data, .data, .sentinel, .sentinel, .listed, .data, .pinned], laidTests := true, laidLooks := .later }
def EvalFoldsCardSaid : Prop := Claim7.holds Tryz.pinned (.plain (OpenSpec.ofChange evalFoldsSpec)) evalFoldsCard

/-- THE TIED CARD OF 'seedbedlaw07.EvalFolded'. -/
def evalFoldedCard : Claim7 := { stood := { row := evalFoldedRow, standIns := [], harness := (true, "519c412bf5cf6e77824910daca05d67252f6934dc795e2ff66eee7a20e961279"), looks := true }, kinds := [], alts := [], laidByText := true, laidKinds := [.data, .data, .data, .data, .sentinel, .sentinel, .listed, .data, .pinned], laidTests := true, laidLooks := .later }
def EvalFoldedCardSaid : Prop := Claim7.holds Tryz.pinned (.plain (OpenSpec.ofChange evalFoldedSpec)) evalFoldedCard

/-- THE TIED CARD OF 'seedbedlaw07.EvalLazy'. -/
def evalLazyCard : Claim7 := { stood := { row := evalLazyRow, standIns := [], harness := (true, "519c412bf5cf6e77824910daca05d67252f6934dc795e2ff66eee7a20e961279"), looks := true }, kinds := [], alts := [], laidByText := true, laidKinds := [.data, .data, .data, .data, .sentinel, .sentinel, .listed, .data, .pinned], laidTests := true, laidLooks := .later }
def EvalLazyCardSaid : Prop := Claim7.holds Tryz.pinned (.plain (OpenSpec.ofChange evalLazySpec)) evalLazyCard

/-- THE SECOND FORM's CARD OF 'seedbedlaw07.EvalShows'. -/
def evalShowsUptoCard : Claim7 := { stood := { row := evalShowsUptoRow, standIns := [], harness := (true, "519c412bf5cf6e77824910daca05d67252f6934dc795e2ff66eee7a20e961279"), looks := true }, kinds := [], alts := [], laidByText := true, laidKinds := [.data, .data, .data, .data, .sentinel, .sentinel, .listed, .data, .pinned], laidTests := true, laidLooks := .later }
def EvalShowsUptoCardSaid : Prop := Claim7.holds Tryz.pinned (.plain (OpenSpec.upto evalShowsSpec)) evalShowsUptoCard

/-- THE SECOND FORM's CARD OF 'seedbedlaw07.EvalReads'. -/
def evalReadsUptoCard : Claim7 := { stood := { row := evalReadsUptoRow, standIns := [], harness := (true, "519c412bf5cf6e77824910daca05d67252f6934dc795e2ff66eee7a20e961279"), looks := true }, kinds := [], alts := [], laidByText := true, laidKinds := [.data, .data, .data, .data, .sentinel, .sentinel, .listed, .data, .pinned], laidTests := true, laidLooks := .later }
def EvalReadsUptoCardSaid : Prop := Claim7.holds Tryz.pinned (.plain (OpenSpec.upto evalReadsSpec)) evalReadsUptoCard

/-- THE SECOND FORM's CARD OF 'seedbedlaw07.EvalBack'. -/
def evalBackUptoCard : Claim7 := { stood := { row := evalBackUptoRow, standIns := [], harness := (true, "519c412bf5cf6e77824910daca05d67252f6934dc795e2ff66eee7a20e961279"), looks := true }, kinds := [], alts := [], laidByText := true, laidKinds := [.data, .data, .data, .data, .sentinel, .sentinel, .listed, .data, .pinned], laidTests := true, laidLooks := .later }
def EvalBackUptoCardSaid : Prop := Claim7.holds Tryz.pinned (.plain (OpenSpec.upto evalBackSpec)) evalBackUptoCard

/-- THE SECOND FORM's CARD OF 'seedbedlaw07.EvalDivided'. -/
def evalDividedUptoCard : Claim7 := { stood := { row := evalDividedUptoRow, standIns := [], harness := (true, "519c412bf5cf6e77824910daca05d67252f6934dc795e2ff66eee7a20e961279"), looks := true }, kinds := [], alts := [], laidByText := true, laidKinds := [.data, .data, .data, .data, .sentinel, .sentinel, .listed, .data, .pinned], laidTests := true, laidLooks := .later }
def EvalDividedUptoCardSaid : Prop := Claim7.holds Tryz.pinned (.plain (OpenSpec.upto evalDividedSpec)) evalDividedUptoCard

/-- THE SECOND FORM's CARD OF 'seedbedlaw07.EvalOrders'. -/
def evalOrdersUptoCard : Claim7 := { stood := { row := evalOrdersUptoRow, standIns := [], harness := (true, "519c412bf5cf6e77824910daca05d67252f6934dc795e2ff66eee7a20e961279"), looks := true }, kinds := [], alts := [], laidByText := true, laidKinds := [.data, .data, .data, .data, .sentinel, .sentinel, .listed, .data, .pinned], laidTests := true, laidLooks := .later }
def EvalOrdersUptoCardSaid : Prop := Claim7.holds Tryz.pinned (.plain (OpenSpec.upto evalOrdersSpec)) evalOrdersUptoCard

/-- THE SECOND FORM's CARD OF 'seedbedlaw07.EvalValid'. -/
def evalValidUptoCard : Claim7 := { stood := { row := evalValidUptoRow, standIns := [], harness := (true, "519c412bf5cf6e77824910daca05d67252f6934dc795e2ff66eee7a20e961279"), looks := true }, kinds := [], alts := [], laidByText := true, laidKinds := [.data, .data, .data, .data, .sentinel, .sentinel, .listed, .data, .pinned], laidTests := true, laidLooks := .later }
def EvalValidUptoCardSaid : Prop := Claim7.holds Tryz.pinned (.plain (OpenSpec.upto evalValidSpec)) evalValidUptoCard

/-- THE SECOND FORM's CARD OF 'seedbedlaw07.EvalOperators'. -/
def evalOperatorsUptoCard : Claim7 := { stood := { row := evalOperatorsUptoRow, standIns := [], harness := (true, "519c412bf5cf6e77824910daca05d67252f6934dc795e2ff66eee7a20e961279"), looks := true }, kinds := [], alts := [], laidByText := true, laidKinds := [.data, .data, .data, .data, .sentinel, .sentinel, .listed, .data, .pinned], laidTests := true, laidLooks := .later }
def EvalOperatorsUptoCardSaid : Prop := Claim7.holds Tryz.pinned (.plain (OpenSpec.upto evalOperatorsSpec)) evalOperatorsUptoCard

/-- THE SECOND FORM's CARD OF 'seedbedlaw07.EvalValues'. -/
def evalValuesUptoCard : Claim7 := { stood := { row := evalValuesUptoRow, standIns := [], harness := (true, "519c412bf5cf6e77824910daca05d67252f6934dc795e2ff66eee7a20e961279"), looks := true }, kinds := [], alts := [], laidByText := true, laidKinds := [.data, .data, .data, .data, .sentinel, .sentinel, .listed, .data, .pinned], laidTests := true, laidLooks := .later }
def EvalValuesUptoCardSaid : Prop := Claim7.holds Tryz.pinned (.plain (OpenSpec.upto evalValuesSpec)) evalValuesUptoCard

/-- THE SECOND FORM's CARD OF 'seedbedlaw07.EvalSound'. -/
def evalSoundUptoCard : Claim7 := { stood := { row := evalSoundUptoRow, standIns := [], harness := (true, "519c412bf5cf6e77824910daca05d67252f6934dc795e2ff66eee7a20e961279"), looks := true }, kinds := [], alts := [], laidByText := true, laidKinds := [.data, .data, .data, .data, .sentinel, .sentinel, .listed, .data, .pinned], laidTests := true, laidLooks := .later }
def EvalSoundUptoCardSaid : Prop := Claim7.holds Tryz.pinned (.plain (OpenSpec.upto evalSoundSpec)) evalSoundUptoCard

/-- THE SECOND FORM's CARD OF 'seedbedlaw07.EvalFolds'. -/
def evalFoldsUptoCard : Claim7 := { stood := { row := evalFoldsUptoRow, standIns := [], harness := (true, "519c412bf5cf6e77824910daca05d67252f6934dc795e2ff66eee7a20e961279"), looks := true }, kinds := [], alts := [], laidByText := true, laidKinds := [.data, .data, .data, .data, .sentinel, .sentinel, .listed, .data, .pinned], laidTests := true, laidLooks := .later }
def EvalFoldsUptoCardSaid : Prop := Claim7.holds Tryz.pinned (.plain (OpenSpec.upto evalFoldsSpec)) evalFoldsUptoCard

/-- THE SECOND FORM's CARD OF 'seedbedlaw07.EvalFolded'. -/
def evalFoldedUptoCard : Claim7 := { stood := { row := evalFoldedUptoRow, standIns := [], harness := (true, "519c412bf5cf6e77824910daca05d67252f6934dc795e2ff66eee7a20e961279"), looks := true }, kinds := [], alts := [], laidByText := true, laidKinds := [.data, .data, .data, .data, .sentinel, .sentinel, .listed, .data, .pinned], laidTests := true, laidLooks := .later }
def EvalFoldedUptoCardSaid : Prop := Claim7.holds Tryz.pinned (.plain (OpenSpec.upto evalFoldedSpec)) evalFoldedUptoCard

/-- THE SECOND FORM's CARD OF 'seedbedlaw07.EvalLazy'. -/
def evalLazyUptoCard : Claim7 := { stood := { row := evalLazyUptoRow, standIns := [], harness := (true, "519c412bf5cf6e77824910daca05d67252f6934dc795e2ff66eee7a20e961279"), looks := true }, kinds := [], alts := [], laidByText := true, laidKinds := [.data, .data, .data, .data, .sentinel, .sentinel, .listed, .data, .pinned], laidTests := true, laidLooks := .later }
def EvalLazyUptoCardSaid : Prop := Claim7.holds Tryz.pinned (.plain (OpenSpec.upto evalLazySpec)) evalLazyUptoCard
end Rows
end Go.Proofs.YtkjhnpmgieplgaaGreatDoor
