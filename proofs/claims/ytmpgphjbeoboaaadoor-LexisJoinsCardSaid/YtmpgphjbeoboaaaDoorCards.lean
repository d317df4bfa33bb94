/-
  DERIVED. GIVEN WITH THE SEED: THE CARDS: each row of YtmpgphjbeoboaaaDoorRows.lean that lists a variable, with what it lists TIED to the program's text (the seventh form; the later family's looks); each row that meets fmt, with fmt's text TOLD by the authors' own Lean function (tested against real Go, not proved from fmt's source: count such statements apart). THE CARD IS WHAT COUNTS. Prove the row's statement (the work); the ties are given (YtmpgphjbeoboaaaDoorTie.lean); close each card by the builder's one call (the guide's Derived/Test/ToyasCard.lean, 'card_holds'). Laid BY PROGRAM, IN A SANDBOX (cutbox-door.mjs). By AI agents, Wed Nov 11 2026. No macro, syntax, notation, axiom, sorry.
-/
import Derived.Test.YtmpgphjbeoboaaaDoorRows
import GoSem.ClaimSeven
namespace Go.Proofs.YtmpgphjbeoboaaaDoor
namespace Rows

/-- THE TIED CARD OF 'seedbedlaw01.LexisTokens'. -/
def lexisTokensCard : Claim7 := { stood := { row := lexisTokensRow, standIns := [], harness := (true, "32d53549c4f72126861972180e0d6b2543fd6a92fa7ee7583bdd7399badcddb1"), looks := true }, kinds := [], alts := [], laidByText := true, laidKinds := [.data, .data, .data, .data, .sentinel, .sentinel, .listed, .data, .pinned], laidTests := true, laidLooks := .later }
def LexisTokensCardSaid : Prop := Claim7.holds Tryd.pinned (.plain (OpenSpec.ofChange lexisTokensSpec)) lexisTokensCard

/-- THE TIED CARD OF 'seedbedlaw01.LexisQuotes'. -/
def lexisQuotesCard : Claim7 := { stood := { row := lexisQuotesRow, standIns := [], harness := (true, "32d53549c4f72126861972180e0d6b2543fd6a92fa7ee7583bdd7399badcddb1"), looks := true }, kinds := [], alts := [], laidByText := true, laidKinds := [.data, .data, .data, .data, .sentinel, .sentinel, .listed, .data, .pinned], laidTests := true, laidLooks := .later }
def LexisQuotesCardSaid : Prop := Claim7.holds Tryd.pinned (.plain (OpenSpec.ofChange lexisQuotesSpec)) lexisQuotesCard

/-- THE TIED CARD OF 'seedbedlaw01.LexisStands'. -/
def lexisStandsCard : Claim7 := { stood := { row := lexisStandsRow, standIns := [], harness := (true, "32d53549c4f72126861972180e0d6b2543fd6a92fa7ee7583bdd7399badcddb1"), looks := true }, kinds := [], alts := [], laidByText := true, laidKinds := [.data, .data, .data, .data, .sentinel, .sentinel, .listed, .data, .pinned], laidTests := true, laidLooks := .later }
def LexisStandsCardSaid : Prop := Claim7.holds Tryd.pinned (.plain (OpenSpec.ofChange lexisStandsSpec)) lexisStandsCard

/-- THE TIED CARD OF 'seedbedlaw01.LexisComment'. -/
def lexisCommentCard : Claim7 := { stood := { row := lexisCommentRow, standIns := [], harness := (true, "32d53549c4f72126861972180e0d6b2543fd6a92fa7ee7583bdd7399badcddb1"), looks := true }, kinds := [], alts := [], laidByText := true, laidKinds := [.data, .data, .data, .data, .sentinel, .sentinel, .listed, .data, .pinned], laidTests := true, laidLooks := .later }
def LexisCommentCardSaid : Prop := Claim7.holds Tryd.pinned (.plain (OpenSpec.ofChange lexisCommentSpec)) lexisCommentCard

/-- THE TIED CARD OF 'seedbedlaw01.LexisParts'. -/
def lexisPartsCard : Claim7 := { stood := { row := lexisPartsRow, standIns := [], harness := (true, "32d53549c4f72126861972180e0d6b2543fd6a92fa7ee7583bdd7399badcddb1"), looks := true }, kinds := [], alts := [], laidByText := true, laidKinds := [.data, .data, .data, .data, .sentinel, .sentinel, .listed, .data, .pinned], laidTests := true, laidLooks := .later }
def LexisPartsCardSaid : Prop := Claim7.holds Tryd.pinned (.plain (OpenSpec.ofChange lexisPartsSpec)) lexisPartsCard

/-- THE TIED CARD OF 'seedbedlaw01.LexisNames'. -/
def lexisNamesCard : Claim7 := { stood := { row := lexisNamesRow, standIns := [], harness := (true, "32d53549c4f72126861972180e0d6b2543fd6a92fa7ee7583bdd7399badcddb1"), looks := true }, kinds := [], alts := [], laidByText := true, laidKinds := [.data, .data, .data, .data, .sentinel, .sentinel, .listed, .data, .pinned], laidTests := true, laidLooks := .later }
def LexisNamesCardSaid : Prop := Claim7.holds Tryd.pinned (.plain (OpenSpec.ofChange lexisNamesSpec)) lexisNamesCard

/-- THE TIED CARD OF 'seedbedlaw01.LexisJoins'. -/
def lexisJoinsCard : Claim7 := { stood := { row := lexisJoinsRow, standIns := [], harness := (true, "32d53549c4f72126861972180e0d6b2543fd6a92fa7ee7583bdd7399badcddb1"), looks := true }, kinds := [], alts := [], laidByText := true, laidKinds := [.data, .data, .data, .data, .sentinel, .sentinel, .listed, .data, .pinned], laidTests := true, laidLooks := .later }
def LexisJoinsCardSaid : Prop := Claim7.holds Tryd.pinned (.plain (OpenSpec.ofChange lexisJoinsSpec)) lexisJoinsCard

/-- THE TIED CARD OF 'seedbedlaw01.LexisBack'. -/
def lexisBackCard : Claim7 := { stood := { row := lexisBackRow, standIns := [], harness := (true, "32d53549c4f72126861972180e0d6b2543fd6a92fa7ee7583bdd7399badcddb1"), looks := true }, kinds := [], alts := [], laidByText := true, laidKinds := [.data, .data, .data, .data, .sentinel, .sentinel, .listed, .data, .pinned], laidTests := true, laidLooks := .later }
def LexisBackCardSaid : Prop := Claim7.holds Tryd.pinned (.plain (OpenSpec.ofChange lexisBackSpec)) lexisBackCard

/-- THE TIED CARD OF 'seedbedlaw01.LexisOwn'. -/
def lexisOwnCard : Claim7 := { stood := { row := lexisOwnRow, standIns := [], harness := (true, "32d53549c4f72126861972180e0d6b2543fd6a92fa7ee7583bdd7399badcddb1"), looks := true }, kinds := [], alts := [], laidByText := true, laidKinds := [.data, .data, .data, .data, .sentinel, .sentinel, .listed, .data, .pinned], laidTests := true, laidLooks := .later }
def LexisOwnCardSaid : Prop := Claim7.holds Tryd.pinned (.plain (OpenSpec.ofChange lexisOwnSpec)) lexisOwnCard

/-- THE TIED CARD OF 'seedbedlaw01.LexisPlaces'. -/
def lexisPlacesCard : Claim7 := { stood := { row := lexisPlacesRow, standIns := [], harness := (true, "32d53549c4f72126861972180e0d6b2543fd6a92fa7ee7583bdd7399badcddb1"), looks := true }, kinds := [], alts := [], laidByText := true, laidKinds := [.data, .data, .data, .data, .sentinel, .sentinel, .listed, .data, .pinned], laidTests := true, laidLooks := .later }
def LexisPlacesCardSaid : Prop := Claim7.holds Tryd.pinned (.plain (OpenSpec.ofChange lexisPlacesSpec)) lexisPlacesCard

/-- THE TIED CARD OF 'seedbedlaw01.LexisCounted'. -/
def lexisCountedCard : Claim7 := { stood := { row := lexisCountedRow, standIns := [], harness := (true, "32d53549c4f72126861972180e0d6b2543fd6a92fa7ee7583bdd7399badcddb1"), looks := true }, kinds := [], alts := [], laidByText := true, laidKinds := [.data, .data, .data, .data, .sentinel, .sentinel, .listed, .data, .pinned], laidTests := true, laidLooks := .later }
def LexisCountedCardSaid : Prop := Claim7.holds Tryd.pinned (.plain (OpenSpec.ofChange lexisCountedSpec)) lexisCountedCard

/-- THE SECOND FORM's CARD OF 'seedbedlaw01.LexisTokens'. -/
def lexisTokensUptoCard : Claim7 := { stood := { row := lexisTokensUptoRow, standIns := [], harness := (true, "32d53549c4f72126861972180e0d6b2543fd6a92fa7ee7583bdd7399badcddb1"), looks := true }, kinds := [], alts := [], laidByText := true, laidKinds := [.data, .data, .data, .data, .sentinel, .sentinel, .listed, .data, .pinned], laidTests := true, laidLooks := .later }
def LexisTokensUptoCardSaid : Prop := Claim7.holds Tryd.pinned (.plain (OpenSpec.upto lexisTokensSpec)) lexisTokensUptoCard

/-- THE SECOND FORM's CARD OF 'seedbedlaw01.LexisQuotes'. -/
def lexisQuotesUptoCard : Claim7 := { stood := { row := lexisQuotesUptoRow, standIns := [], harness := (true, "32d53549c4f72126861972180e0d6b2543fd6a92fa7ee7583bdd7399badcddb1"), looks := true }, kinds := [], alts := [], laidByText := true, laidKinds := [.data, .data, .data, .data, .sentinel, .sentinel, .listed, .data, .pinned], laidTests := true, laidLooks := .later }
def LexisQuotesUptoCardSaid : Prop := Claim7.holds Tryd.pinned (.plain (OpenSpec.upto lexisQuotesSpec)) lexisQuotesUptoCard

/-- THE SECOND FORM's CARD OF 'seedbedlaw01.LexisStands'. -/
def lexisStandsUptoCard : Claim7 := { stood := { row := lexisStandsUptoRow, standIns := [], harness := (true, "32d53549c4f72126861972180e0d6b2543fd6a92fa7ee7583bdd7399badcddb1"), looks := true }, kinds := [], alts := [], laidByText := true, laidKinds := [.data, .data, .data, .data, .sentinel, .sentinel, .listed, .data, .pinned], laidTests := true, laidLooks := .later }
def LexisStandsUptoCardSaid : Prop := Claim7.holds Tryd.pinned (.plain (OpenSpec.upto lexisStandsSpec)) lexisStandsUptoCard

/-- THE SECOND FORM's CARD OF 'seedbedlaw01.LexisComment'. -/
def lexisCommentUptoCard : Claim7 := { stood := { row := lexisCommentUptoRow, standIns := [], harness := (true, "32d53549c4f72126861972180e0d6b2543fd6a92fa7ee7583bdd7399badcddb1"), looks := true }, kinds := [], alts := [], laidByText := true, laidKinds := [.data, .data, .data, .data, .sentinel, .sentinel, .listed, .data, .pinned], laidTests := true, laidLooks := .later }
def LexisCommentUptoCardSaid : Prop := Claim7.holds Tryd.pinned (.plain (OpenSpec.upto lexisCommentSpec)) lexisCommentUptoCard

/-- THE SECOND FORM's CARD OF 'seedbedlaw01.LexisParts'. -/
def lexisPartsUptoCard : Claim7 := { stood := { row := lexisPartsUptoRow, standIns := [], harness := (true, "32d53549c4f72126861972180e0d6b2543fd6a92fa7ee7583bdd7399badcddb1"), looks := true }, kinds := [], alts := [], laidByText := true, laidKinds := [.data, .data, .data, .data, .sentinel, .sentinel, .listed, .data, .pinned], laidTests := true, laidLooks := .later }
def LexisPartsUptoCardSaid : Prop := Claim7.holds Tryd.pinned (.plain (OpenSpec.upto lexisPartsSpec)) lexisPartsUptoCard

/-- THE SECOND FORM's CARD OF 'seedbedlaw01.LexisNames'. -/
def lexisNamesUptoCard : Claim7 := { stood := { row := lexisNamesUptoRow, standIns := [], harness := (true, "32d53549c4f72126861972180e0d6b2543fd6a92fa7ee7583bdd7399badcddb1"), looks := true }, kinds := [], alts := [], laidByText := true, laidKinds := [.data, .data, .data, .data, .sentinel, .sentinel, .listed, .data, .pinned], laidTests := true, laidLooks := .later }
def LexisNamesUptoCardSaid : Prop := Claim7.holds Tryd.pinned (.plain (OpenSpec.upto lexisNamesSpec)) lexisNamesUptoCard

/-- THE SECOND FORM's CARD OF 'seedbedlaw01.LexisJoins'. -/
def lexisJoinsUptoCard : Claim7 := { stood := { row := lexisJoinsUptoRow, standIns := [], harness := (true, "32d53549c4f72126861972180e0d6b2543fd6a92fa7ee7583bdd7399badcddb1"), looks := true }, kinds := [], alts := [], laidByText := true, laidKinds := [.data, .data, .data, .data, .sentinel, .sentinel, .listed, .data, .pinned], laidTests := true, laidLooks := .later }
def LexisJoinsUptoCardSaid : Prop := Claim7.holds Tryd.pinned (.plain (OpenSpec.upto lexisJoinsSpec)) lexisJoinsUptoCard

/-- THE SECOND FORM's CARD OF 'seedbedlaw01.LexisBack'. -/
def lexisBackUptoCard : Claim7 := { stood := { row := lexisBackUptoRow, standIns := [], harness := (true, "32d53549c4f72126861972180e0d6b2543fd6a92fa7ee7583bdd7399badcddb1"), looks := true }, kinds := [], alts := [], laidByText := true, laidKinds := [.data, .data, .data, .data, .sentinel, .sentinel, .listed, .data, .pinned], laidTests := true, laidLooks := .later }
def LexisBackUptoCardSaid : Prop := Claim7.holds Tryd.pinned (.plain (OpenSpec.upto lexisBackSpec)) lexisBackUptoCard

/-- THE SECOND FORM's CARD OF 'seedbedlaw01.LexisOwn'. -/
def lexisOwnUptoCard : Claim7 := { stood := { row := lexisOwnUptoRow, standIns := [], harness := (true, "32d53549c4f72126861972180e0d6b2543fd6a92fa7ee7583bdd7399badcddb1"), looks := true }, kinds := [], alts := [], laidByText := true, laidKinds := [.data, .data, .data, .data, .sentinel, .sentinel, .listed, .data, .pinned], laidTests := true, laidLooks := .later }
def LexisOwnUptoCardSaid : Prop := Claim7.holds Tryd.pinned (.plain (OpenSpec.upto lexisOwnSpec)) lexisOwnUptoCard

/-- THE SECOND FORM's CARD OF 'seedbedlaw01.LexisPlaces'. -/
def lexisPlacesUptoCard : Claim7 := { stood := { row := lexisPlacesUptoRow, standIns := [], harness := (true, "32d53549c4f72126861972180e0d6b2543fd6a92fa7ee7583bdd7399badcddb1"), looks := true }, kinds := [], alts := [], laidByText := true, laidKinds := [.data, .data, .data, .data, .sentinel, .sentinel, .listed, .data, .pinned], laidTests := true, laidLooks := .later }
def LexisPlacesUptoCardSaid : Prop := Claim7.holds Tryd.pinned (.plain (OpenSpec.upto lexisPlacesSpec)) lexisPlacesUptoCard

/-- THE SECOND FORM's CARD OF 'seedbedlaw01.LexisCounted'. -/
def lexisCountedUptoCard : Claim7 := { stood := { row := lexisCountedUptoRow, standIns := [], harness := (true, "32d53549c4f72126861972180e0d6b2543fd6a92fa7ee7583bdd7399badcddb1"), looks := true }, kinds := [], alts := [], laidByText := true, laidKinds := [.data, .data, .data, .data, .sentinel, .sentinel, .listed, .data, .pinned], laidTests := true, laidLooks := .later }
def LexisCountedUptoCardSaid : Prop := Claim7.holds Tryd.pinned (.plain (OpenSpec.upto lexisCountedSpec)) lexisCountedUptoCard
end Rows
end Go.Proofs.YtmpgphjbeoboaaaDoor
