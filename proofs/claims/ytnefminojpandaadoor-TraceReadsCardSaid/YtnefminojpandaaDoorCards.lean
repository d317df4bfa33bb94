/-
  DERIVED. GIVEN WITH THE SEED: THE CARDS: each row of YtnefminojpandaaDoorRows.lean that lists a variable, with what it lists TIED to the program's text (the seventh form; the later family's looks); each row that meets fmt, with fmt's text TOLD by the authors' own Lean function (tested against real Go, not proved from fmt's source: count such statements apart). THE CARD IS WHAT COUNTS. Prove the row's statement (the work); the ties are given (YtnefminojpandaaDoorTie.lean); close each card by the builder's one call (the guide's Derived/Test/ToyasCard.lean, 'card_holds'). Laid BY PROGRAM, IN A SANDBOX (cutbox-door.mjs). By AI agents, Wed Nov 11 2026. No macro, syntax, notation, axiom, sorry.
-/
import Derived.Test.YtnefminojpandaaDoorRows
import GoSem.ClaimSeven
namespace Go.Proofs.YtnefminojpandaaDoor
namespace Rows

/-- THE TIED CARD OF 'seedbedlaw25.TraceValues'. -/
def traceValuesCard : Claim7 := { stood := { row := traceValuesRow, standIns := [], harness := (true, "ffb9058dce613387ff582b9d80df953e34acbddc55468415d47bcae754d3d48d"), looks := true }, kinds := [], alts := [], laidByText := true, laidKinds := [.data, .data, .data, .listed, .data], laidTests := true, laidLooks := .later }
def TraceValuesCardSaid : Prop := Claim7.holds Tryd.pinned (.plain (OpenSpec.ofChange traceValuesSpec)) traceValuesCard

/-- THE TIED CARD OF 'seedbedlaw25.TraceWrites'. -/
def traceWritesCard : Claim7 := { stood := { row := traceWritesRow, standIns := [], harness := (true, "ffb9058dce613387ff582b9d80df953e34acbddc55468415d47bcae754d3d48d"), looks := true }, kinds := [], alts := [], laidByText := true, laidKinds := [.data, .data, .data, .listed, .data], laidTests := true, laidLooks := .later }
def TraceWritesCardSaid : Prop := Claim7.holds Tryd.pinned (.plain (OpenSpec.ofChange traceWritesSpec)) traceWritesCard

/-- THE TIED CARD OF 'seedbedlaw25.TraceOf'. -/
def traceOfCard : Claim7 := { stood := { row := traceOfRow, standIns := [], harness := (true, "ffb9058dce613387ff582b9d80df953e34acbddc55468415d47bcae754d3d48d"), looks := true }, kinds := [], alts := [], laidByText := true, laidKinds := [.data, .data, .data, .listed, .data], laidTests := true, laidLooks := .later }
def TraceOfCardSaid : Prop := Claim7.holds Tryd.pinned (.plain (OpenSpec.ofChange traceOfSpec)) traceOfCard

/-- THE TIED CARD OF 'seedbedlaw25.TraceFoata'. -/
def traceFoataCard : Claim7 := { stood := { row := traceFoataRow, standIns := [], harness := (true, "ffb9058dce613387ff582b9d80df953e34acbddc55468415d47bcae754d3d48d"), looks := true }, kinds := [], alts := [], laidByText := true, laidKinds := [.data, .data, .data, .listed, .data], laidTests := true, laidLooks := .later }
def TraceFoataCardSaid : Prop := Claim7.holds Tryd.pinned (.plain (OpenSpec.ofChange traceFoataSpec)) traceFoataCard

/-- THE TIED CARD OF 'seedbedlaw25.TraceSwaps'. -/
def traceSwapsCard : Claim7 := { stood := { row := traceSwapsRow, standIns := [], harness := (true, "ffb9058dce613387ff582b9d80df953e34acbddc55468415d47bcae754d3d48d"), looks := true }, kinds := [], alts := [], laidByText := true, laidKinds := [.data, .data, .data, .listed, .data], laidTests := true, laidLooks := .later }
def TraceSwapsCardSaid : Prop := Claim7.holds Tryd.pinned (.plain (OpenSpec.ofChange traceSwapsSpec)) traceSwapsCard

/-- THE TIED CARD OF 'seedbedlaw25.TraceSame'. -/
def traceSameCard : Claim7 := { stood := { row := traceSameRow, standIns := [], harness := (true, "ffb9058dce613387ff582b9d80df953e34acbddc55468415d47bcae754d3d48d"), looks := true }, kinds := [], alts := [], laidByText := true, laidKinds := [.data, .data, .data, .listed, .data], laidTests := true, laidLooks := .later }
def TraceSameCardSaid : Prop := Claim7.holds Tryd.pinned (.plain (OpenSpec.ofChange traceSameSpec)) traceSameCard

/-- THE TIED CARD OF 'seedbedlaw25.TraceLevels'. -/
def traceLevelsCard : Claim7 := { stood := { row := traceLevelsRow, standIns := [], harness := (true, "ffb9058dce613387ff582b9d80df953e34acbddc55468415d47bcae754d3d48d"), looks := true }, kinds := [], alts := [], laidByText := true, laidKinds := [.data, .data, .data, .listed, .data], laidTests := true, laidLooks := .later }
def TraceLevelsCardSaid : Prop := Claim7.holds Tryd.pinned (.plain (OpenSpec.ofChange traceLevelsSpec)) traceLevelsCard

/-- THE TIED CARD OF 'seedbedlaw25.TraceReads'. -/
def traceReadsCard : Claim7 := { stood := { row := traceReadsRow, standIns := [], harness := (true, "ffb9058dce613387ff582b9d80df953e34acbddc55468415d47bcae754d3d48d"), looks := true }, kinds := [], alts := [], laidByText := true, laidKinds := [.data, .data, .data, .sentinel, .sentinel, .listed, .data], laidTests := true, laidLooks := .later }
def TraceReadsCardSaid : Prop := Claim7.holds Tryd.pinned (.plain (OpenSpec.ofChange traceReadsSpec)) traceReadsCard

/-- THE TIED CARD OF 'seedbedlaw25.TraceBack'. -/
def traceBackCard : Claim7 := { stood := { row := traceBackRow, standIns := [], harness := (true, "ffb9058dce613387ff582b9d80df953e34acbddc55468415d47bcae754d3d48d"), looks := true }, kinds := [], alts := [], laidByText := true, laidKinds := [.data, .data, .data, .sentinel, .sentinel, .listed, .data], laidTests := true, laidLooks := .later }
def TraceBackCardSaid : Prop := Claim7.holds Tryd.pinned (.plain (OpenSpec.ofChange traceBackSpec)) traceBackCard

/-- THE SECOND FORM's CARD OF 'seedbedlaw25.TraceValues'. -/
def traceValuesUptoCard : Claim7 := { stood := { row := traceValuesUptoRow, standIns := [], harness := (true, "ffb9058dce613387ff582b9d80df953e34acbddc55468415d47bcae754d3d48d"), looks := true }, kinds := [], alts := [], laidByText := true, laidKinds := [.data, .data, .data, .listed, .data], laidTests := true, laidLooks := .later }
def TraceValuesUptoCardSaid : Prop := Claim7.holds Tryd.pinned (.plain (OpenSpec.upto traceValuesSpec)) traceValuesUptoCard

/-- THE SECOND FORM's CARD OF 'seedbedlaw25.TraceWrites'. -/
def traceWritesUptoCard : Claim7 := { stood := { row := traceWritesUptoRow, standIns := [], harness := (true, "ffb9058dce613387ff582b9d80df953e34acbddc55468415d47bcae754d3d48d"), looks := true }, kinds := [], alts := [], laidByText := true, laidKinds := [.data, .data, .data, .listed, .data], laidTests := true, laidLooks := .later }
def TraceWritesUptoCardSaid : Prop := Claim7.holds Tryd.pinned (.plain (OpenSpec.upto traceWritesSpec)) traceWritesUptoCard

/-- THE SECOND FORM's CARD OF 'seedbedlaw25.TraceOf'. -/
def traceOfUptoCard : Claim7 := { stood := { row := traceOfUptoRow, standIns := [], harness := (true, "ffb9058dce613387ff582b9d80df953e34acbddc55468415d47bcae754d3d48d"), looks := true }, kinds := [], alts := [], laidByText := true, laidKinds := [.data, .data, .data, .listed, .data], laidTests := true, laidLooks := .later }
def TraceOfUptoCardSaid : Prop := Claim7.holds Tryd.pinned (.plain (OpenSpec.upto traceOfSpec)) traceOfUptoCard

/-- THE SECOND FORM's CARD OF 'seedbedlaw25.TraceFoata'. -/
def traceFoataUptoCard : Claim7 := { stood := { row := traceFoataUptoRow, standIns := [], harness := (true, "ffb9058dce613387ff582b9d80df953e34acbddc55468415d47bcae754d3d48d"), looks := true }, kinds := [], alts := [], laidByText := true, laidKinds := [.data, .data, .data, .listed, .data], laidTests := true, laidLooks := .later }
def TraceFoataUptoCardSaid : Prop := Claim7.holds Tryd.pinned (.plain (OpenSpec.upto traceFoataSpec)) traceFoataUptoCard

/-- THE SECOND FORM's CARD OF 'seedbedlaw25.TraceSwaps'. -/
def traceSwapsUptoCard : Claim7 := { stood := { row := traceSwapsUptoRow, standIns := [], harness := (true, "ffb9058dce613387ff582b9d80df953e34acbddc55468415d47bcae754d3d48d"), looks := true }, kinds := [], alts := [], laidByText := true, laidKinds := [.data, .data, .data, .listed, .data], laidTests := true, laidLooks := .later }
def TraceSwapsUptoCardSaid : Prop := Claim7.holds Tryd.pinned (.plain (OpenSpec.upto traceSwapsSpec)) traceSwapsUptoCard

/-- THE SECOND FORM's CARD OF 'seedbedlaw25.TraceSame'. -/
def traceSameUptoCard : Claim7 := { stood := { row := traceSameUptoRow, standIns := [], harness := (true, "ffb9058dce613387ff582b9d80df953e34acbddc55468415d47bcae754d3d48d"), looks := true }, kinds := [], alts := [], laidByText := true, laidKinds := [.data, .data, .data, .listed, .data], laidTests := true, laidLooks := .later }
def TraceSameUptoCardSaid : Prop := Claim7.holds Tryd.pinned (.plain (OpenSpec.upto traceSameSpec)) traceSameUptoCard

/-- THE SECOND FORM's CARD OF 'seedbedlaw25.TraceLevels'. -/
def traceLevelsUptoCard : Claim7 := { stood := { row := traceLevelsUptoRow, standIns := [], harness := (true, "ffb9058dce613387ff582b9d80df953e34acbddc55468415d47bcae754d3d48d"), looks := true }, kinds := [], alts := [], laidByText := true, laidKinds := [.data, .data, .data, .listed, .data], laidTests := true, laidLooks := .later }
def TraceLevelsUptoCardSaid : Prop := Claim7.holds Tryd.pinned (.plain (OpenSpec.upto traceLevelsSpec)) traceLevelsUptoCard

/-- THE SECOND FORM's CARD OF 'seedbedlaw25.TraceReads'. -/
def traceReadsUptoCard : Claim7 := { stood := { row := traceReadsUptoRow, standIns := [], harness := (true, "ffb9058dce613387ff582b9d80df953e34acbddc55468415d47bcae754d3d48d"), looks := true }, kinds := [], alts := [], laidByText := true, laidKinds := [.data, .data, .data, .sentinel, .sentinel, .listed, .data], laidTests := true, laidLooks := .later }
def TraceReadsUptoCardSaid : Prop := Claim7.holds Tryd.pinned (.plain (OpenSpec.upto traceReadsSpec)) traceReadsUptoCard

/-- THE SECOND FORM's CARD OF 'seedbedlaw25.TraceBack'. -/
def traceBackUptoCard : Claim7 := { stood := { row := traceBackUptoRow, standIns := [], harness := (true, "ffb9058dce613387ff582b9d80df953e34acbddc55468415d47bcae754d3d48d"), looks := true }, kinds := [], alts := [], laidByText := true, laidKinds := [.data, .data, .data, .sentinel, .sentinel, .listed, .data], laidTests := true, laidLooks := .later }
def TraceBackUptoCardSaid : Prop := Claim7.holds Tryd.pinned (.plain (OpenSpec.upto traceBackSpec)) traceBackUptoCard
end Rows
end Go.Proofs.YtnefminojpandaaDoor
