/- Values and faults as a row hands them in. -/
import Derived.Test.YtkjhnpmgieplgaaGreatDoorSbRows
set_option linter.unusedVariables false
set_option linter.unusedSimpArgs false
namespace Go.Proofs.YtkjhnpmgieplgaaGreatDoor
open Go.Sb Go.ChangeShapes Go.WideShapes Go.ChangeAt Go.WideMaps Go.WideElems Go.RowKit
set_option maxRecDepth 100000
end Go.Proofs.YtkjhnpmgieplgaaGreatDoor
