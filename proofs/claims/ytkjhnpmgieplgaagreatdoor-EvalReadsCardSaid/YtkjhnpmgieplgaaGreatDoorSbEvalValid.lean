/- EvalValid: the law answers true. -/
import Derived.Test.YtkjhnpmgieplgaaGreatDoorSbVal
import Derived.Test.YtkjhnpmgieplgaaGreatDoorSbDraw2
set_option linter.unusedVariables false
set_option linter.unusedSimpArgs false
namespace Go.Proofs.YtkjhnpmgieplgaaGreatDoor
open Go.Sb
set_option maxRecDepth 100000

end Go.Proofs.YtkjhnpmgieplgaaGreatDoor
