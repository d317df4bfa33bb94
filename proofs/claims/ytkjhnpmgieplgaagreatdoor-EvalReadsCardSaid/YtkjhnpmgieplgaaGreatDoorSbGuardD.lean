/- Functions with a deferred closure: read off their code. -/
import Derived.Test.YtkjhnpmgieplgaaGreatDoorSbLib
set_option linter.unusedVariables false
set_option linter.unusedSimpArgs false
namespace Go.Sb

end Go.Sb
