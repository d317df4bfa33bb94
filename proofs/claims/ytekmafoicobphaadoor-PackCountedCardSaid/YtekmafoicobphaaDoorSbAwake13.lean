/- Seat 13: the law's own sample answers true. -/
import Derived.Test.YtekmafoicobphaaDoorSbBase13
import Derived.Test.YtekmafoicobphaaDoorSbLib
set_option linter.unusedVariables false
set_option linter.unusedSimpArgs false
namespace Go.Proofs.YtekmafoicobphaaDoor
open Go.Sb
set_option maxRecDepth 100000

theorem awake_run : callN envP 40 .own 8 [] [] = some (.val (.bool true) []) := by kernel_rfl
end Go.Proofs.YtekmafoicobphaaDoor
