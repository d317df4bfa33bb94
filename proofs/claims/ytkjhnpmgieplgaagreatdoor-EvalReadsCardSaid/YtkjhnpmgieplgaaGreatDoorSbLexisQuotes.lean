/- The law LexisQuotes. -/
import Derived.Test.YtkjhnpmgieplgaaGreatDoorSbQuote
set_option linter.unusedVariables false
set_option linter.unusedSimpArgs false
namespace Go.Proofs.YtkjhnpmgieplgaaGreatDoor
open Go.Sb
set_option maxRecDepth 100000

theorem quoteV_yes {u : List UInt8} (h : Lex.isText u = true) : quoteV u = .tup [.str (Lex.quote u), .int .i64 0] := by unfold quoteV; rw [h]; rfl
theorem quoteV_no {u : List UInt8} (h : Lex.isText u = false) : quoteV u = .tup [.str [], .int .i64 2] := by unfold quoteV; rw [h]; rfl
end Go.Proofs.YtkjhnpmgieplgaaGreatDoor
