/- The law LexisQuotes. -/
import Derived.Test.YtkjhnpmgieplgaaGreatDoorSbQuote
set_option linter.unusedVariables false
set_option linter.unusedSimpArgs false
namespace Go.Proofs.YtkjhnpmgieplgaaGreatDoor
open Go.Sb
set_option maxRecDepth 100000

/-- The first bytes of a text. -/
theorem brief_len (n : Nat) (s : List UInt8) : ((List.drop 0 (List.take (if ((n : Int)) < (s.length : Int) then ((n : Int)) else (s.length : Int)).toNat s)).length : Int) ≤ n := by
  rw [List.drop_zero, List.length_take]
  split <;> omega

theorem quoteV_yes {u : List UInt8} (h : Lex.isText u = true) : quoteV u = .tup [.str (Lex.quote u), .int .i64 0] := by unfold quoteV; rw [h]; rfl
theorem quoteV_no {u : List UInt8} (h : Lex.isText u = false) : quoteV u = .tup [.str [], .int .i64 2] := by unfold quoteV; rw [h]; rfl
end Go.Proofs.YtkjhnpmgieplgaaGreatDoor
