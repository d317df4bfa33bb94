/- Values and faults as a row hands them in. -/
import Derived.Test.YtkjhnpmgieplgaaGreatDoorSbRows
set_option linter.unusedVariables false
set_option linter.unusedSimpArgs false
namespace Go.Proofs.YtkjhnpmgieplgaaGreatDoor
open Go.Sb Go.ChangeShapes Go.WideShapes Go.ChangeAt Go.WideMaps Go.WideElems Go.RowKit
set_option maxRecDepth 100000
theorem shpA_value {n : Nat} {u : V} (h : ShpA envQ (n + 2) 23 u) : ∃ k m s, u = .agg [.int .i64 k, .int .i64 m, .str s] ∧ (Lit.int .i64 k).wf = true ∧ (Lit.int .i64 m).wf = true ∧ s.length ≤ maxLen := by
  obtain ⟨h1, h2⟩ := h
  obtain ⟨cs, rfl⟩ := (h2 ty23 rfl).1 rfl
  obtain ⟨d, hd, _, h⟩ := h1
  cases (show some ty23 = some d from hd)
  obtain ⟨_, _, e, g1, _, _, rfl, g2, _, _, rfl, g3, rfl⟩ := h
  obtain ⟨y1, rfl, w1⟩ := shp_int g1
  obtain ⟨y2, rfl, w2⟩ := shp_int g2
  obtain ⟨y3, rfl, w3⟩ := shp_str g3
  have e : cs = [V.int .i64 y1, .int .i64 y2, .str y3] := e
  subst e
  exact ⟨y1, y2, y3, rfl, w1, w2, w3⟩
theorem shpA_fault {n : Nat} {u : V} (h : ShpA envQ (n + 2) 37 u) : ∃ k s, u = .agg [.int .i64 k, .str s] ∧ (Lit.int .i64 k).wf = true ∧ s.length ≤ maxLen := by
  obtain ⟨h1, h2⟩ := h
  obtain ⟨cs, rfl⟩ := (h2 ty37 rfl).1 rfl
  obtain ⟨d, hd, _, h⟩ := h1
  cases (show some ty37 = some d from hd)
  obtain ⟨_, _, e, g1, _, _, rfl, g3, rfl⟩ := h
  obtain ⟨y1, rfl, w1⟩ := shp_int g1
  obtain ⟨y3, rfl, w3⟩ := shp_str g3
  have e : cs = [V.int .i64 y1, .str y3] := e
  subst e
  exact ⟨y1, y3, rfl, w1, w3⟩
end Go.Proofs.YtkjhnpmgieplgaaGreatDoor
