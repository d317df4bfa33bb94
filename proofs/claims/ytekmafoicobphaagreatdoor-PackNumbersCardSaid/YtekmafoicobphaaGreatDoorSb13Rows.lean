/- Seat 13: what the rows give to the evaluator. -/
import Derived.Test.YtekmafoicobphaaGreatDoorSb13Base
import Derived.Test.YtekmafoicobphaaGreatDoorSbTop
import Derived.Test.YtekmafoicobphaaGreatDoorSbShaped
import Derived.Lay
import Derived.LaidMore
import Derived.Test.YtekmafoicobphaaGreatDoorCards
import Derived.Test.YtekmafoicobphaaGreatDoorTie
set_option linter.unusedVariables false
set_option linter.unusedSimpArgs false
namespace Go.Proofs.YtekmafoicobphaaGreatDoor
open Go.Sb Go.ChangeShapes Go.WideShapes Go.ChangeAt Go.WideMaps Go.WideElems Go.RowKit
set_option maxRecDepth 100000

theorem own : ownKnob Tryz.prog.godebug = none := by kernel_rfl
theorem laidOut : laidOutB Tryz.prog = true := by kernel_rfl
theorem shp_int {n : Nat} {vs : List V} (h : Shp envQ (n + 1) 3 vs) : ∃ z, vs = [.int .i64 z] ∧ (Lit.int .i64 z).wf = true := by
  obtain ⟨d, hd, _, h⟩ := h
  cases (show some ty3 = some d from hd)
  exact h
theorem shp_str {n : Nat} {vs : List V} (h : Shp envQ (n + 1) 9 vs) : ∃ s, vs = [.str s] ∧ s.length ≤ maxLen := by
  obtain ⟨d, hd, _, h⟩ := h
  cases (show some ty9 = some d from hd)
  exact h
theorem shpA_int {n : Nat} {u : V} (h : ShpA envQ (n + 1) 3 u) : ∃ z, u = .int .i64 z ∧ (Lit.int .i64 z).wf = true := by
  obtain ⟨z, h1, h2⟩ := shp_int h.1
  rw [(h.2 ty3 rfl).2 rfl] at h1
  exact ⟨z, by simpa using h1, h2⟩
theorem shpA_str {n : Nat} {u : V} (h : ShpA envQ (n + 1) 9 u) : ∃ s, u = .str s ∧ s.length ≤ maxLen := by
  obtain ⟨s, h1, h2⟩ := shp_str h.1
  rw [(h.2 ty9 rfl).2 rfl] at h1
  exact ⟨s, by simpa using h1, h2⟩
theorem gl_none {W : World} : ∀ g cs, envQ.gl g = some cs → GlOk (fun r => r < W.heap.size) W g cs := fun g cs h => by
  cases (show (none : Option (List V)) = some cs from h)
theorem wf_i64 {n : Int} (h : (Lit.int .i64 n).wf = true) : -9223372036854775808 ≤ n ∧ n ≤ 9223372036854775807 := by
  simp [Lit.wf, IntKind.min, IntKind.max, IntKind.signed, IntKind.bits] at h
  omega
end Go.Proofs.YtekmafoicobphaaGreatDoor
