/- Lists of tokens as a row hands them in. -/
import Derived.Test.YtmpgphjbeoboaaaDoorSbRows
import Derived.Test.YtmpgphjbeoboaaaDoorSbArgL
import Derived.Test.YtmpgphjbeoboaaaDoorSbJoinAny
set_option linter.unusedVariables false
set_option linter.unusedSimpArgs false
namespace Go.Proofs.YtmpgphjbeoboaaaDoor
open Go.Sb Go.ChangeShapes Go.WideShapes Go.ChangeAt Go.WideMaps Go.WideElems Go.RowKit
set_option maxRecDepth 100000

theorem shpL_int {L n : Nat} {vs : List V} (h : ShpL L envQ (n + 1) 3 vs) : ∃ z, vs = [.int .i64 z] ∧ (Lit.int .i64 z).wf = true := by
  obtain ⟨d, hd, _, h⟩ := h
  cases (show some ty3 = some d from hd)
  exact h
theorem shpL_str {L n : Nat} {vs : List V} (h : ShpL L envQ (n + 1) 9 vs) : ∃ s, vs = [.str s] ∧ s.length ≤ L := by
  obtain ⟨d, hd, _, h⟩ := h
  cases (show some ty9 = some d from hd)
  exact h
theorem shpL_tok {L n : Nat} {u : V} (h1 : ShpL L envQ (n + 2) 35 u.cells) (h2 : ∃ cs, u = .agg cs) : ∃ t : TokT, u = tkV t ∧ t.2.1.length ≤ L := by
  obtain ⟨cs, rfl⟩ := h2
  obtain ⟨d, hd, _, h⟩ := h1
  cases (show some ty35 = some d from hd)
  obtain ⟨_, _, e, g1, _, _, rfl, g2, _, _, rfl, g3, rfl⟩ := h
  obtain ⟨y1, rfl, w1⟩ := shpL_int g1
  obtain ⟨y2, rfl, w2⟩ := shpL_str g2
  obtain ⟨y3, rfl, w3⟩ := shpL_int g3
  have e : cs = [V.int .i64 y1, .str y2, .int .i64 y3] := e
  subst e
  exact ⟨(y1, y2, y3), rfl, w2⟩
theorem toks_of {L n : Nat} : ∀ {es : List V}, (∀ v ∈ es, ShpL L envQ (n + 2) 35 v.cells ∧ ((ty35).agg = true → ∃ cs, v = .agg cs)) → ∃ T : List TokT, es = T.map tkV ∧ ∀ t ∈ T, t.2.1.length ≤ L
  | [], _ => ⟨[], rfl, fun t ht => by cases ht⟩
  | v :: es, h => by
    obtain ⟨T, rfl, hT⟩ := toks_of (es := es) fun w hw => h w (by simp [hw])
    obtain ⟨h1, h2⟩ := h v (by simp)
    obtain ⟨t, rfl, ht⟩ := shpL_tok h1 (h2 rfl)
    exact ⟨t :: T, rfl, fun a ha => by
      rcases List.mem_cons.1 ha with rfl | ha
      · exact ht
      · exact hT a ha⟩
theorem shpA_toks {L n : Nat} {u : V} (h : ShpAL L envQ (n + 3) 23 u) : ∃ T : List TokT, ((u = .nils ∧ T = []) ∨ u = .lst 3 (T.map tkV)) ∧ ∀ t ∈ T, t.2.1.length ≤ L := by
  obtain ⟨h1, h2⟩ := h
  rw [(h2 ty23 rfl).2 rfl] at h1
  obtain ⟨d, hd, _, h⟩ := h1
  cases (show some ty23 = some d from hd)
  obtain ⟨y, hy, h⟩ := h
  cases (show some ty35 = some y from hy)
  rcases h with h | ⟨es, h, _, hes⟩
  · exact ⟨[], .inl ⟨by simpa using h, rfl⟩, fun t ht => by cases ht⟩
  · obtain ⟨T, rfl, hT⟩ := toks_of hes
    have e : u = V.lst 3 (T.map tkV) := List.cons.inj h |>.1
    exact ⟨T, .inr e, hT⟩
theorem shpAL_str {L n : Nat} {u : V} (h : ShpAL L envQ (n + 1) 9 u) : ∃ s, u = .str s ∧ s.length ≤ L := by
  obtain ⟨s, h1, h2⟩ := shpL_str h.1
  rw [(h.2 ty9 rfl).2 rfl] at h1
  exact ⟨s, by simpa using h1, h2⟩
end Go.Proofs.YtmpgphjbeoboaaaDoor
