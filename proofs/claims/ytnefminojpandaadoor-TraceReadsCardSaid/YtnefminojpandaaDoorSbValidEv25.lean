/- Which events may be. -/
import Derived.Test.YtnefminojpandaaDoorSbOwnE
import Derived.Test.YtnefminojpandaaDoorSbValid25
set_option linter.unusedVariables false
set_option linter.unusedSimpArgs false
namespace Go.Proofs.YtnefminojpandaaDoor
open Go.Sb
set_option maxRecDepth 100000
def okEv (e : Ev) : Bool := decide (e.at_ ≥ 0) && decide (e.at_ ≤ 1000000000000) && decide (e.task ≥ 0) && decide (e.task ≤ 64) && decide (e.kind ≥ 1) && decide (e.kind ≤ 22) && decide (e.n ≥ -1) && decide (e.n ≤ 1000000000000) &&
  decide (e.m ≥ -1) && decide (e.m ≤ 1000000000000) && okVal e.vk e.vn e.vs && okFault e.fk e.ft

set_option maxHeartbeats 8000000 in
theorem rvalid_has (h : Heap) (e : Ev) : Has env2 .own 13 [e.v] h (.val (.bool (okEv e)) h) := by
  refine HasP.own (a := [e.v]) (d := fn13) rfl rfl rfl (of_decide_eq_true rfl) ?_
  have fin : ∀ {x : Bool}, x = okEv e → some (V.bool x) = some (V.bool (okEv e)) := fun h => by rw [h]
  apply RunP.seq
  apply RunP.region
  apply RunP.seq
  apply RunP.region
  repeat' first
    | (apply And.intro <;> intro _)
    | (apply RunP.ret; refine And.intro rfl (And.intro (fin ?_) rfl))
    | refine CallK.of (rvalue_has _ e.vk e.vn e.vs) ?_
    | refine CallK.of (rfault_has _ e.fk e.ft) ?_
    | (apply brK.mk <;> intro _)
  all_goals first | (simp [okEv]; omega) | (simp_all [okEv]; done)
end Go.Proofs.YtnefminojpandaaDoor
