/- LexisJoins: for any list of tokens, Join answers their texts, or ErrArg. -/
import Derived.Test.YtmpgphjbeoboaaaDoorSbJoinAny
set_option linter.unusedVariables false
set_option linter.unusedSimpArgs false
namespace Go.Proofs.YtmpgphjbeoboaaaDoor
open Go.Sb
set_option maxRecDepth 100000

theorem JoinL (h : Heap) (T : List TokT) (hl : T.length ≤ 4001) (hs0 : ∀ t ∈ T, t.2.1.length ≤ 2 ^ 47) : Has envQ .own 30 [lV T] h (.val (joinAV T) h) := by
  unfold lV
  by_cases hn : T = []
  · subst hn; rw [if_pos rfl]; exact Join_nil h
  · rw [if_neg hn]; exact Join_any h T hn hl hs0
theorem refJoinL (h : Heap) (T : List TokT) (hl : T.length ≤ 4001) (hs0 : ∀ t ∈ T, t.2.1.length ≤ 2 ^ 47) : Has envQ .own 31 [lV T] h (.val (joinRV T) h) := by
  unfold lV
  by_cases hn : T = []
  · subst hn; rw [if_pos rfl]; exact refJoin_nil h
  · rw [if_neg hn]; exact refJoin_any h T hl hs0
theorem listL (h : Heap) (T : List TokT) (u : V) (hu : (u = .nils ∧ T = []) ∨ u = .lst 3 (T.map tkV)) : Has envQ .own 29 [u] h (.val (lV (T.take 2002)) h) := by
  rcases hu with ⟨rfl, rfl⟩ | rfl
  · exact list_nil h
  · exact list_has h T
theorem lV_frozen (T : List TokT) : lV T = .nils ∨ ∃ es, lV T = .lst 3 es := by
  unfold lV; split
  · exact .inl rfl
  · exact .inr ⟨_, rfl⟩
theorem lexisJoins_has (u : V) (hU : ∃ T : List TokT, ((u = .nils ∧ T = []) ∨ u = .lst 3 (T.map tkV)) ∧ ∀ t ∈ T, t.2.1.length ≤ 140737488351232) : Has envQ .own 9 [u] [] (.val (.bool true) []) := by
  obtain ⟨T, hu, hs⟩ := hU
  have hz : [u].mapM (Sb.fz envQ [] depthF) = some [u] := by rcases hu with ⟨rfl, _⟩ | rfl <;> rfl
  refine HasP.own (a := [u]) (d := fn9) hz rfl rfl (of_decide_eq_true rfl) ?_
  have hL := fun g => listL g T u hu
  have hl2 : (T.take 2002).length ≤ 4001 := by rw [List.length_take]; omega
  have hs2 : ∀ t ∈ T.take 2002, t.2.1.length ≤ 2 ^ 47 := fun t ht => by have := hs t (List.mem_of_mem_take ht); omega
  generalize T.take 2002 = M at *
  repeat (first | apply RunP.seq | apply RunP.region | apply RunP.condT rfl | apply RunP.condF rfl | apply RunP.skip | apply RunP.block | apply RunP.exit | apply RunP.ret)
  refine CallK.of (hL _) ?_
  repeat (first | apply RunP.seq | apply RunP.region | apply RunP.condT rfl | apply RunP.condF rfl | apply RunP.skip | apply RunP.block | apply RunP.exit | apply RunP.ret)
  have hP := fun g => JoinL g M hl2 hs2
  have hR := fun g => refJoinL g M hl2 hs2
  unfold joinAV at hP
  unfold joinRV at hR
  by_cases hg : goodT M
  · rw [if_pos hg] at hP hR
    refine CallK.of (hP _) ?_
    repeat (first | apply RunP.seq | apply RunP.region | apply RunP.condT rfl | apply RunP.condF rfl | apply RunP.skip | apply RunP.block | apply RunP.exit | apply RunP.ret)
    refine CallK.of (hR _) ?_
    repeat (first | apply RunP.seq | apply RunP.region | apply RunP.condT rfl | apply RunP.condF rfl | apply RunP.skip | apply RunP.block | apply RunP.exit | apply RunP.ret)
    refine And.intro (fun _ => ?_) (fun q => absurd rfl q)
    refine And.intro (fun _ => ?_) (fun q => absurd rfl q)
    refine CallK.of (awake_told _) ?_
    repeat (first | apply RunP.seq | apply RunP.region | apply RunP.condT rfl | apply RunP.condF rfl | apply RunP.skip | apply RunP.block | apply RunP.exit | apply RunP.ret)
    exact ⟨rfl, rfl, Bool.or_true _⟩
  · rw [if_neg hg] at hP hR
    refine CallK.of (hP _) ?_
    repeat (first | apply RunP.seq | apply RunP.region | apply RunP.condT rfl | apply RunP.condF rfl | apply RunP.skip | apply RunP.block | apply RunP.exit | apply RunP.ret)
    refine CallK.of (hR _) ?_
    repeat (first | apply RunP.seq | apply RunP.region | apply RunP.condT rfl | apply RunP.condF rfl | apply RunP.skip | apply RunP.block | apply RunP.exit | apply RunP.ret)
    refine And.intro (fun _ => ?_) (fun q => absurd rfl q)
    refine And.intro (fun _ => ?_) (fun q => absurd rfl q)
    refine CallK.of (awake_told _) ?_
    repeat (first | apply RunP.seq | apply RunP.region | apply RunP.condT rfl | apply RunP.condF rfl | apply RunP.skip | apply RunP.block | apply RunP.exit | apply RunP.ret)
    exact ⟨rfl, rfl, Bool.or_true _⟩
end Go.Proofs.YtmpgphjbeoboaaaDoor
