/- The law TraceBack, run by the evaluator. -/
import Derived.Test.YtnefminojpandaaDoorSbParse25
import Derived.Test.YtnefminojpandaaDoorSbTraceOf
set_option linter.unusedVariables false
set_option linter.unusedSimpArgs false
namespace Go.Proofs.YtnefminojpandaaDoor
open Go.Sb
set_option maxRecDepth 100000

/-- Parse at a text of events; at any text. -/
theorem parse_back (h : Heap) {l : List Ev} (ho : l.all okEv = true) (hl : l.length ≤ 100) : ∃ v, Has env2 .own 34 [.str (l.flatMap lineB)] h (.val (.tup [v, .int .i64 0]) h) ∧ Fr 10 v (evs l) := by
  have h1 := lines_len ho
  obtain ⟨v, k1, k2⟩ := parse_has h (s0 := l.flatMap lineB) (by omega)
  rw [parse_lines l _ ho (Nat.le_refl _)] at k1 k2
  exact ⟨v, k1, k2⟩
theorem parse_any (h : Heap) {s : List UInt8} (hl : s.length ≤ 6000) : (∃ v, Has env2 .own 34 [.str s] h (.val (.tup [v, .int .i64 4]) h) ∧ Fr 10 v (evs []) ∧ parseR s.length s = none) ∨
    (∃ v l, Has env2 .own 34 [.str s] h (.val (.tup [v, .int .i64 0]) h) ∧ Fr 10 v (evs l) ∧ parseR s.length s = some l ∧ s = l.flatMap lineB ∧ l.all okEv = true ∧ l.length ≤ 6000) := by
  obtain ⟨v, k1, k2⟩ := parse_has h (s0 := s) (by omega)
  cases hp : parseR s.length s with
  | none => rw [hp] at k1 k2; exact .inl ⟨v, k1, k2, rfl⟩
  | some l =>
    rw [hp] at k1 k2
    obtain ⟨h1, h2⟩ := parse_sound _ _ _ hp
    refine .inr ⟨v, l, k1, k2, rfl, h1, h2, ?_⟩
    have : l.length ≤ (l.flatMap lineB).length := by
      clear h1 h2 k1 k2 hp
      induction l with
      | nil => simp
      | cons e l ih => simp only [List.flatMap_cons, List.length_append, List.length_cons, lineB, List.length_nil]; omega
    rw [← h1] at this
    omega

theorem text_ok {v : V} {l : List Ev} (h : Heap) (hv : Fr 10 v (evs l)) (hl : l.length ≤ 20000) (ho : l.all okEv = true) : Has env2 .own 18 [v] h (.val (.tup [.str (l.flatMap lineB), .int .i64 0]) h) := by
  have := text18_has h hv hl
  unfold textV at this
  rwa [ho] at this
theorem text_bad {v : V} {l : List Ev} (h : Heap) (hv : Fr 10 v (evs l)) (hl : l.length ≤ 20000) (ho : l.all okEv = false) : Has env2 .own 18 [v] h (.val (.tup [.str [], .int .i64 2]) h) := by
  have := text18_has h hv hl
  unfold textV at this
  rwa [ho] at this

set_option maxHeartbeats 4000000 in
theorem traceBack_has {v0 : V} {l0 : List Ev} (s0 : List UInt8) (hv0 : Fr 10 v0 (evs l0)) : Has env2 .own 11 [v0, .str s0] [] (.val (.bool true) []) := by
  refine HasP.own (a := [v0, .str s0]) (d := fn11) (leaf_args (by simp [hv0.leaf]; rfl)) rfl rfl (of_decide_eq_true rfl) ?_
  have nr : (V.norefs [v0, .str s0] || V.flat (.bool true)) = true := by rw [Bool.or_eq_true]; exact .inr rfl
  obtain ⟨v, c1, hv⟩ := few_has (k := 100) [] hv0 (by omega)
  generalize hl : l0.take 100 = l at hv
  have hlen : l.length ≤ 100 := by rw [← hl, List.length_take]; omega
  apply RunP.seq
  apply RunP.region
  apply RunP.seq
  apply RunP.region
  refine CallK.of c1 ?_
  apply RunP.seq
  apply RunP.region
  obtain ⟨v2, c2, hv2⟩ := few_has (k := 100) [] hv (by omega)
  rw [List.take_of_length_le hlen] at hv2
  refine CallK.of c2 ?_
  cases ho : l.all okEv
  · refine CallK.of (text_bad _ hv2 (by omega) ho) ?_
    apply RunP.seq
    apply RunP.seq
    apply RunP.region
    refine And.intro (fun hc => absurd hc (by decide)) (fun _ => ?_)
    apply RunP.condF rfl
    apply RunP.skip
    apply RunP.seq
    apply RunP.region
    apply And.intro
    · split <;> omega
    apply And.intro
    · split <;> omega
    generalize hs : List.drop 0 (List.take (if (6000 : Int) < (s0.length : Int) then (6000 : Int) else (s0.length : Int)).toNat s0) = s
    have hsl : s.length ≤ 6000 := by
      rw [← hs, List.drop_zero, List.length_take]
      split <;> omega
    apply RunP.seq
    apply RunP.region
    rcases parse_any [] hsl with ⟨v9, p1, p2, _⟩ | ⟨v9, m, p1, p2, _, hsm, hmo, hml⟩
    · refine CallK.of p1 ?_
      apply RunP.seq
      apply RunP.seq
      apply RunP.region
      refine And.intro (fun hc => absurd hc (by decide)) (fun _ => ?_)
      apply RunP.condT rfl
      apply RunP.seq
      apply RunP.region
      refine And.intro (fun _ => ?_) (fun hc => absurd rfl hc)
      refine bindR_of (v := .int .i64 ([] : List Ev).length) (h := []) (congrArg (val · []) (fr_len p2 [])) ?_
      refine And.intro (fun _ => ?_) (fun hc => absurd rfl hc)
      refine CallK.of (awake_has _) ?_
      apply RunP.ret
      exact ⟨rfl, rfl, nr⟩
    · refine CallK.of p1 ?_
      apply RunP.seq
      apply RunP.seq
      apply RunP.region
      refine And.intro (fun _ => ?_) (fun hc => absurd rfl hc)
      apply RunP.condF rfl
      apply RunP.skip
      apply RunP.seq
      apply RunP.region
      refine CallK.of (text_ok [] p2 (by omega) hmo) ?_
      apply RunP.seq
      apply RunP.region
      refine And.intro (fun _ => ?_) (fun hc => absurd rfl hc)
      refine And.intro (fun _ => ?_) (fun hc => absurd hsm.symm hc)
      refine CallK.of (awake_has _) ?_
      apply RunP.ret
      exact ⟨rfl, rfl, nr⟩
  · refine CallK.of (text_ok _ hv2 (by omega) ho) ?_
    apply RunP.seq
    apply RunP.seq
    apply RunP.region
    refine And.intro (fun _ => ?_) (fun hc => absurd rfl hc)
    apply RunP.condT rfl
    apply RunP.seq
    apply RunP.region
    obtain ⟨v7, c7, hv7⟩ := parse_back [] ho hlen
    refine CallK.of c7 ?_
    apply RunP.seq
    apply RunP.region
    refine And.intro (fun _ => ?_) (fun hc => absurd rfl hc)
    refine CallK.of (equal_has [] (fz_leaf (n := 11) hv.leaf) (fz_leaf (n := 11) hv7.leaf) hv hv7 (by omega)) ?_
    apply RunP.condF rfl
    apply RunP.skip
    apply RunP.seq
    apply RunP.region
    apply And.intro
    · split <;> omega
    apply And.intro
    · split <;> omega
    generalize hs : List.drop 0 (List.take (if (6000 : Int) < (s0.length : Int) then (6000 : Int) else (s0.length : Int)).toNat s0) = s
    have hsl : s.length ≤ 6000 := by
      rw [← hs, List.drop_zero, List.length_take]
      split <;> omega
    apply RunP.seq
    apply RunP.region
    rcases parse_any [] hsl with ⟨v9, p1, p2, _⟩ | ⟨v9, m, p1, p2, _, hsm, hmo, hml⟩
    · refine CallK.of p1 ?_
      apply RunP.seq
      apply RunP.seq
      apply RunP.region
      refine And.intro (fun hc => absurd hc (by decide)) (fun _ => ?_)
      apply RunP.condT rfl
      apply RunP.seq
      apply RunP.region
      refine And.intro (fun _ => ?_) (fun hc => absurd rfl hc)
      refine bindR_of (v := .int .i64 ([] : List Ev).length) (h := []) (congrArg (val · []) (fr_len p2 [])) ?_
      refine And.intro (fun _ => ?_) (fun hc => absurd rfl hc)
      refine CallK.of (awake_has _) ?_
      apply RunP.ret
      exact ⟨rfl, rfl, nr⟩
    · refine CallK.of p1 ?_
      apply RunP.seq
      apply RunP.seq
      apply RunP.region
      refine And.intro (fun _ => ?_) (fun hc => absurd rfl hc)
      apply RunP.condF rfl
      apply RunP.skip
      apply RunP.seq
      apply RunP.region
      refine CallK.of (text_ok [] p2 (by omega) hmo) ?_
      apply RunP.seq
      apply RunP.region
      refine And.intro (fun _ => ?_) (fun hc => absurd rfl hc)
      refine And.intro (fun _ => ?_) (fun hc => absurd hsm.symm hc)
      refine CallK.of (awake_has _) ?_
      apply RunP.ret
      exact ⟨rfl, rfl, nr⟩
end Go.Proofs.YtnefminojpandaaDoor
