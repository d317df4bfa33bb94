/- The law TraceWrites, run by the evaluator. -/
import Derived.Test.YtnefminojpandaaDoorSbLines25
import Derived.Test.YtnefminojpandaaDoorSbTraceOf
set_option linter.unusedVariables false
set_option linter.unusedSimpArgs false
namespace Go.Proofs.YtnefminojpandaaDoor
open Go.Sb
set_option maxRecDepth 100000

def wrI (l : List Ev) (v : V) (k : Nat) (s : List V) (h : Heap) : Prop :=
  ∃ (i : Nat) (z : Int) (x1 x3 x4 x5 x6 x7 x8 x9 x10 x14 x15 x16 x17 x18 x19 x20 x21 x22 x23 x24 x25 x26 x27 x28 x29 x30 x31 x32 x33 x34 x35 x36 x37 x38 x39 x40 x41 x42 x43 x44 x45 x46 x47 x48 x49 x50 x51 x52 x53 x54 x55 : V), i + k = l.length ∧ z = i ∧
    s = [und, v, x1, .bool false, x3, x4, x5, x6, x7, x8, x9, x10, v, .int .i64 l.length, .int .i64 z, x14, x15, x16, x17, x18, x19, x20, x21, x22, x23, x24, x25, x26, x27, x28, x29, x30, x31, x32, x33, x34, x35, x36, x37, x38, x39, x40, x41, x42, x43, x44, x45, x46, x47, x48, x49, x50, x51, x52, x53, x54, x55]


set_option maxHeartbeats 4000000 in
theorem traceWrites_has {v0 : V} {l0 : List Ev} (hv0 : Fr 10 v0 (evs l0)) : Has env2 .own 4 [v0] [] (.val (.bool true) []) := by
  refine HasP.own (a := [v0]) (d := fn4) (leaf_args (by simp [hv0.leaf])) rfl rfl (of_decide_eq_true rfl) ?_
  obtain ⟨v, c1, hv⟩ := few_has (k := 100) [] hv0 (by omega)
  generalize hl : l0.take 100 = l at hv
  have hlen : l.length ≤ 100 := by rw [← hl, List.length_take]; omega
  apply RunP.seq
  apply RunP.region
  apply RunP.seq
  apply RunP.region
  refine CallK.of c1 ?_
  apply RunP.seq
  apply RunP.seq
  apply RunP.region
  refine bindR_of (v := .int .i64 l.length) (h := []) (congrArg (val · []) (fr_len hv [])) ?_
  apply RunP.block
  refine RunP.loop (wrI l v) ?_ l.length ⟨0, 0, _, _, _, _, _, _, _, _, _, _, _, _, _, _, _, _, _, _, _, _, _, _, _, _, _, _, _, _, _, _, _, _, _, _, _, _, _, _, _, _, _, _, _, _, _, _, _, _, _, _, _, by omega, rfl, rfl⟩
  rintro k s g ⟨i, z, x1, x3, x4, x5, x6, x7, x8, x9, x10, x14, x15, x16, x17, x18, x19, x20, x21, x22, x23, x24, x25, x26, x27, x28, x29, x30, x31, x32, x33, x34, x35, x36, x37, x38, x39, x40, x41, x42, x43, x44, x45, x46, x47, x48, x49, x50, x51, x52, x53, x54, x55, hik, hz, rfl⟩
  apply RunP.seq
  apply RunP.region
  apply And.intro
  · intro hlt
    have hi : i < l.length := by omega
    have := fr_lst hv hi; subst this
    apply RunP.seq
    apply RunP.condT rfl
    apply RunP.skip
    apply RunP.seq
    apply RunP.block
    apply RunP.seq
    apply RunP.region
    apply And.intro
    · omega
    apply And.intro
    · rfl
    refine Exists.intro (l[i]).v (And.intro (by subst hz; simp [evs, hi]) ?_)
    refine bindK_of (store_last (E := env2) (t := 27) (n := 10) rfl rfl rfl rfl rfl) ?_
    apply RunP.seq
    apply RunP.drawn
    · decide +kernel
    have ld := fun h => load_last (E := env2) (t := 27) (T := 27) (h := h) (cs := l[i].cells) (o := 0) (n := 10) rfl
    refine bindK_of (ld _) ?_
    cases ho : okEv l[i]
    · refine CallK.of (check_bad _ ho) ?_
      refine drawR (by decide +kernel) (by decide +kernel) ?_
      refine And.intro (fun hc => absurd hc (by decide)) (fun _ => ?_)
      refine drawZ (by decide +kernel) (by decide +kernel) ?_
      refine bindK_of (ld _) ?_
      refine CallK.of (rvalid_t _ ho) ?_
      refine drawR (by decide +kernel) (by decide +kernel) ?_
      refine bindK_of (ld _) ?_
      refine CallK.of (check_bad _ ho) ?_
      refine drawR (by decide +kernel) (by decide +kernel) ?_
      refine And.intro (fun hc => absurd hc (by decide)) (fun _ => ?_)
      refine drawZ (by decide +kernel) (by decide +kernel) ?_
      refine bindK_of (ld _) ?_
      refine CallK.of (check_bad _ ho) ?_
      refine drawR (by decide +kernel) (by decide +kernel) ?_
      refine And.intro (fun _ => ?_) (fun hc => absurd rfl hc)
      refine drawZ (by decide +kernel) (by decide +kernel) ?_
      apply RunP.condF rfl
      apply RunP.skip
      apply RunP.region
      refine ⟨k - 1, by omega, i + 1, _, _, _, _, _, _, _, _, _, _, _, _, _, _, _, _, _, _, _, _, _, _, _, _, _, _, _, _, _, _, _, _, _, _, _, _, _, _, _, _, _, _, _, _, _, _, _, _, _, _, _, _, by omega, ?_, rfl⟩
      subst hz; exact wrap_up i (by omega)
    · refine CallK.of (check_ok _ ho) ?_
      refine drawR (by decide +kernel) (by decide +kernel) ?_
      refine And.intro (fun _ => ?_) (fun hc => absurd rfl hc)
      refine drawZ (by decide +kernel) (by decide +kernel) ?_
      refine bindK_of (ld _) ?_
      refine CallK.of (rvalid_t _ ho) ?_
      refine drawR (by decide +kernel) (by decide +kernel) ?_
      refine bindK_of (ld _) ?_
      refine CallK.of (check_ok _ ho) ?_
      refine drawR (by decide +kernel) (by decide +kernel) ?_
      refine And.intro (fun _ => ?_) (fun hc => absurd rfl hc)
      refine drawZ (by decide +kernel) (by decide +kernel) ?_
      apply RunP.condF rfl
      apply RunP.skip
      apply RunP.region
      refine ⟨k - 1, by omega, i + 1, _, _, _, _, _, _, _, _, _, _, _, _, _, _, _, _, _, _, _, _, _, _, _, _, _, _, _, _, _, _, _, _, _, _, _, _, _, _, _, _, _, _, _, _, _, _, _, _, _, _, _, _, by omega, ?_, rfl⟩
      subst hz; exact wrap_up i (by omega)
  · intro hge
    apply RunP.seq
    apply RunP.condF rfl
    apply RunP.exit
    apply RunP.seq
    apply RunP.region
    obtain ⟨v2, c2, hv2⟩ := few_has (k := 100) g hv (by omega)
    rw [List.take_of_length_le hlen] at hv2
    refine CallK.of c2 ?_
    refine CallK.of (text18_has _ hv2 (by omega)) ?_
    apply RunP.seq
    apply RunP.region
    refine CallK.of (lines_has _ hv (by omega)) ?_
    apply RunP.seq
    apply RunP.region
    refine And.intro (fun _ => ?_) (fun h => absurd rfl h)
    refine And.intro (fun _ => ?_) (fun h => absurd rfl h)
    refine CallK.of (awake_has _) ?_
    apply RunP.ret
    exact ⟨rfl, rfl, by rw [Bool.or_eq_true]; exact .inr rfl⟩
end Go.Proofs.YtnefminojpandaaDoor

