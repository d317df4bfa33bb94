/- The law TraceOf, run by the evaluator. -/
import Derived.Test.YtnefminojpandaaDoorSbEvents25
set_option linter.unusedVariables false
set_option linter.unusedSimpArgs false
namespace Go.Proofs.YtnefminojpandaaDoor
open Go.Sb
set_option maxRecDepth 100000

theorem awake_has (h : Heap) : Has env2 .own 14 [] h (.val (.bool true) h) := Has.told (a := []) (p := tellAwake) rfl rfl rfl rfl

/-- How the law stands ahead of a round. -/
def lawI (l : List Ev) (v0 v : V) (t : Int) (k : Nat) (s : List V) (h : Heap) : Prop :=
  ∃ (i : Nat) (z : Int) (o x7 x13 x14 x15 x16 x17 x18 x19 x20 x21 x22 x23 x24 : V), i + k = l.length ∧ z = i ∧ InRow h 27 10 o (evs ((l.take i).filter (isTask t))) ∧
    s = [und, v, .int .i64 t, und, und, .bool false, o, und, x7, v0, v, v, .int .i64 l.length, .int .i64 z, x13, x14, x15, x16, x17, x18, x19, x20, x21, x22, x23, x24, und, und, und, und, und, und, und, und, und]

theorem traceOf_has {v0 : V} {l0 : List Ev} (t : Int) (hv0 : Fr 10 v0 (evs l0)) : Has env2 .own 5 [v0, .int .i64 t] [] (.val (.bool true) []) := by
  refine Has.own (a := [v0, .int .i64 t]) (d := fn5) (leaf_args (by simp [hv0.leaf]; rfl)) rfl rfl ?_
  obtain ⟨v, f1, hv⟩ := few_has (k := 100) [] hv0 (by omega)
  generalize hlg : l0.take 100 = l at hv
  have hl : l.length ≤ 100 := by rw [← hlg, List.length_take]; omega
  apply And.intro
  · exact of_decide_eq_true rfl
  refine CallK.of f1 ?_
  refine bindR_of (congrArg (val · []) (fr_len hv [])) ?_
  refine LoopK.of (lawI l v0 v t) ?_ l.length _ _ ⟨0, _, .nils, _, _, _, _, _, _, _, _, _, _, _, _, _, by omega, rfl, .inl ⟨rfl, rfl⟩, rfl⟩
  rintro k s g ⟨i, z, o, x7, x13, x14, x15, x16, x17, x18, x19, x20, x21, x22, x23, x24, hik, hz, hrow, rfl⟩
  apply And.intro
  · intro hlt
    have hi : i < l.length := by omega
    have := fr_lst hv hi; subst this
    apply And.intro
    · omega
    apply And.intro
    · rfl
    refine Exists.intro (l[i]).v (And.intro (by subst hz; simp [evs, hi]) ?_)
    refine bindK_of (store_last (E := env2) (t := 27) (n := 10) rfl rfl rfl rfl rfl) ?_
    refine bindK_of (load_last (E := env2) (t := 3) rfl) ?_
    apply And.intro
    · intro ht
      refine bindK_of (load_last (E := env2) (t := 27) (n := 10) rfl) ?_
      have hcnt : (evs ((l.take i).filter (isTask t))).length ≤ i := by
        rw [evs_len]; exact Nat.le_trans (List.length_filter_le _ _) (by rw [List.length_take]; omega)
      have hro : roomy 96 ((evs ((l.take i).filter (isTask t))).length + 1) = true := roomy_ev (by omega)
      obtain ⟨o', h', e1, e2, _⟩ := append_one (E := env2) (t := 34) (T := 27) (e := 10) rfl rfl rfl rfl (by omega) ((hrow.push (.cells 27 l[i].cells)).push (.cells 27 l[i].cells)) (evs_elem _) (ev_elem l[i]) (contents_last (n := 10) _ _ _ rfl) hro
      refine bindR_of (congrArg valH e1) ?_
      refine ⟨k - 1, by omega, i + 1, _, o', _, _, _, _, _, _, _, _, _, _, _, _, _, by omega, ?_, ?_, rfl⟩
      · subst hz; exact wrap_up i (by omega)
      · rw [List.take_add_one, List.getElem?_eq_getElem hi, List.filter_append]
        have : (Option.toList (some l[i])).filter (isTask t) = [l[i]] := by
          simp [isTask, ht]
        rw [this]
        simpa [evs, show ty27.size = 10 from rfl] using e2
    · intro ht
      refine ⟨k - 1, by omega, i + 1, _, o, _, _, _, _, _, _, _, _, _, _, _, _, _, by omega, ?_, ?_, rfl⟩
      · subst hz; exact wrap_up i (by omega)
      · rw [List.take_add_one, List.getElem?_eq_getElem hi, List.filter_append]
        have : (Option.toList (some l[i])).filter (isTask t) = [] := by
          simp [isTask, ht]
        rw [this]
        simpa using hrow.push _
  · intro hge
    have hi : i = l.length := by omega
    rw [hi, List.take_length] at hrow
    obtain ⟨r, r1, r2⟩ := hrow.fr (E := env2) (n := 10) rfl rfl rfl (by omega) (evs_elem _)
    obtain ⟨c, c1, c2⟩ := clone_has g hv (by omega)
    obtain ⟨q, q1, q2⟩ := of_has g t c2 (by omega)
    refine CallK.of c1 ?_
    refine CallK.of q1 ?_
    refine CallK.of (equal_has g (fz_leaf (n := 11) q2.leaf) r1 q2 r2 (Nat.le_trans (List.length_filter_le _ _) (by omega))) ?_
    refine CallK.of (awake_has g) ?_
    exact ⟨rfl, rfl, by rw [Bool.or_eq_true]; exact .inr rfl⟩
end Go.Proofs.YtnefminojpandaaDoor
