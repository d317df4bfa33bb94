/- The reference's Parse, and the law TraceReads, run by the evaluator. -/
import Derived.Test.YtnefminojpandaaDoorSbRefLine25
import Derived.Test.YtnefminojpandaaDoorSbTraceBack
set_option linter.unusedVariables false
set_option linter.unusedSimpArgs false
namespace Go.Proofs.YtnefminojpandaaDoor
open Go.Sb
set_option maxRecDepth 100000

theorem parse_step {e : Ev} {r : List UInt8} {n : Nat} (ho : okEv e = true) : parseR (n + 1) (lineB e ++ r) = (parseR n r).map (e :: ·) := by
  have hs : lineB e ++ r = bodyB e ++ 10 :: r := by simp [lineB]
  have hcut := cut_at (b := r) (body_ne10 ho)
  rw [hs]
  cases hd : bodyB e ++ 10 :: r with
  | nil => simp at hd
  | cons c w =>
    rw [hd] at hcut
    rw [parseR, hcut]
    simp only [if_true, evR_body ho]

theorem rowev_len {h : Heap} {o : V} {es : List V} (hr : InRow h 27 10 o es) (h' : Heap) : evLen env2 34 o h' = some (.int .i64 es.length) := by
  rcases hr with ⟨rfl, rfl⟩ | ⟨b, rfl, _, _⟩
  · rfl
  · rfl

/-- How the reference's Parse stands ahead of a round. -/
def rpI (u : List UInt8) (k : Nat) (s : List V) (h : Heap) : Prop :=
  ∃ (p : Nat) (z : Int) (o : V) (l : List Ev) (q : Nat), (p + k = u.length ∧ z = p ∧ 11 * l.length ≤ p ∧ u.length ≤ q + p ∧ parseR u.length u = (parseR q (u.drop p)).map (l ++ ·) ∧ InRow h 27 10 o (evs l)) ∧ s.length = 32 ∧ s.getD 0 und = und ∧ s.getD 1 und = .str u ∧ s.getD 3 und = .nils ∧ s.getD 4 und = .int .i64 0 ∧ s.getD 5 und = o ∧ s.getD 6 und = .int .i64 z
theorem rpI_lit {u : List UInt8} {k : Nat} {s : List V} {h : Heap} (hI : rpI u k s h) : ∃ (p : Nat) (z : Int) (o : V) (l : List Ev) (q : Nat) (x : Nat → V), (p + k = u.length ∧ z = p ∧ 11 * l.length ≤ p ∧ u.length ≤ q + p ∧ parseR u.length u = (parseR q (u.drop p)).map (l ++ ·) ∧ InRow h 27 10 o (evs l)) ∧
    s = [und, .str u, x 2, .nils, .int .i64 0, o, .int .i64 z, x 7, x 8, x 9, x 10, x 11, x 12, x 13, x 14, x 15, x 16, x 17, x 18, x 19, x 20, x 21, x 22, x 23, x 24, x 25, x 26, x 27, x 28, x 29, x 30, x 31] := by
  obtain ⟨p, z, o, l, q, hF, hl, e0, e1, e3, e4, e5, e6⟩ := hI
  refine ⟨p, z, o, l, q, fun n => s.getD n und, hF, (lit_of hl).trans ?_⟩
  show [s.getD 0 und, s.getD 1 und, s.getD 2 und, s.getD 3 und, s.getD 4 und, s.getD 5 und, s.getD 6 und, s.getD 7 und, s.getD 8 und, s.getD 9 und, s.getD 10 und, s.getD 11 und, s.getD 12 und, s.getD 13 und, s.getD 14 und, s.getD 15 und, s.getD 16 und, s.getD 17 und, s.getD 18 und, s.getD 19 und, s.getD 20 und, s.getD 21 und, s.getD 22 und, s.getD 23 und, s.getD 24 und, s.getD 25 und, s.getD 26 und, s.getD 27 und, s.getD 28 und, s.getD 29 und, s.getD 30 und, s.getD 31 und] = _
  rw [e0, e1, e3, e4, e5, e6]

set_option maxHeartbeats 4000000 in
theorem rparse_has (h0 : Heap) {s0 : List UInt8} (hl : s0.length ≤ 90000) : ∃ v, Has env2 .own 35 [.str s0] h0 (.val (.tup [v, .int .i64 (if (parseR s0.length s0).isSome = true then 0 else 4)]) h0) ∧ Fr 10 v (evs ((parseR s0.length s0).getD [])) := by
  have hR0 : parseR s0.length s0 = (parseR s0.length (s0.drop 0)).map (([] : List Ev) ++ ·) := by rw [List.drop_zero]; cases parseR s0.length s0 <;> simp
  suffices hs : ∃ w, Has env2 .own 35 [.str s0] h0 (.val w h0) ∧ ∃ v, w = .tup [v, .int .i64 (if (parseR s0.length s0).isSome = true then 0 else 4)] ∧ Fr 10 v (evs ((parseR s0.length s0).getD [])) by
    obtain ⟨w, k1, v, rfl, k2⟩ := hs
    exact ⟨v, k1, k2⟩
  refine HasP.ownE (a := [.str s0]) (d := fn35) rfl rfl rfl (of_decide_eq_true rfl) ?_
  apply RunP.seq
  apply RunP.region
  apply RunP.seq
  apply RunP.region
  apply RunP.seq
  apply RunP.seq
  apply RunP.region
  apply RunP.block
  refine RunP.loop (rpI s0) ?_ s0.length ⟨0, 0, .nils, [], s0.length, ⟨by omega, rfl, by simp, by omega, hR0, .inl ⟨rfl, rfl⟩⟩, rfl, rfl, rfl, rfl, rfl, rfl, rfl⟩
  intro k st g hI
  obtain ⟨p, z, o, l, q, x, ⟨hk, hz, hlp, hq, hrel, hrow⟩, rfl⟩ := rpI_lit hI
  clear hI hR0
  generalize hP : parseR s0.length s0 = P at hrel ⊢
  subst hz
  apply RunP.seq
  apply RunP.seq
  apply RunP.region
  apply And.intro
  · intro hlt
    apply RunP.condT rfl
    apply RunP.skip
    obtain ⟨q, rfl⟩ : ∃ q', q = q' + 1 := ⟨q - 1, by omega⟩
    obtain ⟨e, to, ok, c1, c2, c3⟩ := rline60_has g s0 (a := p) (by omega) (by omega)
    apply RunP.block
    apply RunP.seq
    apply RunP.region
    refine CallK.of c1 ?_
    refine bindK_of (store_last (E := env2) (t := 27) (n := 10) rfl rfl rfl rfl rfl) ?_
    apply RunP.seq
    apply RunP.seq
    apply RunP.region
    cases ok
    · apply RunP.condT rfl
      apply RunP.seq
      apply RunP.region
      apply RunP.ret
      have hnone : P = none := by
        cases hp : parseR (q + 1) (s0.drop p) with
        | none => rw [hrel, hp]; rfl
        | some l' =>
          exfalso
          obtain ⟨h1, h2⟩ := parse_sound _ _ _ hp
          cases l' with
          | nil =>
            have := congrArg List.length h1
            simp at this; omega
          | cons e' l'' =>
            simp only [List.all_cons, Bool.and_eq_true] at h2
            have := (c3 e' (l''.flatMap lineB) h2.1 (by rw [h1]; simp)).2.1
            cases this
      subst hnone
      exact ⟨rfl, _, rfl, rfl, .nils, rfl, .inl ⟨.inl rfl, rfl⟩⟩
    obtain ⟨ho, hd, hto1, hto2⟩ := c2 rfl
    apply RunP.condF rfl
    apply RunP.skip
    apply RunP.seq
    apply RunP.region
    refine bindK_of (load_last (E := env2) (t := 27) (n := 10) rfl) ?_
    obtain ⟨o', h', e1, e2, _⟩ := append_one (E := env2) (t := 34) (T := 27) (e := 10) rfl rfl rfl rfl (by omega) ((hrow.push (.cells 27 e.cells)).push (.cells 27 e.cells)) (evs_elem _) (ev_elem e) (contents_last (n := 10) _ _ _ rfl) (roomy_ev2 (by rw [evs_len]; omega))
    refine bindR_of (congrArg valH e1) ?_
    apply RunP.region
    have hmin := body_min e
    have hlen := congrArg List.length hd
    simp only [lineB, List.length_append, List.length_drop, List.length_cons, List.length_nil] at hlen
    refine ⟨s0.length - to, by omega, to, _, o', l ++ [e], q, ⟨by omega, rfl, by simp; omega, by omega, ?_, ?_⟩, rfl, rfl, rfl, rfl, rfl, rfl, rfl⟩
    · rw [hP, hrel, hd, parse_step ho]
      cases parseR q (s0.drop to) <;> simp
    · simpa [evs, show ty27.size = 10 from rfl] using e2
  · intro hge
    apply RunP.condF rfl
    apply RunP.exit
    have hsome : P = some l := by
      rw [hrel, List.drop_eq_nil_of_le (by omega)]
      cases q <;> simp [parseR]
    subst hsome
    apply RunP.seq
    apply RunP.seq
    apply RunP.region
    refine bindR_of (v := .int .i64 (evs l).length) (h := g) (congrArg (val · g) (rowev_len hrow g)) ?_
    apply And.intro
    · intro hgt; rw [evs_len] at hgt; omega
    intro _
    apply RunP.condF rfl
    apply RunP.skip
    apply RunP.seq
    apply RunP.region
    apply RunP.ret
    obtain ⟨r, r1, r2⟩ := hrow.fr (E := env2) (n := 9) rfl rfl rfl (by omega) (evs_elem _)
    exact ⟨rfl, _, fz_tup2 r1 rfl, rfl, r, rfl, r2⟩

set_option maxHeartbeats 4000000 in
theorem traceReads_has (s0 : List UInt8) : Has env2 .own 10 [.str s0] [] (.val (.bool true) []) := by
  refine HasP.own (a := [.str s0]) (d := fn10) rfl rfl rfl (of_decide_eq_true rfl) ?_
  apply RunP.seq
  apply RunP.region
  apply RunP.seq
  apply RunP.region
  apply And.intro
  · split <;> omega
  apply And.intro
  · split <;> omega
  generalize hs : List.drop 0 (List.take (if (6000 : Int) < (s0.length : Int) then (6000 : Int) else (s0.length : Int)).toNat s0) = s
  have hsl : s.length ≤ 6000 := by
    rw [← hs, List.drop_zero, List.length_take]
    split <;> omega
  obtain ⟨v1, p1, p2⟩ := parse_has [] (s0 := s) (by omega)
  obtain ⟨v2, q1, q2⟩ := rparse_has [] (s0 := s) (by omega)
  have hcount : ((parseR s.length s).getD []).length ≤ 6000 := by
    cases hp : parseR s.length s with
    | none => simp
    | some l =>
      obtain ⟨h1, h2⟩ := parse_sound _ _ _ hp
      have : l.length ≤ (l.flatMap lineB).length := by
        clear h1 h2 hp
        induction l with
        | nil => simp
        | cons e l ih => simp only [List.flatMap_cons, List.length_append, List.length_cons, lineB, List.length_nil]; omega
      rw [← h1] at this
      simp only [Option.getD_some]
      omega
  apply RunP.seq
  apply RunP.region
  refine CallK.of p1 ?_
  apply RunP.seq
  apply RunP.region
  refine CallK.of q1 ?_
  apply RunP.seq
  apply RunP.region
  refine CallK.of (equal_has [] (fz_leaf (n := 11) p2.leaf) (fz_leaf (n := 11) q2.leaf) p2 q2 hcount) ?_
  refine And.intro (fun _ => ?_) (fun hc => absurd rfl hc)
  refine CallK.of (awake_has _) ?_
  apply RunP.ret
  exact ⟨rfl, rfl, rfl⟩
end Go.Proofs.YtnefminojpandaaDoor

