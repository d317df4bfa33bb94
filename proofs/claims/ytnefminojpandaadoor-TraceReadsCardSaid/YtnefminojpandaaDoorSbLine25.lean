/- What Check and fault answer. -/
import Derived.Test.YtnefminojpandaaDoorSbWrite25
set_option linter.unusedVariables false
set_option linter.unusedSimpArgs false
namespace Go.Proofs.YtnefminojpandaaDoor
open Go.Sb
set_option maxRecDepth 100000

theorem in_has (h : Heap) (x a b : Int) : Has env2 .own 42 [.int .i64 x, .int .i64 a, .int .i64 b] h (.val (.bool (decide (a ≤ x) && decide (x ≤ b))) h) := by
  refine HasP.own (a := [.int .i64 x, .int .i64 a, .int .i64 b]) (d := fn42) rfl rfl rfl (of_decide_eq_true rfl) ?_
  have fin : ∀ {t : Bool}, t = (decide (a ≤ x) && decide (x ≤ b)) → some (V.bool t) = some (V.bool (decide (a ≤ x) && decide (x ≤ b))) := fun h => by rw [h]
  apply RunP.seq
  apply RunP.region
  apply RunP.seq
  apply RunP.region
  apply And.intro
  · intro c1
    apply And.intro
    · intro c2
      apply RunP.ret
      exact And.intro rfl (And.intro (fin (by simp [c1, c2])) rfl)
    · intro c2
      apply RunP.ret
      exact And.intro rfl (And.intro (fin (by simp; omega)) rfl)
  · intro c1
    apply RunP.ret
    exact And.intro rfl (And.intro (fin (by simp; omega)) rfl)

set_option maxHeartbeats 8000000 in
theorem check_has (h : Heap) (e : Ev) : Has env2 .own 17 [e.v] h (.val (.int .i64 (if okEv e = true then 0 else 2)) h) := by
  refine HasP.own (a := [e.v]) (d := fn17) rfl rfl rfl (of_decide_eq_true rfl) ?_
  have fin : ∀ {t : Int}, t = (if okEv e = true then 0 else 2) → some (V.int .i64 t) = some (V.int .i64 (if okEv e = true then 0 else 2)) := fun h => by rw [h]
  apply RunP.seq
  apply RunP.region
  apply RunP.seq
  apply RunP.region
  apply RunP.seq
  apply RunP.seq
  apply RunP.region
  have inn := fun h x a b => in_has h x a b
  repeat' first
    | refine CallK.of (in_has _ _ _ _) ?_
    | (apply brK.mk <;> intro _)
    | (apply RunP.condT rfl; apply RunP.seq; apply RunP.region; apply RunP.ret; refine And.intro rfl (And.intro (fin ?_) rfl))
    | (apply RunP.cond rfl <;> intro _)
    | (apply RunP.seq; apply RunP.region; apply RunP.ret; refine And.intro rfl (And.intro (fin ?_) rfl))
    | (apply RunP.skip; apply RunP.seq; apply RunP.seq; apply RunP.region; refine CallK.of (value_has _ e.vk e.vn e.vs) ?_)
    | (apply RunP.skip; apply RunP.seq; apply RunP.region; apply RunP.ret; refine And.intro rfl (And.intro (fin ?_) rfl))
    | refine CallK.of (fault_has _ e.fk e.ft) ?_
  all_goals clear fin inn
  all_goals first | (simp_all [okEv]; done) | (simp_all [okEv]; omega) | (simp_all [okEv]; intros; omega)

def faultText (k : Int) (s : List UInt8) : List UInt8 := if k = 0 then [45] else if k = 2 then [99, 97, 110, 99, 101, 108] else [116, 104, 114, 111, 119, 32] ++ valText 3 0 s

theorem wfault_has {h : Heap} {b : Nat} {bs : List UInt8} (k : Int) (s : List UInt8) (ho : okFault k s = true) (hb : Bld h b bs) (hr : bs.length ≤ 2 ^ 38) :
    ∃ w g, Has env2 .shared 68 [.ptr b 0 2, faultV k s] h (.val w g) ∧ (Bld g b (bs ++ faultText k s) ∧ Keep h g) := by
  refine HasP.sharedE (d := fn68) rfl (of_decide_eq_true rfl) ?_
  have hb1 := hb.push (.cells 25 [.int .i64 k, .str s])
  have hk1 := Keep.push h (.cells 25 [.int .i64 k, .str s])
  have hp : (Sb.push h (.cells 25 [.int .i64 k, .str s]))[h.length]? = some (.cells 25 [.int .i64 k, .str s]) := by simp [Sb.push]
  apply RunP.seq
  apply RunP.region
  apply RunP.seq
  apply RunP.region
  refine bindK_of (load_last (E := env2) (t := 3) (n := 2) rfl) ?_
  apply RunP.block
  apply RunP.seq
  apply RunP.region
  apply And.intro
  · intro c0
    apply RunP.condT rfl
    apply RunP.region
    obtain ⟨w, g, g1, g2, g3⟩ := wb_has (45 : UInt8) hb1 (by omega)
    refine CallK.of g1 ?_
    exact ⟨rfl, by rw [faultText, if_pos c0]; exact g2, hk1.trans g3⟩
  intro c0
  apply RunP.condF rfl
  apply RunP.seq
  apply RunP.region
  apply And.intro
  · intro c2
    apply RunP.condT rfl
    apply RunP.region
    obtain ⟨w, g, g1, g2, g3⟩ := ws_has (s := [99, 97, 110, 99, 101, 108]) hb1 (by simp; omega)
    refine CallK.of g1 ?_
    exact ⟨rfl, by rw [faultText, if_neg c0, if_pos c2]; exact g2, hk1.trans g3⟩
  intro c2
  apply RunP.condF rfl
  apply RunP.seq
  apply RunP.region
  obtain ⟨w, g, g1, g2, g3⟩ := ws_has (s := [116, 104, 114, 111, 119, 32]) hb1 (by simp; omega)
  refine CallK.of g1 ?_
  have hpg := g3.2 _ _ _ hp (by decide) (by decide)
  apply RunP.region
  refine bindK_of (load_at (E := env2) (t := 9) hpg rfl) ?_
  have hv : okVal 3 0 s = true := by
    have : k = 1 := by
      by_cases h1 : k = 1
      · exact h1
      · simp [okFault, c0, c2, h1] at ho
    subst this
    simp [okFault] at ho
    simp [okVal, ho]
  obtain ⟨w2, g', q1, q2, q3⟩ := wvalue_has 3 0 s hv (by decide) (by decide) g2 (by simp; omega)
  refine CallK.of q1 ?_
  refine ⟨rfl, ?_, (hk1.trans g3).trans q3⟩
  rw [faultText, if_neg c0, if_neg c2]
  simpa [List.append_assoc] using q2
end Go.Proofs.YtnefminojpandaaDoor
