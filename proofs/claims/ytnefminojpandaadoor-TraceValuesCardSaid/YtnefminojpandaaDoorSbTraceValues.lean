/- The law TraceValues, run by the evaluator. -/
import Derived.Test.YtnefminojpandaaDoorSbWrite25
set_option linter.unusedVariables false
set_option linter.unusedSimpArgs false
namespace Go.Proofs.YtnefminojpandaaDoor
open Go.Sb
set_option maxRecDepth 100000

theorem tvalue_has (h : Heap) (k n : Int) (s : List UInt8) (hn0 : -9223372036854775808 ≤ n) (hn1 : n ≤ 9223372036854775807) :
    Has env2 .own 12 [valV k n s] h (.val (.tup [.str (if okVal k n s = true then valText k n s else []), .int .i64 (if okVal k n s = true then 0 else 2)]) h) := by
  refine HasP.own (a := [valV k n s]) (d := fn12) rfl rfl rfl (of_decide_eq_true rfl) ?_
  have c36 := value_has [.cells 23 [.int .i64 k, .int .i64 n, .str s]] k n s
  apply RunP.seq
  apply RunP.region
  apply RunP.seq
  apply RunP.seq
  apply RunP.region
  refine CallK.of c36 ?_
  cases hv : okVal k n s
  · apply RunP.condT rfl
    apply RunP.seq
    apply RunP.region
    apply RunP.ret
    exact ⟨rfl, rfl, rfl⟩
  · apply RunP.condF rfl
    apply RunP.skip
    apply RunP.seq
    apply RunP.region
    apply RunP.seq
    apply RunP.region
    have hb : Bld [.cells 23 [.int .i64 k, .int .i64 n, .str s], .cells 60 [.nilp, .nils]] 1 [] := ⟨_, _, rfl, .inl rfl, .inl ⟨rfl, rfl⟩⟩
    obtain ⟨w, g, g1, g2, g3⟩ := wvalue_has k n s hv hn0 hn1 hb (by simp)
    refine CallK.of g1 ?_
    apply RunP.seq
    apply RunP.region
    have hl : (valText k n s).length ≤ 2 ^ 20 := by
      have h1 := Lib.itoa_length_le n hn0 hn1
      have h2 := quoteB_len s
      unfold valText
      split
      · omega
      split
      · split <;> simp
      split
      · rename_i c3
        have : okText s = true := by simp [okVal, c3] at hv; exact hv.2
        unfold okText at this
        simp at this
        simp; omega
      split
      · simp; omega
      split
      · simp; omega
      split
      · simp; omega
      · simp
    obtain ⟨w2, g', q1, q2, q3⟩ := string_has g2 (by simp; omega)
    refine CallK.of q1 ?_
    subst q2
    apply RunP.ret
    exact ⟨rfl, rfl, rfl⟩

set_option maxHeartbeats 4000000 in
theorem traceValues_has (e : Ev) (hn0 : -9223372036854775808 ≤ e.vn) (hn1 : e.vn ≤ 9223372036854775807) : Has env2 .own 3 [e.v] [] (.val (.bool true) []) := by
  refine HasP.own (a := [e.v]) (d := fn3) rfl rfl rfl (of_decide_eq_true rfl) ?_
  have r13 := fun h => rvalid_has h ⟨0, 0, 1, 0, 0, e.vk, e.vn, e.vs, 0, []⟩
  have he : okEv ⟨0, 0, 1, 0, 0, e.vk, e.vn, e.vs, 0, []⟩ = okVal e.vk e.vn e.vs := by simp [okEv, okFault]
  rw [he] at r13
  have c12 := fun h => tvalue_has h e.vk e.vn e.vs hn0 hn1
  apply RunP.seq
  apply RunP.region
  apply RunP.seq
  apply RunP.region
  refine CallK.of (c12 _) ?_
  apply RunP.seq
  apply RunP.region
  apply RunP.seq
  apply RunP.seq
  apply RunP.region
  refine CallK.of (r13 _) ?_
  cases hv : okVal e.vk e.vn e.vs
  · apply RunP.condT rfl
    apply RunP.seq
    apply RunP.region
    refine And.intro (fun _ => ?_) (fun h => absurd rfl h)
    refine And.intro (fun _ => ?_) (fun h => absurd rfl h)
    refine CallK.of (Has.told (E := env2) (f := 14) (args := []) (a := []) (p := tellAwake) rfl rfl rfl rfl) ?_
    apply RunP.ret
    exact ⟨rfl, rfl, rfl⟩
  · apply RunP.condF rfl
    apply RunP.skip
    apply RunP.seq
    apply RunP.region
    refine CallK.of (rval_has _ e.vk e.vn e.vs hv hn0 hn1) ?_
    refine And.intro (fun _ => ?_) (fun h => absurd rfl h)
    refine And.intro (fun _ => ?_) (fun h => absurd rfl h)
    refine CallK.of (Has.told (E := env2) (f := 14) (args := []) (a := []) (p := tellAwake) rfl rfl rfl rfl) ?_
    apply RunP.ret
    exact ⟨rfl, rfl, rfl⟩
end Go.Proofs.YtnefminojpandaaDoor
