/- Operators: those of two numbers. -/
import Derived.Test.YtkjhnpmgieplgaaGreatDoorSbOp2
set_option linter.unusedVariables false
set_option linter.unusedSimpArgs false
namespace Go.Proofs.YtkjhnpmgieplgaaGreatDoor
open Go.Sb
set_option maxRecDepth 100000

def maxL (a b : Int) : Int := if b > a then b else a
def productL (a b : Int) : Res := if 0 < maxL b (IntKind.i64.wrap (0 - b)) ∧ IntKind.i64.wrap (Int.tdiv 1000000000000 (maxL b (IntKind.i64.wrap (0 - b)))) < maxL a (IntKind.i64.wrap (0 - a)) then throwL bigT else numberL (IntKind.i64.wrap (a * b))
def quoL (a b : Int) : Res := if b = 0 then throwL zeroT else numberL (IntKind.i64.wrap (a.tdiv b))
def remL (a b : Int) : Res := if b = 0 then throwL zeroT else numberL (a.tmod b)

theorem quo_has (h : Heap) (a b : Int) (hb : b ≠ 0) : Has envQ .own 134 [.int .i64 a, .int .i64 b] h (.val (.int .i64 (IntKind.i64.wrap (a.tdiv b))) h) := by
  refine HasP.own (a := [.int .i64 a, .int .i64 b]) (d := fn134) rfl rfl rfl (of_decide_eq_true rfl) ?_
  repeat (first | apply RunP.seq | apply RunP.region | apply RunP.condT rfl | apply RunP.condF rfl | apply RunP.skip | apply RunP.block | apply RunP.exit | apply RunP.ret)
  refine And.intro rfl (And.intro hb ?_)
  repeat (first | apply RunP.seq | apply RunP.region | apply RunP.condT rfl | apply RunP.condF rfl | apply RunP.skip | apply RunP.block | apply RunP.exit | apply RunP.ret)
  exact ⟨rfl, rfl, rfl⟩

theorem rem_has (h : Heap) (a b : Int) (hb : b ≠ 0) : Has envQ .own 136 [.int .i64 a, .int .i64 b] h (.val (.int .i64 (a.tmod b)) h) := by
  refine HasP.own (a := [.int .i64 a, .int .i64 b]) (d := fn136) rfl rfl rfl (of_decide_eq_true rfl) ?_
  repeat (first | apply RunP.seq | apply RunP.region | apply RunP.condT rfl | apply RunP.condF rfl | apply RunP.skip | apply RunP.block | apply RunP.exit | apply RunP.ret)
  refine And.intro rfl (And.intro hb ?_)
  repeat (first | apply RunP.seq | apply RunP.region | apply RunP.condT rfl | apply RunP.condF rfl | apply RunP.skip | apply RunP.block | apply RunP.exit | apply RunP.ret)
  exact ⟨rfl, rfl, rfl⟩

theorem divQ_has (h : Heap) (a b : Int) : Has envQ .own 133 [.int .i64 a, .int .i64 b, .fn (.func 134) []] h (.val (rV (quoL a b)) h) := by
  refine HasP.own (a := [.int .i64 a, .int .i64 b, .fn (.func 134) []]) (d := fn133) rfl rfl rfl (of_decide_eq_true rfl) ?_
  unfold quoL
  repeat (first | apply RunP.seq | apply RunP.region | apply RunP.condT rfl | apply RunP.condF rfl | apply RunP.skip | apply RunP.block | apply RunP.exit | apply RunP.ret)
  refine And.intro (fun h0 => ?_) (fun h0 => ?_)
  · rw [if_pos h0]
    repeat (first | apply RunP.seq | apply RunP.region | apply RunP.condT rfl | apply RunP.condF rfl | apply RunP.skip | apply RunP.block | apply RunP.exit | apply RunP.ret)
    refine CallK.of (fault_has _ _) ?_
    repeat (first | apply RunP.seq | apply RunP.region | apply RunP.condT rfl | apply RunP.condF rfl | apply RunP.skip | apply RunP.block | apply RunP.exit | apply RunP.ret)
    exact ⟨rfl, rfl, rfl⟩
  · rw [if_neg h0]
    repeat (first | apply RunP.seq | apply RunP.region | apply RunP.condT rfl | apply RunP.condF rfl | apply RunP.skip | apply RunP.block | apply RunP.exit | apply RunP.ret)
    refine CallK.of (quo_has _ a b h0) ?_
    refine CallK.of (number_has _ _) ?_
    repeat (first | apply RunP.seq | apply RunP.region | apply RunP.condT rfl | apply RunP.condF rfl | apply RunP.skip | apply RunP.block | apply RunP.exit | apply RunP.ret)
    exact ⟨rfl, rfl, rfl⟩

theorem divR_has (h : Heap) (a b : Int) : Has envQ .own 133 [.int .i64 a, .int .i64 b, .fn (.func 136) []] h (.val (rV (remL a b)) h) := by
  refine HasP.own (a := [.int .i64 a, .int .i64 b, .fn (.func 136) []]) (d := fn133) rfl rfl rfl (of_decide_eq_true rfl) ?_
  unfold remL
  repeat (first | apply RunP.seq | apply RunP.region | apply RunP.condT rfl | apply RunP.condF rfl | apply RunP.skip | apply RunP.block | apply RunP.exit | apply RunP.ret)
  refine And.intro (fun h0 => ?_) (fun h0 => ?_)
  · rw [if_pos h0]
    repeat (first | apply RunP.seq | apply RunP.region | apply RunP.condT rfl | apply RunP.condF rfl | apply RunP.skip | apply RunP.block | apply RunP.exit | apply RunP.ret)
    refine CallK.of (fault_has _ _) ?_
    repeat (first | apply RunP.seq | apply RunP.region | apply RunP.condT rfl | apply RunP.condF rfl | apply RunP.skip | apply RunP.block | apply RunP.exit | apply RunP.ret)
    exact ⟨rfl, rfl, rfl⟩
  · rw [if_neg h0]
    repeat (first | apply RunP.seq | apply RunP.region | apply RunP.condT rfl | apply RunP.condF rfl | apply RunP.skip | apply RunP.block | apply RunP.exit | apply RunP.ret)
    refine CallK.of (rem_has _ a b h0) ?_
    refine CallK.of (number_has _ _) ?_
    repeat (first | apply RunP.seq | apply RunP.region | apply RunP.condT rfl | apply RunP.condF rfl | apply RunP.skip | apply RunP.block | apply RunP.exit | apply RunP.ret)
    exact ⟨rfl, rfl, rfl⟩

theorem opAdd_has (h : Heap) (a b : Int) : Has envQ .own 129 [.int .i64 a, .int .i64 b] h (.val (rV (numberL (IntKind.i64.wrap (a + b)))) h) := by
  refine HasP.own (a := [.int .i64 a, .int .i64 b]) (d := fn129) rfl rfl rfl (of_decide_eq_true rfl) ?_
  repeat (first | apply RunP.seq | apply RunP.region | apply RunP.condT rfl | apply RunP.condF rfl | apply RunP.skip | apply RunP.block | apply RunP.exit | apply RunP.ret)
  refine CallK.of (number_has _ _) ?_
  repeat (first | apply RunP.seq | apply RunP.region | apply RunP.condT rfl | apply RunP.condF rfl | apply RunP.skip | apply RunP.block | apply RunP.exit | apply RunP.ret)
  exact ⟨rfl, rfl, rfl⟩

theorem opSub_has (h : Heap) (a b : Int) : Has envQ .own 130 [.int .i64 a, .int .i64 b] h (.val (rV (numberL (IntKind.i64.wrap (a - b)))) h) := by
  refine HasP.own (a := [.int .i64 a, .int .i64 b]) (d := fn130) rfl rfl rfl (of_decide_eq_true rfl) ?_
  repeat (first | apply RunP.seq | apply RunP.region | apply RunP.condT rfl | apply RunP.condF rfl | apply RunP.skip | apply RunP.block | apply RunP.exit | apply RunP.ret)
  refine CallK.of (number_has _ _) ?_
  repeat (first | apply RunP.seq | apply RunP.region | apply RunP.condT rfl | apply RunP.condF rfl | apply RunP.skip | apply RunP.block | apply RunP.exit | apply RunP.ret)
  exact ⟨rfl, rfl, rfl⟩

theorem opQuo_has (h : Heap) (a b : Int) : Has envQ .own 132 [.int .i64 a, .int .i64 b] h (.val (rV (quoL a b)) h) := by
  refine HasP.own (a := [.int .i64 a, .int .i64 b]) (d := fn132) rfl rfl rfl (of_decide_eq_true rfl) ?_
  repeat (first | apply RunP.seq | apply RunP.region | apply RunP.condT rfl | apply RunP.condF rfl | apply RunP.skip | apply RunP.block | apply RunP.exit | apply RunP.ret)
  refine CallK.of (divQ_has _ a b) ?_
  repeat (first | apply RunP.seq | apply RunP.region | apply RunP.condT rfl | apply RunP.condF rfl | apply RunP.skip | apply RunP.block | apply RunP.exit | apply RunP.ret)
  exact ⟨rfl, rfl, rfl⟩

theorem opRem_has (h : Heap) (a b : Int) : Has envQ .own 135 [.int .i64 a, .int .i64 b] h (.val (rV (remL a b)) h) := by
  refine HasP.own (a := [.int .i64 a, .int .i64 b]) (d := fn135) rfl rfl rfl (of_decide_eq_true rfl) ?_
  repeat (first | apply RunP.seq | apply RunP.region | apply RunP.condT rfl | apply RunP.condF rfl | apply RunP.skip | apply RunP.block | apply RunP.exit | apply RunP.ret)
  refine CallK.of (divR_has _ a b) ?_
  repeat (first | apply RunP.seq | apply RunP.region | apply RunP.condT rfl | apply RunP.condF rfl | apply RunP.skip | apply RunP.block | apply RunP.exit | apply RunP.ret)
  exact ⟨rfl, rfl, rfl⟩

set_option maxHeartbeats 2000000 in
theorem opMul_has (h : Heap) (a b : Int) : Has envQ .own 131 [.int .i64 a, .int .i64 b] h (.val (rV (productL a b)) h) := by
  suffices hx : ∃ v, Has envQ .own 131 [.int .i64 a, .int .i64 b] h (.val v h) ∧ v = rV (productL a b) by
    obtain ⟨v, h1, rfl⟩ := hx; exact h1
  refine HasP.ownE (a := [.int .i64 a, .int .i64 b]) (d := fn131) rfl rfl rfl (of_decide_eq_true rfl) ?_
  repeat (first | apply RunP.seq | apply RunP.region | apply RunP.condT rfl | apply RunP.condF rfl | apply RunP.skip | apply RunP.block | apply RunP.exit | apply RunP.ret)
  refine And.intro (fun h0 => ?_) (fun h0 => ?_)
  · refine And.intro rfl (And.intro (by omega) ?_)
    refine And.intro (fun h1 => ?_) (fun h1 => ?_)
    · repeat (first | apply RunP.seq | apply RunP.region | apply RunP.condT rfl | apply RunP.condF rfl | apply RunP.skip | apply RunP.block | apply RunP.exit | apply RunP.ret)
      refine CallK.of (fault_has _ _) ?_
      repeat (first | apply RunP.seq | apply RunP.region | apply RunP.condT rfl | apply RunP.condF rfl | apply RunP.skip | apply RunP.block | apply RunP.exit | apply RunP.ret)
      exact ⟨rfl, _, rfl, rfl, by unfold productL maxL; rw [if_pos ⟨h0, h1⟩]; rfl⟩
    · repeat (first | apply RunP.seq | apply RunP.region | apply RunP.condT rfl | apply RunP.condF rfl | apply RunP.skip | apply RunP.block | apply RunP.exit | apply RunP.ret)
      refine CallK.of (number_has _ _) ?_
      repeat (first | apply RunP.seq | apply RunP.region | apply RunP.condT rfl | apply RunP.condF rfl | apply RunP.skip | apply RunP.block | apply RunP.exit | apply RunP.ret)
      exact ⟨rfl, _, rfl, rfl, by unfold productL maxL; rw [if_neg (fun q => absurd q.2 (Int.not_lt.2 h1))]; rfl⟩
  · repeat (first | apply RunP.seq | apply RunP.region | apply RunP.condT rfl | apply RunP.condF rfl | apply RunP.skip | apply RunP.block | apply RunP.exit | apply RunP.ret)
    refine CallK.of (number_has _ _) ?_
    repeat (first | apply RunP.seq | apply RunP.region | apply RunP.condT rfl | apply RunP.condF rfl | apply RunP.skip | apply RunP.block | apply RunP.exit | apply RunP.ret)
    exact ⟨rfl, _, rfl, rfl, by unfold productL maxL; rw [if_neg (fun q => absurd q.1 (Int.not_lt.2 h0))]; rfl⟩
/-- The operators of two numbers. -/
def ops5 : List (V × V) := [(.int .i64 15, .fn (.func 129) []), (.int .i64 16, .fn (.func 130) []), (.int .i64 17, .fn (.func 131) []), (.int .i64 18, .fn (.func 132) []), (.int .i64 19, .fn (.func 135) [])]
theorem numbers_has (h : Heap) : ∃ v g, Has envQ .shared 89 [] h (.val v g) ∧ v = .mp h.length ∧ g = Sb.push h (.map ops5) := by
  refine HasP.sharedE (d := fn89) rfl (of_decide_eq_true rfl) ?_
  apply RunP.seq
  apply RunP.region
  apply RunP.seq
  refine RunP.regionR _ (fun K => rfl) ?_
  refine runOps_mk (E := envQ) rfl rfl ?_
  refine runOps_ins (map_last (E := envQ) rfl rfl rfl rfl rfl) ?_
  refine runOps_ins (map_last (E := envQ) rfl rfl rfl rfl rfl) ?_
  refine runOps_ins (map_last (E := envQ) rfl rfl rfl rfl rfl) ?_
  refine runOps_ins (map_last (E := envQ) rfl rfl rfl rfl rfl) ?_
  refine runOps_ins (map_last (E := envQ) rfl rfl rfl rfl rfl) ?_
  repeat (first | apply RunP.seq | apply RunP.region | apply RunP.condT rfl | apply RunP.condF rfl | apply RunP.skip | apply RunP.block | apply RunP.exit | apply RunP.ret)
  exact ⟨rfl, rfl, rfl⟩
/-- What an operator makes of two numbers. -/
def arithL (op a b : Int) : Res := if op = 15 then numberL (IntKind.i64.wrap (a + b)) else if op = 16 then numberL (IntKind.i64.wrap (a - b)) else if op = 17 then productL a b else if op = 18 then quoL a b else remL a b
end Go.Proofs.YtkjhnpmgieplgaaGreatDoor
