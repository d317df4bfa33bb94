/- Operators: numbers, truth values, faults. -/
import Derived.Test.YtkjhnpmgieplgaaGreatDoorSbShow
import Derived.Test.YtkjhnpmgieplgaaGreatDoorSbEvalValid
set_option linter.unusedVariables false
set_option linter.unusedSimpArgs false
namespace Go.Proofs.YtkjhnpmgieplgaaGreatDoor
open Go.Sb
set_option maxRecDepth 100000

/-- A value and a fault. -/
abbrev Res := (Int × Int × List UInt8) × (Int × List UInt8)
def vV (r : Int × Int × List UInt8) : V := .agg [.int .i64 r.1, .int .i64 r.2.1, .str r.2.2]
def fV (r : Int × List UInt8) : V := .agg [.int .i64 r.1, .str r.2]
def rV (r : Res) : V := .tup [vV r.1, fV r.2]
def zV : Int × Int × List UInt8 := (0, 0, [])
def noF : Int × List UInt8 := (0, [])
def throwL (t : List UInt8) : Res := (zV, (1, t))
def bigT : List UInt8 := [98, 105, 103]
def kindT : List UInt8 := [107, 105, 110, 100]
def zeroT : List UInt8 := [122, 101, 114, 111]
def longT : List UInt8 := [108, 111, 110, 103]
def numberL (n : Int) : Res := if 1000000000000 < n ∨ n < -1000000000000 then throwL bigT else ((1, n, []), noF)
def truthL (b : Bool) : Res := ((2, (if b = true then 1 else 0), []), noF)

theorem fault_has (h : Heap) (s : List UInt8) : Has envQ .own 88 [.str s] h (.val (fV (1, s)) h) := by
  refine HasP.own (a := [.str s]) (d := fn88) rfl rfl rfl (of_decide_eq_true rfl) ?_
  repeat (first | apply RunP.seq | apply RunP.region | apply RunP.condT rfl | apply RunP.condF rfl | apply RunP.skip | apply RunP.block | apply RunP.exit | apply RunP.ret)
  exact ⟨rfl, rfl, rfl⟩

theorem throw_has (h : Heap) (s : List UInt8) : Has envQ .own 23 [.str s] h (.val (fV (1, s)) h) := by
  refine HasP.own (a := [.str s]) (d := fn23) rfl rfl rfl (of_decide_eq_true rfl) ?_
  repeat (first | apply RunP.seq | apply RunP.region | apply RunP.condT rfl | apply RunP.condF rfl | apply RunP.skip | apply RunP.block | apply RunP.exit | apply RunP.ret)
  exact ⟨rfl, rfl, rfl⟩

theorem wrong_has (h : Heap) : Has envQ .own 84 [] h (.val (rV (throwL kindT)) h) := by
  refine HasP.own (a := []) (d := fn84) rfl rfl rfl (of_decide_eq_true rfl) ?_
  repeat (first | apply RunP.seq | apply RunP.region | apply RunP.condT rfl | apply RunP.condF rfl | apply RunP.skip | apply RunP.block | apply RunP.exit | apply RunP.ret)
  refine CallK.of (fault_has _ _) ?_
  repeat (first | apply RunP.seq | apply RunP.region | apply RunP.condT rfl | apply RunP.condF rfl | apply RunP.skip | apply RunP.block | apply RunP.exit | apply RunP.ret)
  exact ⟨rfl, rfl, rfl⟩
theorem truth_has (h : Heap) (b : Bool) : Has envQ .own 85 [.bool b] h (.val (rV (truthL b)) h) := by
  refine HasP.own (a := [.bool b]) (d := fn85) rfl rfl rfl (of_decide_eq_true rfl) ?_
  cases b
  · repeat (first | apply RunP.seq | apply RunP.region | apply RunP.condT rfl | apply RunP.condF rfl | apply RunP.skip | apply RunP.block | apply RunP.exit | apply RunP.ret)
    exact ⟨rfl, rfl, rfl⟩
  · repeat (first | apply RunP.seq | apply RunP.region | apply RunP.condT rfl | apply RunP.condF rfl | apply RunP.skip | apply RunP.block | apply RunP.exit | apply RunP.ret)
    exact ⟨rfl, rfl, rfl⟩
theorem refTruth_has (h : Heap) (b : Bool) : Has envQ .own 52 [.bool b] h (.val (vV (truthL b).1) h) := by
  refine HasP.own (a := [.bool b]) (d := fn52) rfl rfl rfl (of_decide_eq_true rfl) ?_
  cases b
  · repeat (first | apply RunP.seq | apply RunP.region | apply RunP.condT rfl | apply RunP.condF rfl | apply RunP.skip | apply RunP.block | apply RunP.exit | apply RunP.ret)
    exact ⟨rfl, rfl, rfl⟩
  · repeat (first | apply RunP.seq | apply RunP.region | apply RunP.condT rfl | apply RunP.condF rfl | apply RunP.skip | apply RunP.block | apply RunP.exit | apply RunP.ret)
    exact ⟨rfl, rfl, rfl⟩

theorem number_has (h : Heap) (n : Int) : Has envQ .own 90 [.int .i64 n] h (.val (rV (numberL n)) h) := by
  suffices hx : ∃ v, Has envQ .own 90 [.int .i64 n] h (.val v h) ∧ v = rV (numberL n) by
    obtain ⟨v, h1, rfl⟩ := hx; exact h1
  refine HasP.ownE (a := [.int .i64 n]) (d := fn90) rfl rfl rfl (of_decide_eq_true rfl) ?_
  repeat (first | apply RunP.seq | apply RunP.region | apply RunP.condT rfl | apply RunP.condF rfl | apply RunP.skip | apply RunP.block | apply RunP.exit | apply RunP.ret)
  refine And.intro (fun h1 => ?_) (fun h1 => ?_)
  · repeat (first | apply RunP.seq | apply RunP.region | apply RunP.condT rfl | apply RunP.condF rfl | apply RunP.skip | apply RunP.block | apply RunP.exit | apply RunP.ret)
    refine CallK.of (fault_has _ _) ?_
    repeat (first | apply RunP.seq | apply RunP.region | apply RunP.condT rfl | apply RunP.condF rfl | apply RunP.skip | apply RunP.block | apply RunP.exit | apply RunP.ret)
    exact ⟨rfl, _, rfl, rfl, by unfold numberL; rw [if_pos (.inl h1)]; rfl⟩
  · refine And.intro (fun h2 => ?_) (fun h2 => ?_)
    · repeat (first | apply RunP.seq | apply RunP.region | apply RunP.condT rfl | apply RunP.condF rfl | apply RunP.skip | apply RunP.block | apply RunP.exit | apply RunP.ret)
      refine CallK.of (fault_has _ _) ?_
      repeat (first | apply RunP.seq | apply RunP.region | apply RunP.condT rfl | apply RunP.condF rfl | apply RunP.skip | apply RunP.block | apply RunP.exit | apply RunP.ret)
      exact ⟨rfl, _, rfl, rfl, by unfold numberL; rw [if_pos (.inr h2)]; rfl⟩
    · repeat (first | apply RunP.seq | apply RunP.region | apply RunP.condT rfl | apply RunP.condF rfl | apply RunP.skip | apply RunP.block | apply RunP.exit | apply RunP.ret)
      exact ⟨rfl, _, rfl, rfl, by unfold numberL; rw [if_neg (by omega)]; rfl⟩

theorem refNumber_has (h : Heap) (n : Int) : Has envQ .own 58 [.int .i64 n] h (.val (rV (numberL n)) h) := by
  suffices hx : ∃ v, Has envQ .own 58 [.int .i64 n] h (.val v h) ∧ v = rV (numberL n) by
    obtain ⟨v, h1, rfl⟩ := hx; exact h1
  refine HasP.ownE (a := [.int .i64 n]) (d := fn58) rfl rfl rfl (of_decide_eq_true rfl) ?_
  repeat (first | apply RunP.seq | apply RunP.region | apply RunP.condT rfl | apply RunP.condF rfl | apply RunP.skip | apply RunP.block | apply RunP.exit | apply RunP.ret)
  refine And.intro (fun h1 => ?_) (fun h1 => ?_)
  · repeat (first | apply RunP.seq | apply RunP.region | apply RunP.condT rfl | apply RunP.condF rfl | apply RunP.skip | apply RunP.block | apply RunP.exit | apply RunP.ret)
    refine CallK.of (throw_has _ _) ?_
    repeat (first | apply RunP.seq | apply RunP.region | apply RunP.condT rfl | apply RunP.condF rfl | apply RunP.skip | apply RunP.block | apply RunP.exit | apply RunP.ret)
    exact ⟨rfl, _, rfl, rfl, by unfold numberL; rw [if_pos (.inl h1)]; rfl⟩
  · refine And.intro (fun h2 => ?_) (fun h2 => ?_)
    · repeat (first | apply RunP.seq | apply RunP.region | apply RunP.condT rfl | apply RunP.condF rfl | apply RunP.skip | apply RunP.block | apply RunP.exit | apply RunP.ret)
      refine CallK.of (throw_has _ _) ?_
      repeat (first | apply RunP.seq | apply RunP.region | apply RunP.condT rfl | apply RunP.condF rfl | apply RunP.skip | apply RunP.block | apply RunP.exit | apply RunP.ret)
      exact ⟨rfl, _, rfl, rfl, by unfold numberL; rw [if_pos (.inr h2)]; rfl⟩
    · repeat (first | apply RunP.seq | apply RunP.region | apply RunP.condT rfl | apply RunP.condF rfl | apply RunP.skip | apply RunP.block | apply RunP.exit | apply RunP.ret)
      exact ⟨rfl, _, rfl, rfl, by unfold numberL; rw [if_neg (by omega)]; rfl⟩
end Go.Proofs.YtkjhnpmgieplgaaGreatDoor
