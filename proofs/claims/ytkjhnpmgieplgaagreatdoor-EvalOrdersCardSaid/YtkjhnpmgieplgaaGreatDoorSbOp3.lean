/- Operators: numbers, truth values, faults. -/
import Derived.Test.YtkjhnpmgieplgaaGreatDoorSbShow
import Derived.Test.YtkjhnpmgieplgaaGreatDoorSbEvalValid
set_option linter.unusedVariables false
set_option linter.unusedSimpArgs false
namespace Go.Proofs.YtkjhnpmgieplgaaGreatDoor
open Go.Sb
set_option maxRecDepth 100000

/-- A value and a fault. -/
abbrev Res := (Int × Int × List UInt8) × (Int × List UInt8)
def vV (r : Int × Int × List UInt8) : V := .agg [.int .i64 r.1, .int .i64 r.2.1, .str r.2.2]
def fV (r : Int × List UInt8) : V := .agg [.int .i64 r.1, .str r.2]
def rV (r : Res) : V := .tup [vV r.1, fV r.2]
def zV : Int × Int × List UInt8 := (0, 0, [])
def noF : Int × List UInt8 := (0, [])
def throwL (t : List UInt8) : Res := (zV, (1, t))
def bigT : List UInt8 := [98, 105, 103]
def kindT : List UInt8 := [107, 105, 110, 100]
def zeroT : List UInt8 := [122, 101, 114, 111]
def longT : List UInt8 := [108, 111, 110, 103]
def numberL (n : Int) : Res := if 1000000000000 < n ∨ n < -1000000000000 then throwL bigT else ((1, n, []), noF)
def truthL (b : Bool) : Res := ((2, (if b = true then 1 else 0), []), noF)

theorem fault_has (h : Heap) (s : List UInt8) : Has envQ .own 88 [.str s] h (.val (fV (1, s)) h) := by
  refine HasP.own (a := [.str s]) (d := fn88) rfl rfl rfl (of_decide_eq_true rfl) ?_
  repeat (first | apply RunP.seq | apply RunP.region | apply RunP.condT rfl | apply RunP.condF rfl | apply RunP.skip | apply RunP.block | apply RunP.exit | apply RunP.ret)
  exact ⟨rfl, rfl, rfl⟩

theorem throw_has (h : Heap) (s : List UInt8) : Has envQ .own 23 [.str s] h (.val (fV (1, s)) h) := by
  refine HasP.own (a := [.str s]) (d := fn23) rfl rfl rfl (of_decide_eq_true rfl) ?_
  repeat (first | apply RunP.seq | apply RunP.region | apply RunP.condT rfl | apply RunP.condF rfl | apply RunP.skip | apply RunP.block | apply RunP.exit | apply RunP.ret)
  exact ⟨rfl, rfl, rfl⟩

theorem wrong_has (h : Heap) : Has envQ .own 84 [] h (.val (rV (throwL kindT)) h) := by
  refine HasP.own (a := []) (d := fn84) rfl rfl rfl (of_decide_eq_true rfl) ?_
  repeat (first | apply RunP.seq | apply RunP.region | apply RunP.condT rfl | apply RunP.condF rfl | apply RunP.skip | apply RunP.block | apply RunP.exit | apply RunP.ret)
  refine CallK.of (fault_has _ _) ?_
  repeat (first | apply RunP.seq | apply RunP.region | apply RunP.condT rfl | apply RunP.condF rfl | apply RunP.skip | apply RunP.block | apply RunP.exit | apply RunP.ret)
  exact ⟨rfl, rfl, rfl⟩
theorem truth_has (h : Heap) (b : Bool) : Has envQ .own 85 [.bool b] h (.val (rV (truthL b)) h) := by
  refine HasP.own (a := [.bool b]) (d := fn85) rfl rfl rfl (of_decide_eq_true rfl) ?_
  cases b
  · repeat (first | apply RunP.seq | apply RunP.region | apply RunP.condT rfl | apply RunP.condF rfl | apply RunP.skip | apply RunP.block | apply RunP.exit | apply RunP.ret)
    exact ⟨rfl, rfl, rfl⟩
  · repeat (first | apply RunP.seq | apply RunP.region | apply RunP.condT rfl | apply RunP.condF rfl | apply RunP.skip | apply RunP.block | apply RunP.exit | apply RunP.ret)
    exact ⟨rfl, rfl, rfl⟩
theorem refTruth_has (h : Heap) (b : Bool) : Has envQ .own 52 [.bool b] h (.val (vV (truthL b).1) h) := by
  refine HasP.own (a := [.bool b]) (d := fn52) rfl rfl rfl (of_decide_eq_true rfl) ?_
  cases b
  · repeat (first | apply RunP.seq | apply RunP.region | apply RunP.condT rfl | apply RunP.condF rfl | apply RunP.skip | apply RunP.block | apply RunP.exit | apply RunP.ret)
    exact ⟨rfl, rfl, rfl⟩
  · repeat (first | apply RunP.seq | apply RunP.region | apply RunP.condT rfl | apply RunP.condF rfl | apply RunP.skip | apply RunP.block | apply RunP.exit | apply RunP.ret)
    exact ⟨rfl, rfl, rfl⟩

theorem number_has (h : Heap) (n : Int) : Has envQ .own 90 [.int .i64 n] h (.val (rV (numberL n)) h) := by
  suffices hx : ∃ v, Has envQ .own 90 [.int .i64 n] h (.val v h) ∧ v = rV (numberL n) by
    obtain ⟨v, h1, rfl⟩ := hx; exact h1
  refine HasP.ownE (a := [.int .i64 n]) (d := fn90) rfl rfl rfl (of_decide_eq_true rfl) ?_
  repeat (first | apply RunP.seq | apply RunP.region | apply RunP.condT rfl | apply RunP.condF rfl | apply RunP.skip | apply RunP.block | apply RunP.exit | apply RunP.ret)
  refine And.intro (fun h1 => ?_) (fun h1 => ?_)
  · repeat (first | apply RunP.seq | apply RunP.region | apply RunP.condT rfl | apply RunP.condF rfl | apply RunP.skip | apply RunP.block | apply RunP.exit | apply RunP.ret)
    refine CallK.of (fault_has _ _) ?_
    repeat (first | apply RunP.seq | apply RunP.region | apply RunP.condT rfl | apply RunP.condF rfl | apply RunP.skip | apply RunP.block | apply RunP.exit | apply RunP.ret)
    exact ⟨rfl, _, rfl, rfl, by unfold numberL; rw [if_pos (.inl h1)]; rfl⟩
  · refine And.intro (fun h2 => ?_) (fun h2 => ?_)
    · repeat (first | apply RunP.seq | apply RunP.region | apply RunP.condT rfl | apply RunP.condF rfl | apply RunP.skip | apply RunP.block | apply RunP.exit | apply RunP.ret)
      refine CallK.of (fault_has _ _) ?_
      repeat (first | apply RunP.seq | apply RunP.region | apply RunP.condT rfl | apply RunP.condF rfl | apply RunP.skip | apply RunP.block | apply RunP.exit | apply RunP.ret)
      exact ⟨rfl, _, rfl, rfl, by unfold numberL; rw [if_pos (.inr h2)]; rfl⟩
    · repeat (first | apply RunP.seq | apply RunP.region | apply RunP.condT rfl | apply RunP.condF rfl | apply RunP.skip | apply RunP.block | apply RunP.exit | apply RunP.ret)
      exact ⟨rfl, _, rfl, rfl, by unfold numberL; rw [if_neg (by omega)]; rfl⟩

theorem refNumber_has (h : Heap) (n : Int) : Has envQ .own 58 [.int .i64 n] h (.val (rV (numberL n)) h) := by
  suffices hx : ∃ v, Has envQ .own 58 [.int .i64 n] h (.val v h) ∧ v = rV (numberL n) by
    obtain ⟨v, h1, rfl⟩ := hx; exact h1
  refine HasP.ownE (a := [.int .i64 n]) (d := fn58) rfl rfl rfl (of_decide_eq_true rfl) ?_
  repeat (first | apply RunP.seq | apply RunP.region | apply RunP.condT rfl | apply RunP.condF rfl | apply RunP.skip | apply RunP.block | apply RunP.exit | apply RunP.ret)
  refine And.intro (fun h1 => ?_) (fun h1 => ?_)
  · repeat (first | apply RunP.seq | apply RunP.region | apply RunP.condT rfl | apply RunP.condF rfl | apply RunP.skip | apply RunP.block | apply RunP.exit | apply RunP.ret)
    refine CallK.of (throw_has _ _) ?_
    repeat (first | apply RunP.seq | apply RunP.region | apply RunP.condT rfl | apply RunP.condF rfl | apply RunP.skip | apply RunP.block | apply RunP.exit | apply RunP.ret)
    exact ⟨rfl, _, rfl, rfl, by unfold numberL; rw [if_pos (.inl h1)]; rfl⟩
  · refine And.intro (fun h2 => ?_) (fun h2 => ?_)
    · repeat (first | apply RunP.seq | apply RunP.region | apply RunP.condT rfl | apply RunP.condF rfl | apply RunP.skip | apply RunP.block | apply RunP.exit | apply RunP.ret)
      refine CallK.of (throw_has _ _) ?_
      repeat (first | apply RunP.seq | apply RunP.region | apply RunP.condT rfl | apply RunP.condF rfl | apply RunP.skip | apply RunP.block | apply RunP.exit | apply RunP.ret)
      exact ⟨rfl, _, rfl, rfl, by unfold numberL; rw [if_pos (.inr h2)]; rfl⟩
    · repeat (first | apply RunP.seq | apply RunP.region | apply RunP.condT rfl | apply RunP.condF rfl | apply RunP.skip | apply RunP.block | apply RunP.exit | apply RunP.ret)
      exact ⟨rfl, _, rfl, rfl, by unfold numberL; rw [if_neg (by omega)]; rfl⟩
end Go.Proofs.YtkjhnpmgieplgaaGreatDoor

/- Operators: comparisons, the operators of numbers. -/

namespace Go.Proofs.YtkjhnpmgieplgaaGreatDoor
open Go.Sb
set_option maxRecDepth 100000

theorem nanI_has (h : Heap) (x : Int) : Has envQ .own 167 [.int .i64 x] h (.val (.bool false) h) := by
  refine HasP.own (a := [.int .i64 x]) (d := fn167) rfl rfl rfl (of_decide_eq_true rfl) ?_
  repeat (first | apply RunP.seq | apply RunP.region | apply RunP.condT rfl | apply RunP.condF rfl | apply RunP.skip | apply RunP.block | apply RunP.exit | apply RunP.ret | refine And.intro (fun w => absurd w (by first | assumption | decide)) (fun _ => ?_) | refine And.intro (fun _ => ?_) (fun w => absurd w (by first | assumption | decide)) | refine And.intro (fun _ => ?_) (fun w => absurd (by first | assumption | rfl) w))
  exact ⟨rfl, rfl, rfl⟩

theorem nanS_has (h : Heap) (x : List UInt8) : Has envQ .own 168 [.str x] h (.val (.bool false) h) := by
  refine HasP.own (a := [.str x]) (d := fn168) rfl rfl rfl (of_decide_eq_true rfl) ?_
  repeat (first | apply RunP.seq | apply RunP.region | apply RunP.condT rfl | apply RunP.condF rfl | apply RunP.skip | apply RunP.block | apply RunP.exit | apply RunP.ret | refine And.intro (fun w => absurd w (by first | assumption | decide)) (fun _ => ?_) | refine And.intro (fun _ => ?_) (fun w => absurd w (by first | assumption | decide)) | refine And.intro (fun _ => ?_) (fun w => absurd (by first | assumption | rfl) w))
  exact ⟨rfl, rfl, rfl⟩

def cmpI (a b : Int) : Int := if a < b then -1 else if b < a then 1 else 0
def cmpS (a b : List UInt8) : Int := if Op.bytesLess a b = true then -1 else if (Op.bytesLess a b || a == b) = true then 0 else 1
theorem cmpI_has (h : Heap) (a b : Int) : Has envQ .own 127 [.int .i64 a, .int .i64 b] h (.val (.int .i64 (cmpI a b)) h) := by
  suffices hx : ∃ v, Has envQ .own 127 [.int .i64 a, .int .i64 b] h (.val v h) ∧ v = .int .i64 (cmpI a b) by
    obtain ⟨v, h1, rfl⟩ := hx; exact h1
  refine HasP.ownE (a := [.int .i64 a, .int .i64 b]) (d := fn127) rfl rfl rfl (of_decide_eq_true rfl) ?_
  repeat (first | apply RunP.seq | apply RunP.region | apply RunP.condT rfl | apply RunP.condF rfl | apply RunP.skip | apply RunP.block | apply RunP.exit | apply RunP.ret)
  refine CallK.of (nanI_has _ _) ?_
  repeat (first | apply RunP.seq | apply RunP.region | apply RunP.condT rfl | apply RunP.condF rfl | apply RunP.skip | apply RunP.block | apply RunP.exit | apply RunP.ret)
  refine CallK.of (nanI_has _ _) ?_
  repeat (first | apply RunP.seq | apply RunP.region | apply RunP.condT rfl | apply RunP.condF rfl | apply RunP.skip | apply RunP.block | apply RunP.exit | apply RunP.ret)
  refine And.intro (fun h1 => ?_) (fun h1 => ?_)
  · repeat (first | apply RunP.seq | apply RunP.region | apply RunP.condT rfl | apply RunP.condF rfl | apply RunP.skip | apply RunP.block | apply RunP.exit | apply RunP.ret)
    exact ⟨rfl, _, rfl, rfl, by unfold cmpI; rw [if_pos h1]; rfl⟩
  · repeat (first | apply RunP.seq | apply RunP.region | apply RunP.condT rfl | apply RunP.condF rfl | apply RunP.skip | apply RunP.block | apply RunP.exit | apply RunP.ret)
    refine And.intro (fun h2 => ?_) (fun h2 => ?_)
    · repeat (first | apply RunP.seq | apply RunP.region | apply RunP.condT rfl | apply RunP.condF rfl | apply RunP.skip | apply RunP.block | apply RunP.exit | apply RunP.ret)
      exact ⟨rfl, _, rfl, rfl, by unfold cmpI; rw [if_neg (by omega), if_pos h2]; rfl⟩
    · repeat (first | apply RunP.seq | apply RunP.region | apply RunP.condT rfl | apply RunP.condF rfl | apply RunP.skip | apply RunP.block | apply RunP.exit | apply RunP.ret)
      exact ⟨rfl, _, rfl, rfl, by unfold cmpI; rw [if_neg (by omega), if_neg (by omega)]; rfl⟩
theorem cmpS_has (h : Heap) (a b : List UInt8) : Has envQ .own 128 [.str a, .str b] h (.val (.int .i64 (cmpS a b)) h) := by
  suffices hx : ∃ v, Has envQ .own 128 [.str a, .str b] h (.val v h) ∧ v = .int .i64 (cmpS a b) by
    obtain ⟨v, h1, rfl⟩ := hx; exact h1
  refine HasP.ownE (a := [.str a, .str b]) (d := fn128) rfl rfl rfl (of_decide_eq_true rfl) ?_
  have e1 : evBin envQ .lss 9 (.str a) (.str b) = some (.bool (Op.bytesLess a b)) := rfl
  have e2 : evBin envQ .gtr 9 (.str a) (.str b) = some (.bool !(Op.bytesLess a b || a == b)) := rfl
  unfold cmpS
  generalize Op.bytesLess a b = x at e1 e2 ⊢
  generalize (a == b) = y at e2 ⊢
  repeat (first | apply RunP.seq | apply RunP.region | apply RunP.condT rfl | apply RunP.condF rfl | apply RunP.skip | apply RunP.block | apply RunP.exit | apply RunP.ret)
  refine CallK.of (nanS_has _ _) ?_
  repeat (first | apply RunP.seq | apply RunP.region | apply RunP.condT rfl | apply RunP.condF rfl | apply RunP.skip | apply RunP.block | apply RunP.exit | apply RunP.ret)
  refine CallK.of (nanS_has _ _) ?_
  repeat (first | apply RunP.seq | apply RunP.condT rfl | apply RunP.condF rfl | apply RunP.skip | apply RunP.block)
  refine RunP.regionR _ (fun K => rfl) ?_
  refine ops_sl (s' := [_,_,_,_,_,_,_,_,_,_,_,_,_,_,_,_,_,_,_,_,_]) rfl (fun K hK => hK) rfl ?_
  repeat (first | apply RunP.seq | apply RunP.condT rfl | apply RunP.condF rfl | apply RunP.skip | apply RunP.block)
  refine RunP.regionR _ (fun K => rfl) ?_
  refine ops_sl (s' := [_,_,_,_,_,_,_,_,_,_,_,_,_,_,_,_,_,_,_,_,_]) rfl (fun K hK => hK) rfl ?_
  repeat (first | apply RunP.seq | apply RunP.condT rfl | apply RunP.condF rfl | apply RunP.skip | apply RunP.block)
  refine RunP.regionR _ (fun K => rfl) ?_
  refine ops_sl (s' := [_,_,_,_,_,_,_,_,_,_,_,_,_,_,_,_,_,_,_,_,_]) rfl (fun K hK => hK) rfl ?_
  refine ops_sl (s' := [_,_,_,_,_,_,_,_,_,_,_,_,_,_,_,_,_,_,_,_,_]) rfl (fun K hK => hK) rfl ?_
  refine ops_sl (s' := [_,_,_,_,_,_,_,_,_,_,_,_,_,_,_,_,_,_,_,_,_]) rfl (fun K hK => bindK_of (K := fun v => K v _) e1 hK) rfl ?_
  cases x
  · repeat (first | apply RunP.seq | apply RunP.condT rfl | apply RunP.condF rfl | apply RunP.skip | apply RunP.block)
    refine RunP.regionR _ (fun K => rfl) ?_
    refine ops_sl (s' := [_,_,_,_,_,_,_,_,_,_,_,_,_,_,_,_,_,_,_,_,_]) rfl (fun K hK => hK) rfl ?_
    refine ops_sl (s' := [_,_,_,_,_,_,_,_,_,_,_,_,_,_,_,_,_,_,_,_,_]) rfl (fun K hK => hK) rfl ?_
    refine ops_sl (s' := [_,_,_,_,_,_,_,_,_,_,_,_,_,_,_,_,_,_,_,_,_]) rfl (fun K hK => bindK_of (K := fun v => K v _) e2 hK) rfl ?_
    cases y
    · repeat (first | apply RunP.seq | apply RunP.region | apply RunP.condT rfl | apply RunP.condF rfl | apply RunP.skip | apply RunP.block | apply RunP.exit | apply RunP.ret)
      exact ⟨rfl, _, rfl, rfl, rfl⟩
    · repeat (first | apply RunP.seq | apply RunP.region | apply RunP.condT rfl | apply RunP.condF rfl | apply RunP.skip | apply RunP.block | apply RunP.exit | apply RunP.ret)
      exact ⟨rfl, _, rfl, rfl, rfl⟩
  · repeat (first | apply RunP.seq | apply RunP.region | apply RunP.condT rfl | apply RunP.condF rfl | apply RunP.skip | apply RunP.block | apply RunP.exit | apply RunP.ret)
    exact ⟨rfl, _, rfl, rfl, rfl⟩
def orderedL (op c : Int) : Res := truthL (if op = 11 then decide (c < 0) else if op = 12 then decide (c ≤ 0) else if op = 13 then decide (0 < c) else decide (0 ≤ c))
theorem cmpL {a b : Int} {K : V → Heap → Prop} {g : Heap} (hK : K (.bool (decide (a < b))) g) : (a < b → K (.bool true) g) ∧ (b ≤ a → K (.bool false) g) :=
  ⟨(cmpK hK).1, fun h => (cmpK hK).2 (by omega)⟩
theorem cmpLe {a b : Int} {K : V → Heap → Prop} {g : Heap} (hK : K (.bool (decide (a ≤ b))) g) : (a ≤ b → K (.bool true) g) ∧ (b < a → K (.bool false) g) :=
  ⟨(cmpK hK).1, fun h => (cmpK hK).2 (by omega)⟩

set_option maxHeartbeats 2000000 in
theorem ordI_has (h : Heap) (op : Int) (a b : Int) : Has envQ .own 86 [.int .i64 op, .int .i64 a, .int .i64 b] h (.val (rV (orderedL op (cmpI a b))) h) := by
  suffices hx : ∃ v, Has envQ .own 86 [.int .i64 op, .int .i64 a, .int .i64 b] h (.val v h) ∧ v = rV (orderedL op (cmpI a b)) by
    obtain ⟨v, h1, rfl⟩ := hx; exact h1
  refine HasP.ownE (a := [.int .i64 op, .int .i64 a, .int .i64 b]) (d := fn86) rfl rfl rfl (of_decide_eq_true rfl) ?_
  have hc := fun g => (show Has envQ .own _ _ g _ from cmpI_has g a b)
  generalize cmpI a b = c at hc ⊢
  repeat (first | apply RunP.seq | apply RunP.region | apply RunP.condT rfl | apply RunP.condF rfl | apply RunP.skip | apply RunP.block | apply RunP.exit | apply RunP.ret)
  refine CallK.of (hc _) ?_
  clear hc
  repeat (first | apply RunP.seq | apply RunP.region | apply RunP.condT rfl | apply RunP.condF rfl | apply RunP.skip | apply RunP.block | apply RunP.exit | apply RunP.ret)
  refine And.intro (fun o11 => ?_) (fun o11 => ?_)
  · repeat (first | apply RunP.seq | apply RunP.condT rfl | apply RunP.condF rfl | apply RunP.skip | apply RunP.block)
    refine RunP.regionR _ (fun K => rfl) ?_
    refine ops_sl (s' := [_,_,_,_,_,_,_,_,_,_,_,_,_,_,_,_,_,_,_,_,_,_,_,_,_,_,_,_,_,_,_,_,_,_,_,_,_,_,_,_]) rfl (fun K hK => hK) rfl ?_
    refine ops_sl (s' := [_,_,_,_,_,_,_,_,_,_,_,_,_,_,_,_,_,_,_,_,_,_,_,_,_,_,_,_,_,_,_,_,_,_,_,_,_,_,_,_]) rfl (fun K hK => cmpL hK) rfl ?_
    refine ops_sl (s' := [_,_,_,_,_,_,_,_,_,_,_,_,_,_,_,_,_,_,_,_,_,_,_,_,_,_,_,_,_,_,_,_,_,_,_,_,_,_,_,_]) rfl (fun K hK => CallK.of (truth_has _ _) hK) rfl ?_
    refine ops_sl (s' := [_,_,_,_,_,_,_,_,_,_,_,_,_,_,_,_,_,_,_,_,_,_,_,_,_,_,_,_,_,_,_,_,_,_,_,_,_,_,_,_]) rfl (fun K hK => hK) rfl ?_
    refine ops_sl (s' := [_,_,_,_,_,_,_,_,_,_,_,_,_,_,_,_,_,_,_,_,_,_,_,_,_,_,_,_,_,_,_,_,_,_,_,_,_,_,_,_]) rfl (fun K hK => hK) rfl ?_
    refine ops_sl (s' := [_,_,_,_,_,_,_,_,_,_,_,_,_,_,_,_,_,_,_,_,_,_,_,_,_,_,_,_,_,_,_,_,_,_,_,_,_,_,_,_]) rfl (fun K hK => hK) rfl ?_
    refine ops_sl (s' := [_,_,_,_,_,_,_,_,_,_,_,_,_,_,_,_,_,_,_,_,_,_,_,_,_,_,_,_,_,_,_,_,_,_,_,_,_,_,_,_]) rfl (fun K hK => hK) rfl ?_
    repeat (first | apply RunP.seq | apply RunP.region | apply RunP.condT rfl | apply RunP.condF rfl | apply RunP.skip | apply RunP.block | apply RunP.exit | apply RunP.ret)
    exact ⟨rfl, _, rfl, rfl, by unfold orderedL; subst o11; rfl⟩
  · repeat (first | apply RunP.seq | apply RunP.region | apply RunP.condT rfl | apply RunP.condF rfl | apply RunP.skip | apply RunP.block | apply RunP.exit | apply RunP.ret)
    refine And.intro (fun o12 => ?_) (fun o12 => ?_)
    · repeat (first | apply RunP.seq | apply RunP.condT rfl | apply RunP.condF rfl | apply RunP.skip | apply RunP.block)
      refine RunP.regionR _ (fun K => rfl) ?_
      refine ops_sl (s' := [_,_,_,_,_,_,_,_,_,_,_,_,_,_,_,_,_,_,_,_,_,_,_,_,_,_,_,_,_,_,_,_,_,_,_,_,_,_,_,_]) rfl (fun K hK => hK) rfl ?_
      refine ops_sl (s' := [_,_,_,_,_,_,_,_,_,_,_,_,_,_,_,_,_,_,_,_,_,_,_,_,_,_,_,_,_,_,_,_,_,_,_,_,_,_,_,_]) rfl (fun K hK => cmpLe hK) rfl ?_
      refine ops_sl (s' := [_,_,_,_,_,_,_,_,_,_,_,_,_,_,_,_,_,_,_,_,_,_,_,_,_,_,_,_,_,_,_,_,_,_,_,_,_,_,_,_]) rfl (fun K hK => CallK.of (truth_has _ _) hK) rfl ?_
      refine ops_sl (s' := [_,_,_,_,_,_,_,_,_,_,_,_,_,_,_,_,_,_,_,_,_,_,_,_,_,_,_,_,_,_,_,_,_,_,_,_,_,_,_,_]) rfl (fun K hK => hK) rfl ?_
      refine ops_sl (s' := [_,_,_,_,_,_,_,_,_,_,_,_,_,_,_,_,_,_,_,_,_,_,_,_,_,_,_,_,_,_,_,_,_,_,_,_,_,_,_,_]) rfl (fun K hK => hK) rfl ?_
      refine ops_sl (s' := [_,_,_,_,_,_,_,_,_,_,_,_,_,_,_,_,_,_,_,_,_,_,_,_,_,_,_,_,_,_,_,_,_,_,_,_,_,_,_,_]) rfl (fun K hK => hK) rfl ?_
      refine ops_sl (s' := [_,_,_,_,_,_,_,_,_,_,_,_,_,_,_,_,_,_,_,_,_,_,_,_,_,_,_,_,_,_,_,_,_,_,_,_,_,_,_,_]) rfl (fun K hK => hK) rfl ?_
      repeat (first | apply RunP.seq | apply RunP.region | apply RunP.condT rfl | apply RunP.condF rfl | apply RunP.skip | apply RunP.block | apply RunP.exit | apply RunP.ret)
      exact ⟨rfl, _, rfl, rfl, by unfold orderedL; subst o12; rfl⟩
    · repeat (first | apply RunP.seq | apply RunP.region | apply RunP.condT rfl | apply RunP.condF rfl | apply RunP.skip | apply RunP.block | apply RunP.exit | apply RunP.ret)
      refine And.intro (fun o13 => ?_) (fun o13 => ?_)
      · repeat (first | apply RunP.seq | apply RunP.condT rfl | apply RunP.condF rfl | apply RunP.skip | apply RunP.block)
        refine RunP.regionR _ (fun K => rfl) ?_
        refine ops_sl (s' := [_,_,_,_,_,_,_,_,_,_,_,_,_,_,_,_,_,_,_,_,_,_,_,_,_,_,_,_,_,_,_,_,_,_,_,_,_,_,_,_]) rfl (fun K hK => hK) rfl ?_
        refine ops_sl (s' := [_,_,_,_,_,_,_,_,_,_,_,_,_,_,_,_,_,_,_,_,_,_,_,_,_,_,_,_,_,_,_,_,_,_,_,_,_,_,_,_]) rfl (fun K hK => cmpL hK) rfl ?_
        refine ops_sl (s' := [_,_,_,_,_,_,_,_,_,_,_,_,_,_,_,_,_,_,_,_,_,_,_,_,_,_,_,_,_,_,_,_,_,_,_,_,_,_,_,_]) rfl (fun K hK => CallK.of (truth_has _ _) hK) rfl ?_
        refine ops_sl (s' := [_,_,_,_,_,_,_,_,_,_,_,_,_,_,_,_,_,_,_,_,_,_,_,_,_,_,_,_,_,_,_,_,_,_,_,_,_,_,_,_]) rfl (fun K hK => hK) rfl ?_
        refine ops_sl (s' := [_,_,_,_,_,_,_,_,_,_,_,_,_,_,_,_,_,_,_,_,_,_,_,_,_,_,_,_,_,_,_,_,_,_,_,_,_,_,_,_]) rfl (fun K hK => hK) rfl ?_
        refine ops_sl (s' := [_,_,_,_,_,_,_,_,_,_,_,_,_,_,_,_,_,_,_,_,_,_,_,_,_,_,_,_,_,_,_,_,_,_,_,_,_,_,_,_]) rfl (fun K hK => hK) rfl ?_
        refine ops_sl (s' := [_,_,_,_,_,_,_,_,_,_,_,_,_,_,_,_,_,_,_,_,_,_,_,_,_,_,_,_,_,_,_,_,_,_,_,_,_,_,_,_]) rfl (fun K hK => hK) rfl ?_
        repeat (first | apply RunP.seq | apply RunP.region | apply RunP.condT rfl | apply RunP.condF rfl | apply RunP.skip | apply RunP.block | apply RunP.exit | apply RunP.ret)
        exact ⟨rfl, _, rfl, rfl, by unfold orderedL; subst o13; rfl⟩
      · repeat (first | apply RunP.seq | apply RunP.condT rfl | apply RunP.condF rfl | apply RunP.skip | apply RunP.block)
        refine RunP.regionR _ (fun K => rfl) ?_
        refine ops_sl (s' := [_,_,_,_,_,_,_,_,_,_,_,_,_,_,_,_,_,_,_,_,_,_,_,_,_,_,_,_,_,_,_,_,_,_,_,_,_,_,_,_]) rfl (fun K hK => hK) rfl ?_
        refine ops_sl (s' := [_,_,_,_,_,_,_,_,_,_,_,_,_,_,_,_,_,_,_,_,_,_,_,_,_,_,_,_,_,_,_,_,_,_,_,_,_,_,_,_]) rfl (fun K hK => cmpLe hK) rfl ?_
        refine ops_sl (s' := [_,_,_,_,_,_,_,_,_,_,_,_,_,_,_,_,_,_,_,_,_,_,_,_,_,_,_,_,_,_,_,_,_,_,_,_,_,_,_,_]) rfl (fun K hK => CallK.of (truth_has _ _) hK) rfl ?_
        refine ops_sl (s' := [_,_,_,_,_,_,_,_,_,_,_,_,_,_,_,_,_,_,_,_,_,_,_,_,_,_,_,_,_,_,_,_,_,_,_,_,_,_,_,_]) rfl (fun K hK => hK) rfl ?_
        refine ops_sl (s' := [_,_,_,_,_,_,_,_,_,_,_,_,_,_,_,_,_,_,_,_,_,_,_,_,_,_,_,_,_,_,_,_,_,_,_,_,_,_,_,_]) rfl (fun K hK => hK) rfl ?_
        refine ops_sl (s' := [_,_,_,_,_,_,_,_,_,_,_,_,_,_,_,_,_,_,_,_,_,_,_,_,_,_,_,_,_,_,_,_,_,_,_,_,_,_,_,_]) rfl (fun K hK => hK) rfl ?_
        refine ops_sl (s' := [_,_,_,_,_,_,_,_,_,_,_,_,_,_,_,_,_,_,_,_,_,_,_,_,_,_,_,_,_,_,_,_,_,_,_,_,_,_,_,_]) rfl (fun K hK => hK) rfl ?_
        repeat (first | apply RunP.seq | apply RunP.region | apply RunP.condT rfl | apply RunP.condF rfl | apply RunP.skip | apply RunP.block | apply RunP.exit | apply RunP.ret)
        exact ⟨rfl, _, rfl, rfl, by unfold orderedL; rw [if_neg o11, if_neg o12, if_neg o13]; rfl⟩

set_option maxHeartbeats 2000000 in
theorem ordS_has (h : Heap) (op : Int) (a b : List UInt8) : Has envQ .own 87 [.int .i64 op, .str a, .str b] h (.val (rV (orderedL op (cmpS a b))) h) := by
  suffices hx : ∃ v, Has envQ .own 87 [.int .i64 op, .str a, .str b] h (.val v h) ∧ v = rV (orderedL op (cmpS a b)) by
    obtain ⟨v, h1, rfl⟩ := hx; exact h1
  refine HasP.ownE (a := [.int .i64 op, .str a, .str b]) (d := fn87) rfl rfl rfl (of_decide_eq_true rfl) ?_
  have hc := fun g => (show Has envQ .own _ _ g _ from cmpS_has g a b)
  generalize cmpS a b = c at hc ⊢
  repeat (first | apply RunP.seq | apply RunP.region | apply RunP.condT rfl | apply RunP.condF rfl | apply RunP.skip | apply RunP.block | apply RunP.exit | apply RunP.ret)
  refine CallK.of (hc _) ?_
  clear hc
  repeat (first | apply RunP.seq | apply RunP.region | apply RunP.condT rfl | apply RunP.condF rfl | apply RunP.skip | apply RunP.block | apply RunP.exit | apply RunP.ret)
  refine And.intro (fun o11 => ?_) (fun o11 => ?_)
  · repeat (first | apply RunP.seq | apply RunP.condT rfl | apply RunP.condF rfl | apply RunP.skip | apply RunP.block)
    refine RunP.regionR _ (fun K => rfl) ?_
    refine ops_sl (s' := [_,_,_,_,_,_,_,_,_,_,_,_,_,_,_,_,_,_,_,_,_,_,_,_,_,_,_,_,_,_,_,_,_,_,_,_,_,_,_,_]) rfl (fun K hK => hK) rfl ?_
    refine ops_sl (s' := [_,_,_,_,_,_,_,_,_,_,_,_,_,_,_,_,_,_,_,_,_,_,_,_,_,_,_,_,_,_,_,_,_,_,_,_,_,_,_,_]) rfl (fun K hK => cmpL hK) rfl ?_
    refine ops_sl (s' := [_,_,_,_,_,_,_,_,_,_,_,_,_,_,_,_,_,_,_,_,_,_,_,_,_,_,_,_,_,_,_,_,_,_,_,_,_,_,_,_]) rfl (fun K hK => CallK.of (truth_has _ _) hK) rfl ?_
    refine ops_sl (s' := [_,_,_,_,_,_,_,_,_,_,_,_,_,_,_,_,_,_,_,_,_,_,_,_,_,_,_,_,_,_,_,_,_,_,_,_,_,_,_,_]) rfl (fun K hK => hK) rfl ?_
    refine ops_sl (s' := [_,_,_,_,_,_,_,_,_,_,_,_,_,_,_,_,_,_,_,_,_,_,_,_,_,_,_,_,_,_,_,_,_,_,_,_,_,_,_,_]) rfl (fun K hK => hK) rfl ?_
    refine ops_sl (s' := [_,_,_,_,_,_,_,_,_,_,_,_,_,_,_,_,_,_,_,_,_,_,_,_,_,_,_,_,_,_,_,_,_,_,_,_,_,_,_,_]) rfl (fun K hK => hK) rfl ?_
    refine ops_sl (s' := [_,_,_,_,_,_,_,_,_,_,_,_,_,_,_,_,_,_,_,_,_,_,_,_,_,_,_,_,_,_,_,_,_,_,_,_,_,_,_,_]) rfl (fun K hK => hK) rfl ?_
    repeat (first | apply RunP.seq | apply RunP.region | apply RunP.condT rfl | apply RunP.condF rfl | apply RunP.skip | apply RunP.block | apply RunP.exit | apply RunP.ret)
    exact ⟨rfl, _, rfl, rfl, by unfold orderedL; subst o11; rfl⟩
  · repeat (first | apply RunP.seq | apply RunP.region | apply RunP.condT rfl | apply RunP.condF rfl | apply RunP.skip | apply RunP.block | apply RunP.exit | apply RunP.ret)
    refine And.intro (fun o12 => ?_) (fun o12 => ?_)
    · repeat (first | apply RunP.seq | apply RunP.condT rfl | apply RunP.condF rfl | apply RunP.skip | apply RunP.block)
      refine RunP.regionR _ (fun K => rfl) ?_
      refine ops_sl (s' := [_,_,_,_,_,_,_,_,_,_,_,_,_,_,_,_,_,_,_,_,_,_,_,_,_,_,_,_,_,_,_,_,_,_,_,_,_,_,_,_]) rfl (fun K hK => hK) rfl ?_
      refine ops_sl (s' := [_,_,_,_,_,_,_,_,_,_,_,_,_,_,_,_,_,_,_,_,_,_,_,_,_,_,_,_,_,_,_,_,_,_,_,_,_,_,_,_]) rfl (fun K hK => cmpLe hK) rfl ?_
      refine ops_sl (s' := [_,_,_,_,_,_,_,_,_,_,_,_,_,_,_,_,_,_,_,_,_,_,_,_,_,_,_,_,_,_,_,_,_,_,_,_,_,_,_,_]) rfl (fun K hK => CallK.of (truth_has _ _) hK) rfl ?_
      refine ops_sl (s' := [_,_,_,_,_,_,_,_,_,_,_,_,_,_,_,_,_,_,_,_,_,_,_,_,_,_,_,_,_,_,_,_,_,_,_,_,_,_,_,_]) rfl (fun K hK => hK) rfl ?_
      refine ops_sl (s' := [_,_,_,_,_,_,_,_,_,_,_,_,_,_,_,_,_,_,_,_,_,_,_,_,_,_,_,_,_,_,_,_,_,_,_,_,_,_,_,_]) rfl (fun K hK => hK) rfl ?_
      refine ops_sl (s' := [_,_,_,_,_,_,_,_,_,_,_,_,_,_,_,_,_,_,_,_,_,_,_,_,_,_,_,_,_,_,_,_,_,_,_,_,_,_,_,_]) rfl (fun K hK => hK) rfl ?_
      refine ops_sl (s' := [_,_,_,_,_,_,_,_,_,_,_,_,_,_,_,_,_,_,_,_,_,_,_,_,_,_,_,_,_,_,_,_,_,_,_,_,_,_,_,_]) rfl (fun K hK => hK) rfl ?_
      repeat (first | apply RunP.seq | apply RunP.region | apply RunP.condT rfl | apply RunP.condF rfl | apply RunP.skip | apply RunP.block | apply RunP.exit | apply RunP.ret)
      exact ⟨rfl, _, rfl, rfl, by unfold orderedL; subst o12; rfl⟩
    · repeat (first | apply RunP.seq | apply RunP.region | apply RunP.condT rfl | apply RunP.condF rfl | apply RunP.skip | apply RunP.block | apply RunP.exit | apply RunP.ret)
      refine And.intro (fun o13 => ?_) (fun o13 => ?_)
      · repeat (first | apply RunP.seq | apply RunP.condT rfl | apply RunP.condF rfl | apply RunP.skip | apply RunP.block)
        refine RunP.regionR _ (fun K => rfl) ?_
        refine ops_sl (s' := [_,_,_,_,_,_,_,_,_,_,_,_,_,_,_,_,_,_,_,_,_,_,_,_,_,_,_,_,_,_,_,_,_,_,_,_,_,_,_,_]) rfl (fun K hK => hK) rfl ?_
        refine ops_sl (s' := [_,_,_,_,_,_,_,_,_,_,_,_,_,_,_,_,_,_,_,_,_,_,_,_,_,_,_,_,_,_,_,_,_,_,_,_,_,_,_,_]) rfl (fun K hK => cmpL hK) rfl ?_
        refine ops_sl (s' := [_,_,_,_,_,_,_,_,_,_,_,_,_,_,_,_,_,_,_,_,_,_,_,_,_,_,_,_,_,_,_,_,_,_,_,_,_,_,_,_]) rfl (fun K hK => CallK.of (truth_has _ _) hK) rfl ?_
        refine ops_sl (s' := [_,_,_,_,_,_,_,_,_,_,_,_,_,_,_,_,_,_,_,_,_,_,_,_,_,_,_,_,_,_,_,_,_,_,_,_,_,_,_,_]) rfl (fun K hK => hK) rfl ?_
        refine ops_sl (s' := [_,_,_,_,_,_,_,_,_,_,_,_,_,_,_,_,_,_,_,_,_,_,_,_,_,_,_,_,_,_,_,_,_,_,_,_,_,_,_,_]) rfl (fun K hK => hK) rfl ?_
        refine ops_sl (s' := [_,_,_,_,_,_,_,_,_,_,_,_,_,_,_,_,_,_,_,_,_,_,_,_,_,_,_,_,_,_,_,_,_,_,_,_,_,_,_,_]) rfl (fun K hK => hK) rfl ?_
        refine ops_sl (s' := [_,_,_,_,_,_,_,_,_,_,_,_,_,_,_,_,_,_,_,_,_,_,_,_,_,_,_,_,_,_,_,_,_,_,_,_,_,_,_,_]) rfl (fun K hK => hK) rfl ?_
        repeat (first | apply RunP.seq | apply RunP.region | apply RunP.condT rfl | apply RunP.condF rfl | apply RunP.skip | apply RunP.block | apply RunP.exit | apply RunP.ret)
        exact ⟨rfl, _, rfl, rfl, by unfold orderedL; subst o13; rfl⟩
      · repeat (first | apply RunP.seq | apply RunP.condT rfl | apply RunP.condF rfl | apply RunP.skip | apply RunP.block)
        refine RunP.regionR _ (fun K => rfl) ?_
        refine ops_sl (s' := [_,_,_,_,_,_,_,_,_,_,_,_,_,_,_,_,_,_,_,_,_,_,_,_,_,_,_,_,_,_,_,_,_,_,_,_,_,_,_,_]) rfl (fun K hK => hK) rfl ?_
        refine ops_sl (s' := [_,_,_,_,_,_,_,_,_,_,_,_,_,_,_,_,_,_,_,_,_,_,_,_,_,_,_,_,_,_,_,_,_,_,_,_,_,_,_,_]) rfl (fun K hK => cmpLe hK) rfl ?_
        refine ops_sl (s' := [_,_,_,_,_,_,_,_,_,_,_,_,_,_,_,_,_,_,_,_,_,_,_,_,_,_,_,_,_,_,_,_,_,_,_,_,_,_,_,_]) rfl (fun K hK => CallK.of (truth_has _ _) hK) rfl ?_
        refine ops_sl (s' := [_,_,_,_,_,_,_,_,_,_,_,_,_,_,_,_,_,_,_,_,_,_,_,_,_,_,_,_,_,_,_,_,_,_,_,_,_,_,_,_]) rfl (fun K hK => hK) rfl ?_
        refine ops_sl (s' := [_,_,_,_,_,_,_,_,_,_,_,_,_,_,_,_,_,_,_,_,_,_,_,_,_,_,_,_,_,_,_,_,_,_,_,_,_,_,_,_]) rfl (fun K hK => hK) rfl ?_
        refine ops_sl (s' := [_,_,_,_,_,_,_,_,_,_,_,_,_,_,_,_,_,_,_,_,_,_,_,_,_,_,_,_,_,_,_,_,_,_,_,_,_,_,_,_]) rfl (fun K hK => hK) rfl ?_
        refine ops_sl (s' := [_,_,_,_,_,_,_,_,_,_,_,_,_,_,_,_,_,_,_,_,_,_,_,_,_,_,_,_,_,_,_,_,_,_,_,_,_,_,_,_]) rfl (fun K hK => hK) rfl ?_
        repeat (first | apply RunP.seq | apply RunP.region | apply RunP.condT rfl | apply RunP.condF rfl | apply RunP.skip | apply RunP.block | apply RunP.exit | apply RunP.ret)
        exact ⟨rfl, _, rfl, rfl, by unfold orderedL; rw [if_neg o11, if_neg o12, if_neg o13]; rfl⟩
end Go.Proofs.YtkjhnpmgieplgaaGreatDoor

/- Operators: those of two numbers. -/

namespace Go.Proofs.YtkjhnpmgieplgaaGreatDoor
open Go.Sb
set_option maxRecDepth 100000

def maxL (a b : Int) : Int := if b > a then b else a
def productL (a b : Int) : Res := if 0 < maxL b (IntKind.i64.wrap (0 - b)) ∧ IntKind.i64.wrap (Int.tdiv 1000000000000 (maxL b (IntKind.i64.wrap (0 - b)))) < maxL a (IntKind.i64.wrap (0 - a)) then throwL bigT else numberL (IntKind.i64.wrap (a * b))
def quoL (a b : Int) : Res := if b = 0 then throwL zeroT else numberL (IntKind.i64.wrap (a.tdiv b))
def remL (a b : Int) : Res := if b = 0 then throwL zeroT else numberL (a.tmod b)

theorem quo_has (h : Heap) (a b : Int) (hb : b ≠ 0) : Has envQ .own 134 [.int .i64 a, .int .i64 b] h (.val (.int .i64 (IntKind.i64.wrap (a.tdiv b))) h) := by
  refine HasP.own (a := [.int .i64 a, .int .i64 b]) (d := fn134) rfl rfl rfl (of_decide_eq_true rfl) ?_
  repeat (first | apply RunP.seq | apply RunP.region | apply RunP.condT rfl | apply RunP.condF rfl | apply RunP.skip | apply RunP.block | apply RunP.exit | apply RunP.ret)
  refine And.intro rfl (And.intro hb ?_)
  repeat (first | apply RunP.seq | apply RunP.region | apply RunP.condT rfl | apply RunP.condF rfl | apply RunP.skip | apply RunP.block | apply RunP.exit | apply RunP.ret)
  exact ⟨rfl, rfl, rfl⟩

theorem rem_has (h : Heap) (a b : Int) (hb : b ≠ 0) : Has envQ .own 136 [.int .i64 a, .int .i64 b] h (.val (.int .i64 (a.tmod b)) h) := by
  refine HasP.own (a := [.int .i64 a, .int .i64 b]) (d := fn136) rfl rfl rfl (of_decide_eq_true rfl) ?_
  repeat (first | apply RunP.seq | apply RunP.region | apply RunP.condT rfl | apply RunP.condF rfl | apply RunP.skip | apply RunP.block | apply RunP.exit | apply RunP.ret)
  refine And.intro rfl (And.intro hb ?_)
  repeat (first | apply RunP.seq | apply RunP.region | apply RunP.condT rfl | apply RunP.condF rfl | apply RunP.skip | apply RunP.block | apply RunP.exit | apply RunP.ret)
  exact ⟨rfl, rfl, rfl⟩

theorem divQ_has (h : Heap) (a b : Int) : Has envQ .own 133 [.int .i64 a, .int .i64 b, .fn (.func 134) []] h (.val (rV (quoL a b)) h) := by
  refine HasP.own (a := [.int .i64 a, .int .i64 b, .fn (.func 134) []]) (d := fn133) rfl rfl rfl (of_decide_eq_true rfl) ?_
  unfold quoL
  repeat (first | apply RunP.seq | apply RunP.region | apply RunP.condT rfl | apply RunP.condF rfl | apply RunP.skip | apply RunP.block | apply RunP.exit | apply RunP.ret)
  refine And.intro (fun h0 => ?_) (fun h0 => ?_)
  · rw [if_pos h0]
    repeat (first | apply RunP.seq | apply RunP.region | apply RunP.condT rfl | apply RunP.condF rfl | apply RunP.skip | apply RunP.block | apply RunP.exit | apply RunP.ret)
    refine CallK.of (fault_has _ _) ?_
    repeat (first | apply RunP.seq | apply RunP.region | apply RunP.condT rfl | apply RunP.condF rfl | apply RunP.skip | apply RunP.block | apply RunP.exit | apply RunP.ret)
    exact ⟨rfl, rfl, rfl⟩
  · rw [if_neg h0]
    repeat (first | apply RunP.seq | apply RunP.region | apply RunP.condT rfl | apply RunP.condF rfl | apply RunP.skip | apply RunP.block | apply RunP.exit | apply RunP.ret)
    refine CallK.of (quo_has _ a b h0) ?_
    refine CallK.of (number_has _ _) ?_
    repeat (first | apply RunP.seq | apply RunP.region | apply RunP.condT rfl | apply RunP.condF rfl | apply RunP.skip | apply RunP.block | apply RunP.exit | apply RunP.ret)
    exact ⟨rfl, rfl, rfl⟩

theorem divR_has (h : Heap) (a b : Int) : Has envQ .own 133 [.int .i64 a, .int .i64 b, .fn (.func 136) []] h (.val (rV (remL a b)) h) := by
  refine HasP.own (a := [.int .i64 a, .int .i64 b, .fn (.func 136) []]) (d := fn133) rfl rfl rfl (of_decide_eq_true rfl) ?_
  unfold remL
  repeat (first | apply RunP.seq | apply RunP.region | apply RunP.condT rfl | apply RunP.condF rfl | apply RunP.skip | apply RunP.block | apply RunP.exit | apply RunP.ret)
  refine And.intro (fun h0 => ?_) (fun h0 => ?_)
  · rw [if_pos h0]
    repeat (first | apply RunP.seq | apply RunP.region | apply RunP.condT rfl | apply RunP.condF rfl | apply RunP.skip | apply RunP.block | apply RunP.exit | apply RunP.ret)
    refine CallK.of (fault_has _ _) ?_
    repeat (first | apply RunP.seq | apply RunP.region | apply RunP.condT rfl | apply RunP.condF rfl | apply RunP.skip | apply RunP.block | apply RunP.exit | apply RunP.ret)
    exact ⟨rfl, rfl, rfl⟩
  · rw [if_neg h0]
    repeat (first | apply RunP.seq | apply RunP.region | apply RunP.condT rfl | apply RunP.condF rfl | apply RunP.skip | apply RunP.block | apply RunP.exit | apply RunP.ret)
    refine CallK.of (rem_has _ a b h0) ?_
    refine CallK.of (number_has _ _) ?_
    repeat (first | apply RunP.seq | apply RunP.region | apply RunP.condT rfl | apply RunP.condF rfl | apply RunP.skip | apply RunP.block | apply RunP.exit | apply RunP.ret)
    exact ⟨rfl, rfl, rfl⟩

theorem opAdd_has (h : Heap) (a b : Int) : Has envQ .own 129 [.int .i64 a, .int .i64 b] h (.val (rV (numberL (IntKind.i64.wrap (a + b)))) h) := by
  refine HasP.own (a := [.int .i64 a, .int .i64 b]) (d := fn129) rfl rfl rfl (of_decide_eq_true rfl) ?_
  repeat (first | apply RunP.seq | apply RunP.region | apply RunP.condT rfl | apply RunP.condF rfl | apply RunP.skip | apply RunP.block | apply RunP.exit | apply RunP.ret)
  refine CallK.of (number_has _ _) ?_
  repeat (first | apply RunP.seq | apply RunP.region | apply RunP.condT rfl | apply RunP.condF rfl | apply RunP.skip | apply RunP.block | apply RunP.exit | apply RunP.ret)
  exact ⟨rfl, rfl, rfl⟩

theorem opSub_has (h : Heap) (a b : Int) : Has envQ .own 130 [.int .i64 a, .int .i64 b] h (.val (rV (numberL (IntKind.i64.wrap (a - b)))) h) := by
  refine HasP.own (a := [.int .i64 a, .int .i64 b]) (d := fn130) rfl rfl rfl (of_decide_eq_true rfl) ?_
  repeat (first | apply RunP.seq | apply RunP.region | apply RunP.condT rfl | apply RunP.condF rfl | apply RunP.skip | apply RunP.block | apply RunP.exit | apply RunP.ret)
  refine CallK.of (number_has _ _) ?_
  repeat (first | apply RunP.seq | apply RunP.region | apply RunP.condT rfl | apply RunP.condF rfl | apply RunP.skip | apply RunP.block | apply RunP.exit | apply RunP.ret)
  exact ⟨rfl, rfl, rfl⟩

theorem opQuo_has (h : Heap) (a b : Int) : Has envQ .own 132 [.int .i64 a, .int .i64 b] h (.val (rV (quoL a b)) h) := by
  refine HasP.own (a := [.int .i64 a, .int .i64 b]) (d := fn132) rfl rfl rfl (of_decide_eq_true rfl) ?_
  repeat (first | apply RunP.seq | apply RunP.region | apply RunP.condT rfl | apply RunP.condF rfl | apply RunP.skip | apply RunP.block | apply RunP.exit | apply RunP.ret)
  refine CallK.of (divQ_has _ a b) ?_
  repeat (first | apply RunP.seq | apply RunP.region | apply RunP.condT rfl | apply RunP.condF rfl | apply RunP.skip | apply RunP.block | apply RunP.exit | apply RunP.ret)
  exact ⟨rfl, rfl, rfl⟩

theorem opRem_has (h : Heap) (a b : Int) : Has envQ .own 135 [.int .i64 a, .int .i64 b] h (.val (rV (remL a b)) h) := by
  refine HasP.own (a := [.int .i64 a, .int .i64 b]) (d := fn135) rfl rfl rfl (of_decide_eq_true rfl) ?_
  repeat (first | apply RunP.seq | apply RunP.region | apply RunP.condT rfl | apply RunP.condF rfl | apply RunP.skip | apply RunP.block | apply RunP.exit | apply RunP.ret)
  refine CallK.of (divR_has _ a b) ?_
  repeat (first | apply RunP.seq | apply RunP.region | apply RunP.condT rfl | apply RunP.condF rfl | apply RunP.skip | apply RunP.block | apply RunP.exit | apply RunP.ret)
  exact ⟨rfl, rfl, rfl⟩

set_option maxHeartbeats 2000000 in
theorem opMul_has (h : Heap) (a b : Int) : Has envQ .own 131 [.int .i64 a, .int .i64 b] h (.val (rV (productL a b)) h) := by
  suffices hx : ∃ v, Has envQ .own 131 [.int .i64 a, .int .i64 b] h (.val v h) ∧ v = rV (productL a b) by
    obtain ⟨v, h1, rfl⟩ := hx; exact h1
  refine HasP.ownE (a := [.int .i64 a, .int .i64 b]) (d := fn131) rfl rfl rfl (of_decide_eq_true rfl) ?_
  repeat (first | apply RunP.seq | apply RunP.region | apply RunP.condT rfl | apply RunP.condF rfl | apply RunP.skip | apply RunP.block | apply RunP.exit | apply RunP.ret)
  refine And.intro (fun h0 => ?_) (fun h0 => ?_)
  · refine And.intro rfl (And.intro (by omega) ?_)
    refine And.intro (fun h1 => ?_) (fun h1 => ?_)
    · repeat (first | apply RunP.seq | apply RunP.region | apply RunP.condT rfl | apply RunP.condF rfl | apply RunP.skip | apply RunP.block | apply RunP.exit | apply RunP.ret)
      refine CallK.of (fault_has _ _) ?_
      repeat (first | apply RunP.seq | apply RunP.region | apply RunP.condT rfl | apply RunP.condF rfl | apply RunP.skip | apply RunP.block | apply RunP.exit | apply RunP.ret)
      exact ⟨rfl, _, rfl, rfl, by unfold productL maxL; rw [if_pos ⟨h0, h1⟩]; rfl⟩
    · repeat (first | apply RunP.seq | apply RunP.region | apply RunP.condT rfl | apply RunP.condF rfl | apply RunP.skip | apply RunP.block | apply RunP.exit | apply RunP.ret)
      refine CallK.of (number_has _ _) ?_
      repeat (first | apply RunP.seq | apply RunP.region | apply RunP.condT rfl | apply RunP.condF rfl | apply RunP.skip | apply RunP.block | apply RunP.exit | apply RunP.ret)
      exact ⟨rfl, _, rfl, rfl, by unfold productL maxL; rw [if_neg (fun q => absurd q.2 (Int.not_lt.2 h1))]; rfl⟩
  · repeat (first | apply RunP.seq | apply RunP.region | apply RunP.condT rfl | apply RunP.condF rfl | apply RunP.skip | apply RunP.block | apply RunP.exit | apply RunP.ret)
    refine CallK.of (number_has _ _) ?_
    repeat (first | apply RunP.seq | apply RunP.region | apply RunP.condT rfl | apply RunP.condF rfl | apply RunP.skip | apply RunP.block | apply RunP.exit | apply RunP.ret)
    exact ⟨rfl, _, rfl, rfl, by unfold productL maxL; rw [if_neg (fun q => absurd q.1 (Int.not_lt.2 h0))]; rfl⟩
/-- The operators of two numbers. -/
def ops5 : List (V × V) := [(.int .i64 15, .fn (.func 129) []), (.int .i64 16, .fn (.func 130) []), (.int .i64 17, .fn (.func 131) []), (.int .i64 18, .fn (.func 132) []), (.int .i64 19, .fn (.func 135) [])]
theorem numbers_has (h : Heap) : ∃ v g, Has envQ .shared 89 [] h (.val v g) ∧ v = .mp h.length ∧ g = Sb.push h (.map ops5) := by
  refine HasP.sharedE (d := fn89) rfl (of_decide_eq_true rfl) ?_
  apply RunP.seq
  apply RunP.region
  apply RunP.seq
  refine RunP.regionR _ (fun K => rfl) ?_
  refine runOps_mk (E := envQ) rfl rfl ?_
  refine runOps_ins (map_last (E := envQ) rfl rfl rfl rfl rfl) ?_
  refine runOps_ins (map_last (E := envQ) rfl rfl rfl rfl rfl) ?_
  refine runOps_ins (map_last (E := envQ) rfl rfl rfl rfl rfl) ?_
  refine runOps_ins (map_last (E := envQ) rfl rfl rfl rfl rfl) ?_
  refine runOps_ins (map_last (E := envQ) rfl rfl rfl rfl rfl) ?_
  repeat (first | apply RunP.seq | apply RunP.region | apply RunP.condT rfl | apply RunP.condF rfl | apply RunP.skip | apply RunP.block | apply RunP.exit | apply RunP.ret)
  exact ⟨rfl, rfl, rfl⟩
/-- What an operator makes of two numbers. -/
def arithL (op a b : Int) : Res := if op = 15 then numberL (IntKind.i64.wrap (a + b)) else if op = 16 then numberL (IntKind.i64.wrap (a - b)) else if op = 17 then productL a b else if op = 18 then quoL a b else remL a b
end Go.Proofs.YtkjhnpmgieplgaaGreatDoor
