/- Operators: Unary; the reference's Unary, order, times, Result. -/
import Derived.Test.YtkjhnpmgieplgaaGreatDoorSbOp5
set_option linter.unusedVariables false
set_option linter.unusedSimpArgs false
namespace Go.Proofs.YtkjhnpmgieplgaaGreatDoor
open Go.Sb
set_option maxRecDepth 100000

def unaryL (op : Int) (v : Int × Int × List UInt8) : Res := if op = 5 ∧ v.1 = 2 then truthL (decide (v.2.1 = 0)) else if op = 6 ∧ v.1 = 1 then numberL (IntKind.i64.wrap (0 - v.2.1)) else throwL kindT

set_option maxHeartbeats 2000000 in
theorem unary_has (h : Heap) (op kv nv : Int) (sv : List UInt8) : Has envQ .own 57 [.int .i64 op, .agg [.int .i64 kv, .int .i64 nv, .str sv]] h (.val (rV (unaryL op (kv, nv, sv))) h) := by
  suffices hx : ∃ v, Has envQ .own 57 [.int .i64 op, .agg [.int .i64 kv, .int .i64 nv, .str sv]] h (.val v h) ∧ v = rV (unaryL op (kv, nv, sv)) by
    obtain ⟨v, h1, rfl⟩ := hx; exact h1
  refine HasP.ownE (a := [.int .i64 op, .agg [.int .i64 kv, .int .i64 nv, .str sv]]) (d := fn57) rfl rfl rfl (of_decide_eq_true rfl) ?_
  by_cases h5 : op = 5
  · have h6 : ¬ op = 6 := by omega
    by_cases k2 : kv = 2
    · by_cases n0 : nv = 0
      · skip
        have hb : unaryL op (kv, nv, sv) = truthL true := by unfold unaryL; simp [h5, k2, n0]
        repeat (first | apply RunP.seq | apply RunP.region | apply RunP.condT rfl | apply RunP.condF rfl | apply RunP.skip | apply RunP.block | apply RunP.exit | apply RunP.ret | refine And.intro (fun w => absurd w (by first | assumption | decide)) (fun _ => ?_) | refine And.intro (fun _ => ?_) (fun w => absurd w (by first | assumption | decide)) | refine And.intro (fun _ => ?_) (fun w => absurd (by first | assumption | rfl) w))
        refine CallK.of (truth_has _ true) ?_
        repeat (first | apply RunP.seq | apply RunP.region | apply RunP.condT rfl | apply RunP.condF rfl | apply RunP.skip | apply RunP.block | apply RunP.exit | apply RunP.ret | refine And.intro (fun w => absurd w (by first | assumption | decide)) (fun _ => ?_) | refine And.intro (fun _ => ?_) (fun w => absurd w (by first | assumption | decide)) | refine And.intro (fun _ => ?_) (fun w => absurd (by first | assumption | rfl) w))
        exact ⟨rfl, _, rfl, rfl, (congrArg rV hb).symm⟩
      · skip
        have hb : unaryL op (kv, nv, sv) = truthL false := by unfold unaryL; simp [h5, k2, n0]
        repeat (first | apply RunP.seq | apply RunP.region | apply RunP.condT rfl | apply RunP.condF rfl | apply RunP.skip | apply RunP.block | apply RunP.exit | apply RunP.ret | refine And.intro (fun w => absurd w (by first | assumption | decide)) (fun _ => ?_) | refine And.intro (fun _ => ?_) (fun w => absurd w (by first | assumption | decide)) | refine And.intro (fun _ => ?_) (fun w => absurd (by first | assumption | rfl) w))
        refine CallK.of (truth_has _ false) ?_
        repeat (first | apply RunP.seq | apply RunP.region | apply RunP.condT rfl | apply RunP.condF rfl | apply RunP.skip | apply RunP.block | apply RunP.exit | apply RunP.ret | refine And.intro (fun w => absurd w (by first | assumption | decide)) (fun _ => ?_) | refine And.intro (fun _ => ?_) (fun w => absurd w (by first | assumption | decide)) | refine And.intro (fun _ => ?_) (fun w => absurd (by first | assumption | rfl) w))
        exact ⟨rfl, _, rfl, rfl, (congrArg rV hb).symm⟩
    · skip
      have hb : unaryL op (kv, nv, sv) = throwL kindT := by unfold unaryL; simp [h5, k2]
      repeat (first | apply RunP.seq | apply RunP.region | apply RunP.condT rfl | apply RunP.condF rfl | apply RunP.skip | apply RunP.block | apply RunP.exit | apply RunP.ret | refine And.intro (fun w => absurd w (by first | assumption | decide)) (fun _ => ?_) | refine And.intro (fun _ => ?_) (fun w => absurd w (by first | assumption | decide)) | refine And.intro (fun _ => ?_) (fun w => absurd (by first | assumption | rfl) w))
      refine CallK.of (wrong_has _) ?_
      repeat (first | apply RunP.seq | apply RunP.region | apply RunP.condT rfl | apply RunP.condF rfl | apply RunP.skip | apply RunP.block | apply RunP.exit | apply RunP.ret | refine And.intro (fun w => absurd w (by first | assumption | decide)) (fun _ => ?_) | refine And.intro (fun _ => ?_) (fun w => absurd w (by first | assumption | decide)) | refine And.intro (fun _ => ?_) (fun w => absurd (by first | assumption | rfl) w))
      exact ⟨rfl, _, rfl, rfl, (congrArg rV hb).symm⟩
  · by_cases h6 : op = 6
    · by_cases k1 : kv = 1
      · skip
        have hb : unaryL op (kv, nv, sv) = numberL (IntKind.i64.wrap (0 - nv)) := by unfold unaryL; simp [h6, k1]
        repeat (first | apply RunP.seq | apply RunP.region | apply RunP.condT rfl | apply RunP.condF rfl | apply RunP.skip | apply RunP.block | apply RunP.exit | apply RunP.ret | refine And.intro (fun w => absurd w (by first | assumption | decide)) (fun _ => ?_) | refine And.intro (fun _ => ?_) (fun w => absurd w (by first | assumption | decide)) | refine And.intro (fun _ => ?_) (fun w => absurd (by first | assumption | rfl) w))
        refine CallK.of (number_has _ _) ?_
        repeat (first | apply RunP.seq | apply RunP.region | apply RunP.condT rfl | apply RunP.condF rfl | apply RunP.skip | apply RunP.block | apply RunP.exit | apply RunP.ret | refine And.intro (fun w => absurd w (by first | assumption | decide)) (fun _ => ?_) | refine And.intro (fun _ => ?_) (fun w => absurd w (by first | assumption | decide)) | refine And.intro (fun _ => ?_) (fun w => absurd (by first | assumption | rfl) w))
        exact ⟨rfl, _, rfl, rfl, (congrArg rV hb).symm⟩
      · skip
        have hb : unaryL op (kv, nv, sv) = throwL kindT := by unfold unaryL; simp [h6, k1]
        repeat (first | apply RunP.seq | apply RunP.region | apply RunP.condT rfl | apply RunP.condF rfl | apply RunP.skip | apply RunP.block | apply RunP.exit | apply RunP.ret | refine And.intro (fun w => absurd w (by first | assumption | decide)) (fun _ => ?_) | refine And.intro (fun _ => ?_) (fun w => absurd w (by first | assumption | decide)) | refine And.intro (fun _ => ?_) (fun w => absurd (by first | assumption | rfl) w))
        refine CallK.of (wrong_has _) ?_
        repeat (first | apply RunP.seq | apply RunP.region | apply RunP.condT rfl | apply RunP.condF rfl | apply RunP.skip | apply RunP.block | apply RunP.exit | apply RunP.ret | refine And.intro (fun w => absurd w (by first | assumption | decide)) (fun _ => ?_) | refine And.intro (fun _ => ?_) (fun w => absurd w (by first | assumption | decide)) | refine And.intro (fun _ => ?_) (fun w => absurd (by first | assumption | rfl) w))
        exact ⟨rfl, _, rfl, rfl, (congrArg rV hb).symm⟩
    · skip
      have hb : unaryL op (kv, nv, sv) = throwL kindT := by unfold unaryL; simp [h5, h6]
      repeat (first | apply RunP.seq | apply RunP.region | apply RunP.condT rfl | apply RunP.condF rfl | apply RunP.skip | apply RunP.block | apply RunP.exit | apply RunP.ret | refine And.intro (fun w => absurd w (by first | assumption | decide)) (fun _ => ?_) | refine And.intro (fun _ => ?_) (fun w => absurd w (by first | assumption | decide)) | refine And.intro (fun _ => ?_) (fun w => absurd (by first | assumption | rfl) w))
      refine CallK.of (wrong_has _) ?_
      repeat (first | apply RunP.seq | apply RunP.region | apply RunP.condT rfl | apply RunP.condF rfl | apply RunP.skip | apply RunP.block | apply RunP.exit | apply RunP.ret | refine And.intro (fun w => absurd w (by first | assumption | decide)) (fun _ => ?_) | refine And.intro (fun _ => ?_) (fun w => absurd w (by first | assumption | decide)) | refine And.intro (fun _ => ?_) (fun w => absurd (by first | assumption | rfl) w))
      exact ⟨rfl, _, rfl, rfl, (congrArg rV hb).symm⟩

set_option maxHeartbeats 2000000 in
theorem refUnary_has (h : Heap) (op kv nv : Int) (sv : List UInt8) : Has envQ .own 28 [.int .i64 op, .agg [.int .i64 kv, .int .i64 nv, .str sv]] h (.val (rV (unaryL op (kv, nv, sv))) h) := by
  suffices hx : ∃ v, Has envQ .own 28 [.int .i64 op, .agg [.int .i64 kv, .int .i64 nv, .str sv]] h (.val v h) ∧ v = rV (unaryL op (kv, nv, sv)) by
    obtain ⟨v, h1, rfl⟩ := hx; exact h1
  refine HasP.ownE (a := [.int .i64 op, .agg [.int .i64 kv, .int .i64 nv, .str sv]]) (d := fn28) rfl rfl rfl (of_decide_eq_true rfl) ?_
  by_cases h5 : op = 5
  · have h6 : ¬ op = 6 := by omega
    by_cases k2 : kv = 2
    · by_cases n0 : nv = 0
      · skip
        have hb : unaryL op (kv, nv, sv) = truthL true := by unfold unaryL; simp [h5, k2, n0]
        repeat (first | apply RunP.seq | apply RunP.region | apply RunP.condT rfl | apply RunP.condF rfl | apply RunP.skip | apply RunP.block | apply RunP.exit | apply RunP.ret | refine And.intro (fun w => absurd w (by first | assumption | decide)) (fun _ => ?_) | refine And.intro (fun _ => ?_) (fun w => absurd w (by first | assumption | decide)) | refine And.intro (fun _ => ?_) (fun w => absurd (by first | assumption | rfl) w))
        refine CallK.of (refTruth_has _ true) ?_
        repeat (first | apply RunP.seq | apply RunP.region | apply RunP.condT rfl | apply RunP.condF rfl | apply RunP.skip | apply RunP.block | apply RunP.exit | apply RunP.ret | refine And.intro (fun w => absurd w (by first | assumption | decide)) (fun _ => ?_) | refine And.intro (fun _ => ?_) (fun w => absurd w (by first | assumption | decide)) | refine And.intro (fun _ => ?_) (fun w => absurd (by first | assumption | rfl) w))
        exact ⟨rfl, _, rfl, rfl, (congrArg rV hb).symm⟩
      · skip
        have hb : unaryL op (kv, nv, sv) = truthL false := by unfold unaryL; simp [h5, k2, n0]
        repeat (first | apply RunP.seq | apply RunP.region | apply RunP.condT rfl | apply RunP.condF rfl | apply RunP.skip | apply RunP.block | apply RunP.exit | apply RunP.ret | refine And.intro (fun w => absurd w (by first | assumption | decide)) (fun _ => ?_) | refine And.intro (fun _ => ?_) (fun w => absurd w (by first | assumption | decide)) | refine And.intro (fun _ => ?_) (fun w => absurd (by first | assumption | rfl) w))
        refine CallK.of (refTruth_has _ false) ?_
        repeat (first | apply RunP.seq | apply RunP.region | apply RunP.condT rfl | apply RunP.condF rfl | apply RunP.skip | apply RunP.block | apply RunP.exit | apply RunP.ret | refine And.intro (fun w => absurd w (by first | assumption | decide)) (fun _ => ?_) | refine And.intro (fun _ => ?_) (fun w => absurd w (by first | assumption | decide)) | refine And.intro (fun _ => ?_) (fun w => absurd (by first | assumption | rfl) w))
        exact ⟨rfl, _, rfl, rfl, (congrArg rV hb).symm⟩
    · skip
      have hb : unaryL op (kv, nv, sv) = throwL kindT := by unfold unaryL; simp [h5, k2]
      repeat (first | apply RunP.seq | apply RunP.region | apply RunP.condT rfl | apply RunP.condF rfl | apply RunP.skip | apply RunP.block | apply RunP.exit | apply RunP.ret | refine And.intro (fun w => absurd w (by first | assumption | decide)) (fun _ => ?_) | refine And.intro (fun _ => ?_) (fun w => absurd w (by first | assumption | decide)) | refine And.intro (fun _ => ?_) (fun w => absurd (by first | assumption | rfl) w))
      refine CallK.of (throw_has _ _) ?_
      repeat (first | apply RunP.seq | apply RunP.region | apply RunP.condT rfl | apply RunP.condF rfl | apply RunP.skip | apply RunP.block | apply RunP.exit | apply RunP.ret | refine And.intro (fun w => absurd w (by first | assumption | decide)) (fun _ => ?_) | refine And.intro (fun _ => ?_) (fun w => absurd w (by first | assumption | decide)) | refine And.intro (fun _ => ?_) (fun w => absurd (by first | assumption | rfl) w))
      exact ⟨rfl, _, rfl, rfl, (congrArg rV hb).symm⟩
  · by_cases h6 : op = 6
    · by_cases k1 : kv = 1
      · skip
        have hb : unaryL op (kv, nv, sv) = numberL (IntKind.i64.wrap (0 - nv)) := by unfold unaryL; simp [h6, k1]
        repeat (first | apply RunP.seq | apply RunP.region | apply RunP.condT rfl | apply RunP.condF rfl | apply RunP.skip | apply RunP.block | apply RunP.exit | apply RunP.ret | refine And.intro (fun w => absurd w (by first | assumption | decide)) (fun _ => ?_) | refine And.intro (fun _ => ?_) (fun w => absurd w (by first | assumption | decide)) | refine And.intro (fun _ => ?_) (fun w => absurd (by first | assumption | rfl) w))
        refine CallK.of (refNumber_has _ _) ?_
        repeat (first | apply RunP.seq | apply RunP.region | apply RunP.condT rfl | apply RunP.condF rfl | apply RunP.skip | apply RunP.block | apply RunP.exit | apply RunP.ret | refine And.intro (fun w => absurd w (by first | assumption | decide)) (fun _ => ?_) | refine And.intro (fun _ => ?_) (fun w => absurd w (by first | assumption | decide)) | refine And.intro (fun _ => ?_) (fun w => absurd (by first | assumption | rfl) w))
        exact ⟨rfl, _, rfl, rfl, (congrArg rV hb).symm⟩
      · skip
        have hb : unaryL op (kv, nv, sv) = throwL kindT := by unfold unaryL; simp [h6, k1]
        repeat (first | apply RunP.seq | apply RunP.region | apply RunP.condT rfl | apply RunP.condF rfl | apply RunP.skip | apply RunP.block | apply RunP.exit | apply RunP.ret | refine And.intro (fun w => absurd w (by first | assumption | decide)) (fun _ => ?_) | refine And.intro (fun _ => ?_) (fun w => absurd w (by first | assumption | decide)) | refine And.intro (fun _ => ?_) (fun w => absurd (by first | assumption | rfl) w))
        refine CallK.of (throw_has _ _) ?_
        repeat (first | apply RunP.seq | apply RunP.region | apply RunP.condT rfl | apply RunP.condF rfl | apply RunP.skip | apply RunP.block | apply RunP.exit | apply RunP.ret | refine And.intro (fun w => absurd w (by first | assumption | decide)) (fun _ => ?_) | refine And.intro (fun _ => ?_) (fun w => absurd w (by first | assumption | decide)) | refine And.intro (fun _ => ?_) (fun w => absurd (by first | assumption | rfl) w))
        exact ⟨rfl, _, rfl, rfl, (congrArg rV hb).symm⟩
    · skip
      have hb : unaryL op (kv, nv, sv) = throwL kindT := by unfold unaryL; simp [h5, h6]
      repeat (first | apply RunP.seq | apply RunP.region | apply RunP.condT rfl | apply RunP.condF rfl | apply RunP.skip | apply RunP.block | apply RunP.exit | apply RunP.ret | refine And.intro (fun w => absurd w (by first | assumption | decide)) (fun _ => ?_) | refine And.intro (fun _ => ?_) (fun w => absurd w (by first | assumption | decide)) | refine And.intro (fun _ => ?_) (fun w => absurd (by first | assumption | rfl) w))
      refine CallK.of (throw_has _ _) ?_
      repeat (first | apply RunP.seq | apply RunP.region | apply RunP.condT rfl | apply RunP.condF rfl | apply RunP.skip | apply RunP.block | apply RunP.exit | apply RunP.ret | refine And.intro (fun w => absurd w (by first | assumption | decide)) (fun _ => ?_) | refine And.intro (fun _ => ?_) (fun w => absurd w (by first | assumption | decide)) | refine And.intro (fun _ => ?_) (fun w => absurd (by first | assumption | rfl) w))
      exact ⟨rfl, _, rfl, rfl, (congrArg rV hb).symm⟩

theorem isUn_has (h : Heap) (op : Int) : Has envQ .own 27 [.int .i64 op] h (.val (.bool (decide (op = 5 ∨ op = 6))) h) := by
  suffices hx : ∃ v, Has envQ .own 27 [.int .i64 op] h (.val v h) ∧ v = .bool (decide (op = 5 ∨ op = 6)) by
    obtain ⟨v, h1, rfl⟩ := hx; exact h1
  refine HasP.ownE (a := [.int .i64 op]) (d := fn27) rfl rfl rfl (of_decide_eq_true rfl) ?_
  by_cases h5 : op = 5
  · repeat (first | apply RunP.seq | apply RunP.region | apply RunP.condT rfl | apply RunP.condF rfl | apply RunP.skip | apply RunP.block | apply RunP.exit | apply RunP.ret | refine And.intro (fun w => absurd w (by first | assumption | decide)) (fun _ => ?_) | refine And.intro (fun _ => ?_) (fun w => absurd w (by first | assumption | decide)) | refine And.intro (fun _ => ?_) (fun w => absurd (by first | assumption | rfl) w))
    exact ⟨rfl, _, rfl, rfl, vY (.inl h5)⟩
  · by_cases h6 : op = 6
    · repeat (first | apply RunP.seq | apply RunP.region | apply RunP.condT rfl | apply RunP.condF rfl | apply RunP.skip | apply RunP.block | apply RunP.exit | apply RunP.ret | refine And.intro (fun w => absurd w (by first | assumption | decide)) (fun _ => ?_) | refine And.intro (fun _ => ?_) (fun w => absurd w (by first | assumption | decide)) | refine And.intro (fun _ => ?_) (fun w => absurd (by first | assumption | rfl) w))
      exact ⟨rfl, _, rfl, rfl, vY (.inr h6)⟩
    · repeat (first | apply RunP.seq | apply RunP.region | apply RunP.condT rfl | apply RunP.condF rfl | apply RunP.skip | apply RunP.block | apply RunP.exit | apply RunP.ret | refine And.intro (fun w => absurd w (by first | assumption | decide)) (fun _ => ?_) | refine And.intro (fun _ => ?_) (fun w => absurd w (by first | assumption | decide)) | refine And.intro (fun _ => ?_) (fun w => absurd (by first | assumption | rfl) w))
      exact ⟨rfl, _, rfl, rfl, vN (by omega)⟩
theorem isBin_has (h : Heap) (op : Int) : Has envQ .own 29 [.int .i64 op] h (.val (.bool (decide (7 ≤ op ∧ op ≤ 19))) h) := by
  suffices hx : ∃ v, Has envQ .own 29 [.int .i64 op] h (.val v h) ∧ v = .bool (decide (7 ≤ op ∧ op ≤ 19)) by
    obtain ⟨v, h1, rfl⟩ := hx; exact h1
  refine HasP.ownE (a := [.int .i64 op]) (d := fn29) rfl rfl rfl (of_decide_eq_true rfl) ?_
  repeat (first | apply RunP.seq | apply RunP.region | apply RunP.condT rfl | apply RunP.condF rfl | apply RunP.skip | apply RunP.block | apply RunP.exit | apply RunP.ret)
  refine And.intro (fun h7 => ?_) (fun h7 => ?_)
  · refine And.intro (fun h8 => ?_) (fun h8 => ?_)
    · repeat (first | apply RunP.seq | apply RunP.region | apply RunP.condT rfl | apply RunP.condF rfl | apply RunP.skip | apply RunP.block | apply RunP.exit | apply RunP.ret)
      exact ⟨rfl, _, rfl, rfl, vY ⟨h7, h8⟩⟩
    · repeat (first | apply RunP.seq | apply RunP.region | apply RunP.condT rfl | apply RunP.condF rfl | apply RunP.skip | apply RunP.block | apply RunP.exit | apply RunP.ret)
      exact ⟨rfl, _, rfl, rfl, vN (by omega)⟩
  · repeat (first | apply RunP.seq | apply RunP.region | apply RunP.condT rfl | apply RunP.condF rfl | apply RunP.skip | apply RunP.block | apply RunP.exit | apply RunP.ret)
    exact ⟨rfl, _, rfl, rfl, vN (by omega)⟩
/-- What Unary answers. -/
def unaryV (op : Int) (v : Int × Int × List UInt8) : V :=
  if (op = 5 ∨ op = 6) ∧ ValidP v.1 v.2.1 v.2.2 then .tup [vV (unaryL op v).1, fV (unaryL op v).2, .int .i64 0] else .tup [vV zV, fV noF, .int .i64 2]

set_option maxHeartbeats 4000000 in
theorem Unary_has (h : Heap) (op kv nv : Int) (sv : List UInt8) (hsv : sv.length ≤ 9223372036854775807) : Has envQ .own 26 [.int .i64 op, .agg [.int .i64 kv, .int .i64 nv, .str sv]] h (.val (unaryV op (kv, nv, sv)) h) := by
  suffices hx : ∃ v, Has envQ .own 26 [.int .i64 op, .agg [.int .i64 kv, .int .i64 nv, .str sv]] h (.val v h) ∧ v = unaryV op (kv, nv, sv) by
    obtain ⟨v, h1, rfl⟩ := hx; exact h1
  refine HasP.ownE (a := [.int .i64 op, .agg [.int .i64 kv, .int .i64 nv, .str sv]]) (d := fn26) rfl rfl rfl (of_decide_eq_true rfl) ?_
  have hV := fun g => evValid_has g kv nv sv hsv
  apply RunP.seq
  apply RunP.region
  by_cases hv : ValidP kv nv sv
  · simp only [decide_eq_true hv] at hV
    by_cases h5 : op = 5
    · skip
      repeat (first | apply RunP.seq | apply RunP.condT rfl | apply RunP.condF rfl | apply RunP.skip | apply RunP.block)
      refine RunP.regionR _ (fun K => rfl) ?_
      refine ops_sl (s' := [_,_,_,_,_,_,_,_,_,_,_,_,_,_,_,_,_,_,_,_,_,_,_,_,_,_,_,_,_,_,_]) rfl (fun K hK => hK) rfl ?_
      refine ops_sl (s' := [_,_,_,_,_,_,_,_,_,_,_,_,_,_,_,_,_,_,_,_,_,_,_,_,_,_,_,_,_,_,_]) rfl (fun K hK => And.intro (fun _ => hK) (fun w => absurd h5 w)) rfl ?_
      refine ops_sl (s' := [_,_,_,_,_,_,_,_,_,_,_,_,_,_,_,_,_,_,_,_,_,_,_,_,_,_,_,_,_,_,_]) rfl (fun K hK => hK) rfl ?_
      refine ops_nl (s' := [_,_,_,_,_,_,_,_,_,_,_,_,_,_,_,_,_,_,_,_,_,_,_,_,_,_,_,_,_,_,_]) rfl rfl rfl rfl ?_
      refine ops_nl (s' := [_,_,_,_,_,_,_,_,_,_,_,_,_,_,_,_,_,_,_,_,_,_,_,_,_,_,_,_,_,_,_]) rfl rfl rfl rfl ?_
      refine ops_sl (s' := [_,_,_,_,_,_,_,_,_,_,_,_,_,_,_,_,_,_,_,_,_,_,_,_,_,_,_,_,_,_,_]) rfl (fun K hK => hK) rfl ?_
      refine ops_sl (s' := [_,_,_,_,_,_,_,_,_,_,_,_,_,_,_,_,_,_,_,_,_,_,_,_,_,_,_,_,_,_,_]) rfl (fun K hK => hK) rfl ?_
      refine ops_yl (s' := [_,_,_,_,_,_,_,_,_,_,_,_,_,_,_,_,_,_,_,_,_,_,_,_,_,_,_,_,_,_,_]) rfl rfl (fun K hK => hK) rfl ?_
      refine ops_yl (s' := [_,_,_,_,_,_,_,_,_,_,_,_,_,_,_,_,_,_,_,_,_,_,_,_,_,_,_,_,_,_,_]) rfl rfl (fun K hK => CallK.of (hV _) hK) rfl ?_
      refine ops_yl (s' := [_,_,_,_,_,_,_,_,_,_,_,_,_,_,_,_,_,_,_,_,_,_,_,_,_,_,_,_,_,_,_]) rfl rfl (fun K hK => hK) rfl ?_
      refine ops_sl (s' := [_,_,_,_,_,_,_,_,_,_,_,_,_,_,_,_,_,_,_,_,_,_,_,_,_,_,_,_,_,_,_]) rfl (fun K hK => hK) rfl ?_
      repeat (first | apply RunP.seq | apply RunP.region | apply RunP.condT rfl | apply RunP.condF rfl | apply RunP.skip | apply RunP.block | apply RunP.exit | apply RunP.ret)
      refine CallK.of (unary_has _ op kv nv sv) ?_
      have hb : unaryV op (kv, nv, sv) = .tup [vV (unaryL op (kv, nv, sv)).1, fV (unaryL op (kv, nv, sv)).2, .int .i64 0] := by unfold unaryV; rw [if_pos ⟨by omega, hv⟩]
      rw [hb]
      generalize unaryL op (kv, nv, sv) = r
      repeat (first | apply RunP.seq | apply RunP.condT rfl | apply RunP.condF rfl | apply RunP.skip | apply RunP.block)
      refine RunP.drawnR _ (by decide +kernel) (fun K => rfl) ?_
      refine draw_rl (s' := [_,_,_,_,_,_,_,_,_,_,_,_,_,_,_,_,_,_,_,_,_,_,_,_,_,_,_,_,_,_,_]) rfl (fun K hK => hK) (by decide +kernel) rfl ?_
      refine draw_rl (s' := [_,_,_,_,_,_,_,_,_,_,_,_,_,_,_,_,_,_,_,_,_,_,_,_,_,_,_,_,_,_,_]) rfl (fun K hK => hK) (by decide +kernel) rfl ?_
      refine draw_g (s' := [_,_,_,_,_,_,_,_,_,_,_,_,_,_,_,_,_,_,_,_,_,_,_,_,_,_,_,_,_,_,_]) rfl (fun K hK => hK) (by decide +kernel) (acc_still (StillK.of rfl) (acc_bound (by decide +kernel) trivial)) rfl ?_
      refine draw_g (s' := [_,_,_,_,_,_,_,_,_,_,_,_,_,_,_,_,_,_,_,_,_,_,_,_,_,_,_,_,_,_,_]) rfl (fun K hK => hK) (by decide +kernel) (acc_bound (by decide +kernel) (acc_bound (by decide +kernel) trivial)) rfl ?_
      refine draw_zl (s' := [_,_,_,_,_,_,_,_,_,_,_,_,_,_,_,_,_,_,_,_,_,_,_,_,_,_,_,_,_,_,_]) rfl (fun K hK => hK) (by decide +kernel) rfl ?_
      repeat (first | apply RunP.seq | apply RunP.region | apply RunP.condT rfl | apply RunP.condF rfl | apply RunP.skip | apply RunP.block | apply RunP.exit | apply RunP.ret)
      exact ⟨rfl, _, rfl, rfl, rfl⟩
    · by_cases h6 : op = 6
      · skip
        repeat (first | apply RunP.seq | apply RunP.condT rfl | apply RunP.condF rfl | apply RunP.skip | apply RunP.block)
        refine RunP.regionR _ (fun K => rfl) ?_
        refine ops_sl (s' := [_,_,_,_,_,_,_,_,_,_,_,_,_,_,_,_,_,_,_,_,_,_,_,_,_,_,_,_,_,_,_]) rfl (fun K hK => hK) rfl ?_
        refine ops_sl (s' := [_,_,_,_,_,_,_,_,_,_,_,_,_,_,_,_,_,_,_,_,_,_,_,_,_,_,_,_,_,_,_]) rfl (fun K hK => And.intro (fun w => absurd w h5) (fun _ => hK)) rfl ?_
        refine ops_sl (s' := [_,_,_,_,_,_,_,_,_,_,_,_,_,_,_,_,_,_,_,_,_,_,_,_,_,_,_,_,_,_,_]) rfl (fun K hK => hK) rfl ?_
        refine ops_yl (s' := [_,_,_,_,_,_,_,_,_,_,_,_,_,_,_,_,_,_,_,_,_,_,_,_,_,_,_,_,_,_,_]) rfl rfl (fun K hK => hK) rfl ?_
        refine ops_yl (s' := [_,_,_,_,_,_,_,_,_,_,_,_,_,_,_,_,_,_,_,_,_,_,_,_,_,_,_,_,_,_,_]) rfl rfl (fun K hK => And.intro (fun _ => hK) (fun w => absurd h6 w)) rfl ?_
        refine ops_sl (s' := [_,_,_,_,_,_,_,_,_,_,_,_,_,_,_,_,_,_,_,_,_,_,_,_,_,_,_,_,_,_,_]) rfl (fun K hK => hK) rfl ?_
        refine ops_sl (s' := [_,_,_,_,_,_,_,_,_,_,_,_,_,_,_,_,_,_,_,_,_,_,_,_,_,_,_,_,_,_,_]) rfl (fun K hK => hK) rfl ?_
        refine ops_yl (s' := [_,_,_,_,_,_,_,_,_,_,_,_,_,_,_,_,_,_,_,_,_,_,_,_,_,_,_,_,_,_,_]) rfl rfl (fun K hK => hK) rfl ?_
        refine ops_yl (s' := [_,_,_,_,_,_,_,_,_,_,_,_,_,_,_,_,_,_,_,_,_,_,_,_,_,_,_,_,_,_,_]) rfl rfl (fun K hK => CallK.of (hV _) hK) rfl ?_
        refine ops_yl (s' := [_,_,_,_,_,_,_,_,_,_,_,_,_,_,_,_,_,_,_,_,_,_,_,_,_,_,_,_,_,_,_]) rfl rfl (fun K hK => hK) rfl ?_
        refine ops_sl (s' := [_,_,_,_,_,_,_,_,_,_,_,_,_,_,_,_,_,_,_,_,_,_,_,_,_,_,_,_,_,_,_]) rfl (fun K hK => hK) rfl ?_
        repeat (first | apply RunP.seq | apply RunP.region | apply RunP.condT rfl | apply RunP.condF rfl | apply RunP.skip | apply RunP.block | apply RunP.exit | apply RunP.ret)
        refine CallK.of (unary_has _ op kv nv sv) ?_
        have hb : unaryV op (kv, nv, sv) = .tup [vV (unaryL op (kv, nv, sv)).1, fV (unaryL op (kv, nv, sv)).2, .int .i64 0] := by unfold unaryV; rw [if_pos ⟨by omega, hv⟩]
        rw [hb]
        generalize unaryL op (kv, nv, sv) = r
        repeat (first | apply RunP.seq | apply RunP.condT rfl | apply RunP.condF rfl | apply RunP.skip | apply RunP.block)
        refine RunP.drawnR _ (by decide +kernel) (fun K => rfl) ?_
        refine draw_rl (s' := [_,_,_,_,_,_,_,_,_,_,_,_,_,_,_,_,_,_,_,_,_,_,_,_,_,_,_,_,_,_,_]) rfl (fun K hK => hK) (by decide +kernel) rfl ?_
        refine draw_rl (s' := [_,_,_,_,_,_,_,_,_,_,_,_,_,_,_,_,_,_,_,_,_,_,_,_,_,_,_,_,_,_,_]) rfl (fun K hK => hK) (by decide +kernel) rfl ?_
        refine draw_g (s' := [_,_,_,_,_,_,_,_,_,_,_,_,_,_,_,_,_,_,_,_,_,_,_,_,_,_,_,_,_,_,_]) rfl (fun K hK => hK) (by decide +kernel) (acc_still (StillK.of rfl) (acc_bound (by decide +kernel) trivial)) rfl ?_
        refine draw_g (s' := [_,_,_,_,_,_,_,_,_,_,_,_,_,_,_,_,_,_,_,_,_,_,_,_,_,_,_,_,_,_,_]) rfl (fun K hK => hK) (by decide +kernel) (acc_bound (by decide +kernel) (acc_bound (by decide +kernel) trivial)) rfl ?_
        refine draw_zl (s' := [_,_,_,_,_,_,_,_,_,_,_,_,_,_,_,_,_,_,_,_,_,_,_,_,_,_,_,_,_,_,_]) rfl (fun K hK => hK) (by decide +kernel) rfl ?_
        repeat (first | apply RunP.seq | apply RunP.region | apply RunP.condT rfl | apply RunP.condF rfl | apply RunP.skip | apply RunP.block | apply RunP.exit | apply RunP.ret)
        exact ⟨rfl, _, rfl, rfl, rfl⟩
      · skip
        repeat (first | apply RunP.seq | apply RunP.condT rfl | apply RunP.condF rfl | apply RunP.skip | apply RunP.block)
        refine RunP.regionR _ (fun K => rfl) ?_
        refine ops_sl (s' := [_,_,_,_,_,_,_,_,_,_,_,_,_,_,_,_,_,_,_,_,_,_,_,_,_,_,_,_,_,_,_]) rfl (fun K hK => hK) rfl ?_
        refine ops_sl (s' := [_,_,_,_,_,_,_,_,_,_,_,_,_,_,_,_,_,_,_,_,_,_,_,_,_,_,_,_,_,_,_]) rfl (fun K hK => And.intro (fun w => absurd w h5) (fun _ => hK)) rfl ?_
        refine ops_sl (s' := [_,_,_,_,_,_,_,_,_,_,_,_,_,_,_,_,_,_,_,_,_,_,_,_,_,_,_,_,_,_,_]) rfl (fun K hK => hK) rfl ?_
        refine ops_yl (s' := [_,_,_,_,_,_,_,_,_,_,_,_,_,_,_,_,_,_,_,_,_,_,_,_,_,_,_,_,_,_,_]) rfl rfl (fun K hK => hK) rfl ?_
        refine ops_yl (s' := [_,_,_,_,_,_,_,_,_,_,_,_,_,_,_,_,_,_,_,_,_,_,_,_,_,_,_,_,_,_,_]) rfl rfl (fun K hK => And.intro (fun w => absurd w h6) (fun _ => hK)) rfl ?_
        refine ops_sl (s' := [_,_,_,_,_,_,_,_,_,_,_,_,_,_,_,_,_,_,_,_,_,_,_,_,_,_,_,_,_,_,_]) rfl (fun K hK => hK) rfl ?_
        refine ops_sl (s' := [_,_,_,_,_,_,_,_,_,_,_,_,_,_,_,_,_,_,_,_,_,_,_,_,_,_,_,_,_,_,_]) rfl (fun K hK => hK) rfl ?_
        refine ops_nl (s' := [_,_,_,_,_,_,_,_,_,_,_,_,_,_,_,_,_,_,_,_,_,_,_,_,_,_,_,_,_,_,_]) rfl rfl rfl rfl ?_
        refine ops_nl (s' := [_,_,_,_,_,_,_,_,_,_,_,_,_,_,_,_,_,_,_,_,_,_,_,_,_,_,_,_,_,_,_]) rfl rfl rfl rfl ?_
        refine ops_nl (s' := [_,_,_,_,_,_,_,_,_,_,_,_,_,_,_,_,_,_,_,_,_,_,_,_,_,_,_,_,_,_,_]) rfl rfl rfl rfl ?_
        refine ops_sl (s' := [_,_,_,_,_,_,_,_,_,_,_,_,_,_,_,_,_,_,_,_,_,_,_,_,_,_,_,_,_,_,_]) rfl (fun K hK => hK) rfl ?_
        repeat (first | apply RunP.seq | apply RunP.region | apply RunP.condT rfl | apply RunP.condF rfl | apply RunP.skip | apply RunP.block | apply RunP.exit | apply RunP.ret)
        exact ⟨rfl, _, rfl, rfl, by unfold unaryV; rw [if_neg (fun q => by have := q.1; omega)]; rfl⟩
  · simp only [decide_eq_false hv] at hV
    by_cases h5 : op = 5
    · skip
      repeat (first | apply RunP.seq | apply RunP.condT rfl | apply RunP.condF rfl | apply RunP.skip | apply RunP.block)
      refine RunP.regionR _ (fun K => rfl) ?_
      refine ops_sl (s' := [_,_,_,_,_,_,_,_,_,_,_,_,_,_,_,_,_,_,_,_,_,_,_,_,_,_,_,_,_,_,_]) rfl (fun K hK => hK) rfl ?_
      refine ops_sl (s' := [_,_,_,_,_,_,_,_,_,_,_,_,_,_,_,_,_,_,_,_,_,_,_,_,_,_,_,_,_,_,_]) rfl (fun K hK => And.intro (fun _ => hK) (fun w => absurd h5 w)) rfl ?_
      refine ops_sl (s' := [_,_,_,_,_,_,_,_,_,_,_,_,_,_,_,_,_,_,_,_,_,_,_,_,_,_,_,_,_,_,_]) rfl (fun K hK => hK) rfl ?_
      refine ops_nl (s' := [_,_,_,_,_,_,_,_,_,_,_,_,_,_,_,_,_,_,_,_,_,_,_,_,_,_,_,_,_,_,_]) rfl rfl rfl rfl ?_
      refine ops_nl (s' := [_,_,_,_,_,_,_,_,_,_,_,_,_,_,_,_,_,_,_,_,_,_,_,_,_,_,_,_,_,_,_]) rfl rfl rfl rfl ?_
      refine ops_sl (s' := [_,_,_,_,_,_,_,_,_,_,_,_,_,_,_,_,_,_,_,_,_,_,_,_,_,_,_,_,_,_,_]) rfl (fun K hK => hK) rfl ?_
      refine ops_sl (s' := [_,_,_,_,_,_,_,_,_,_,_,_,_,_,_,_,_,_,_,_,_,_,_,_,_,_,_,_,_,_,_]) rfl (fun K hK => hK) rfl ?_
      refine ops_yl (s' := [_,_,_,_,_,_,_,_,_,_,_,_,_,_,_,_,_,_,_,_,_,_,_,_,_,_,_,_,_,_,_]) rfl rfl (fun K hK => hK) rfl ?_
      refine ops_yl (s' := [_,_,_,_,_,_,_,_,_,_,_,_,_,_,_,_,_,_,_,_,_,_,_,_,_,_,_,_,_,_,_]) rfl rfl (fun K hK => CallK.of (hV _) hK) rfl ?_
      refine ops_yl (s' := [_,_,_,_,_,_,_,_,_,_,_,_,_,_,_,_,_,_,_,_,_,_,_,_,_,_,_,_,_,_,_]) rfl rfl (fun K hK => hK) rfl ?_
      refine ops_sl (s' := [_,_,_,_,_,_,_,_,_,_,_,_,_,_,_,_,_,_,_,_,_,_,_,_,_,_,_,_,_,_,_]) rfl (fun K hK => hK) rfl ?_
      repeat (first | apply RunP.seq | apply RunP.region | apply RunP.condT rfl | apply RunP.condF rfl | apply RunP.skip | apply RunP.block | apply RunP.exit | apply RunP.ret)
      exact ⟨rfl, _, rfl, rfl, by unfold unaryV; rw [if_neg (fun q => hv q.2)]; rfl⟩
    · by_cases h6 : op = 6
      · skip
        repeat (first | apply RunP.seq | apply RunP.condT rfl | apply RunP.condF rfl | apply RunP.skip | apply RunP.block)
        refine RunP.regionR _ (fun K => rfl) ?_
        refine ops_sl (s' := [_,_,_,_,_,_,_,_,_,_,_,_,_,_,_,_,_,_,_,_,_,_,_,_,_,_,_,_,_,_,_]) rfl (fun K hK => hK) rfl ?_
        refine ops_sl (s' := [_,_,_,_,_,_,_,_,_,_,_,_,_,_,_,_,_,_,_,_,_,_,_,_,_,_,_,_,_,_,_]) rfl (fun K hK => And.intro (fun w => absurd w h5) (fun _ => hK)) rfl ?_
        refine ops_sl (s' := [_,_,_,_,_,_,_,_,_,_,_,_,_,_,_,_,_,_,_,_,_,_,_,_,_,_,_,_,_,_,_]) rfl (fun K hK => hK) rfl ?_
        refine ops_yl (s' := [_,_,_,_,_,_,_,_,_,_,_,_,_,_,_,_,_,_,_,_,_,_,_,_,_,_,_,_,_,_,_]) rfl rfl (fun K hK => hK) rfl ?_
        refine ops_yl (s' := [_,_,_,_,_,_,_,_,_,_,_,_,_,_,_,_,_,_,_,_,_,_,_,_,_,_,_,_,_,_,_]) rfl rfl (fun K hK => And.intro (fun _ => hK) (fun w => absurd h6 w)) rfl ?_
        refine ops_sl (s' := [_,_,_,_,_,_,_,_,_,_,_,_,_,_,_,_,_,_,_,_,_,_,_,_,_,_,_,_,_,_,_]) rfl (fun K hK => hK) rfl ?_
        refine ops_sl (s' := [_,_,_,_,_,_,_,_,_,_,_,_,_,_,_,_,_,_,_,_,_,_,_,_,_,_,_,_,_,_,_]) rfl (fun K hK => hK) rfl ?_
        refine ops_yl (s' := [_,_,_,_,_,_,_,_,_,_,_,_,_,_,_,_,_,_,_,_,_,_,_,_,_,_,_,_,_,_,_]) rfl rfl (fun K hK => hK) rfl ?_
        refine ops_yl (s' := [_,_,_,_,_,_,_,_,_,_,_,_,_,_,_,_,_,_,_,_,_,_,_,_,_,_,_,_,_,_,_]) rfl rfl (fun K hK => CallK.of (hV _) hK) rfl ?_
        refine ops_yl (s' := [_,_,_,_,_,_,_,_,_,_,_,_,_,_,_,_,_,_,_,_,_,_,_,_,_,_,_,_,_,_,_]) rfl rfl (fun K hK => hK) rfl ?_
        refine ops_sl (s' := [_,_,_,_,_,_,_,_,_,_,_,_,_,_,_,_,_,_,_,_,_,_,_,_,_,_,_,_,_,_,_]) rfl (fun K hK => hK) rfl ?_
        repeat (first | apply RunP.seq | apply RunP.region | apply RunP.condT rfl | apply RunP.condF rfl | apply RunP.skip | apply RunP.block | apply RunP.exit | apply RunP.ret)
        exact ⟨rfl, _, rfl, rfl, by unfold unaryV; rw [if_neg (fun q => hv q.2)]; rfl⟩
      · skip
        repeat (first | apply RunP.seq | apply RunP.condT rfl | apply RunP.condF rfl | apply RunP.skip | apply RunP.block)
        refine RunP.regionR _ (fun K => rfl) ?_
        refine ops_sl (s' := [_,_,_,_,_,_,_,_,_,_,_,_,_,_,_,_,_,_,_,_,_,_,_,_,_,_,_,_,_,_,_]) rfl (fun K hK => hK) rfl ?_
        refine ops_sl (s' := [_,_,_,_,_,_,_,_,_,_,_,_,_,_,_,_,_,_,_,_,_,_,_,_,_,_,_,_,_,_,_]) rfl (fun K hK => And.intro (fun w => absurd w h5) (fun _ => hK)) rfl ?_
        refine ops_sl (s' := [_,_,_,_,_,_,_,_,_,_,_,_,_,_,_,_,_,_,_,_,_,_,_,_,_,_,_,_,_,_,_]) rfl (fun K hK => hK) rfl ?_
        refine ops_yl (s' := [_,_,_,_,_,_,_,_,_,_,_,_,_,_,_,_,_,_,_,_,_,_,_,_,_,_,_,_,_,_,_]) rfl rfl (fun K hK => hK) rfl ?_
        refine ops_yl (s' := [_,_,_,_,_,_,_,_,_,_,_,_,_,_,_,_,_,_,_,_,_,_,_,_,_,_,_,_,_,_,_]) rfl rfl (fun K hK => And.intro (fun w => absurd w h6) (fun _ => hK)) rfl ?_
        refine ops_sl (s' := [_,_,_,_,_,_,_,_,_,_,_,_,_,_,_,_,_,_,_,_,_,_,_,_,_,_,_,_,_,_,_]) rfl (fun K hK => hK) rfl ?_
        refine ops_sl (s' := [_,_,_,_,_,_,_,_,_,_,_,_,_,_,_,_,_,_,_,_,_,_,_,_,_,_,_,_,_,_,_]) rfl (fun K hK => hK) rfl ?_
        refine ops_nl (s' := [_,_,_,_,_,_,_,_,_,_,_,_,_,_,_,_,_,_,_,_,_,_,_,_,_,_,_,_,_,_,_]) rfl rfl rfl rfl ?_
        refine ops_nl (s' := [_,_,_,_,_,_,_,_,_,_,_,_,_,_,_,_,_,_,_,_,_,_,_,_,_,_,_,_,_,_,_]) rfl rfl rfl rfl ?_
        refine ops_nl (s' := [_,_,_,_,_,_,_,_,_,_,_,_,_,_,_,_,_,_,_,_,_,_,_,_,_,_,_,_,_,_,_]) rfl rfl rfl rfl ?_
        refine ops_sl (s' := [_,_,_,_,_,_,_,_,_,_,_,_,_,_,_,_,_,_,_,_,_,_,_,_,_,_,_,_,_,_,_]) rfl (fun K hK => hK) rfl ?_
        repeat (first | apply RunP.seq | apply RunP.region | apply RunP.condT rfl | apply RunP.condF rfl | apply RunP.skip | apply RunP.block | apply RunP.exit | apply RunP.ret)
        exact ⟨rfl, _, rfl, rfl, by unfold unaryV; rw [if_neg (fun q => by have := q.1; omega)]; rfl⟩
end Go.Proofs.YtkjhnpmgieplgaaGreatDoor

/- Operators: the reference's order, times, Result. -/

namespace Go.Proofs.YtkjhnpmgieplgaaGreatDoor
open Go.Sb
set_option maxRecDepth 100000

def timesL (a b : Int) : Int := if maxL a (IntKind.i64.wrap (0 - a)) ≠ 0 ∧ IntKind.i64.wrap (Int.tdiv 1000000000000 (maxL a (IntKind.i64.wrap (0 - a)))) < maxL b (IntKind.i64.wrap (0 - b)) then 1000000000001 else IntKind.i64.wrap (a * b)
theorem max_abs {a : Int} (ha : -1000000000000 ≤ a ∧ a ≤ 1000000000000) : maxL a (IntKind.i64.wrap (0 - a)) = ((a.natAbs : Nat) : Int) := by
  unfold maxL; rw [wrapS (by omega) (by omega)]; split <;> omega
theorem times_product {a b : Int} (ha : -1000000000000 ≤ a ∧ a ≤ 1000000000000) (hb : -1000000000000 ≤ b ∧ b ≤ 1000000000000) : numberL (timesL a b) = productL a b := by
  unfold timesL productL
  rw [max_abs ha, max_abs hb]
  have e : ∀ x : Nat, Int.tdiv 1000000000000 (x : Int) = ((1000000000000 / x : Nat) : Int) := fun x => rfl
  have l : ∀ x : Nat, 1000000000000 / x ≤ 1000000000000 := fun x => Nat.div_le_self _ _
  have wl : ∀ x : Nat, IntKind.i64.wrap ((1000000000000 / x : Nat) : Int) = ((1000000000000 / x : Nat) : Int) := fun x => by
    have := l x
    generalize 1000000000000 / x = q at this ⊢
    exact wrapS (by omega) (by omega)
  rw [e, e, wl, wl]
  have hxa : 0 < a.natAbs → (1000000000000 / a.natAbs < b.natAbs ↔ 1000000000000 < b.natAbs * a.natAbs) := fun h => Nat.div_lt_iff_lt_mul h
  have hxb : 0 < b.natAbs → (1000000000000 / b.natAbs < a.natAbs ↔ 1000000000000 < a.natAbs * b.natAbs) := fun h => Nat.div_lt_iff_lt_mul h
  rw [Nat.mul_comm] at hxb
  generalize 1000000000000 / a.natAbs = qa at hxa ⊢
  generalize 1000000000000 / b.natAbs = qb at hxb ⊢
  generalize b.natAbs * a.natAbs = m at hxa hxb
  generalize IntKind.i64.wrap (a * b) = p
  generalize a.natAbs = x at *
  generalize b.natAbs = y at *
  have key : (((x : Nat) : Int) ≠ 0 ∧ (qa : Int) < ((y : Nat) : Int)) ↔ (0 < ((y : Nat) : Int) ∧ (qb : Int) < ((x : Nat) : Int)) := by
    constructor
    · rintro ⟨h1, h2⟩
      have h3 := (hxa (by omega)).1 (by omega)
      have h4 := (hxb (by omega)).2 h3
      exact ⟨by omega, by omega⟩
    · rintro ⟨h1, h2⟩
      have h3 := (hxb (by omega)).1 (by omega)
      have h4 := (hxa (by omega)).2 h3
      exact ⟨by omega, by omega⟩
  by_cases h : 0 < ((y : Nat) : Int) ∧ (qb : Int) < ((x : Nat) : Int)
  · rw [if_pos (key.2 h), if_pos h]; unfold numberL; rw [if_pos (.inl (by decide))]
  · rw [if_neg (fun q => h (key.1 q)), if_neg h]
set_option maxHeartbeats 2000000 in
theorem refTimes_has (h : Heap) (a b : Int) : Has envQ .own 61 [.int .i64 a, .int .i64 b] h (.val (.int .i64 (timesL a b)) h) := by
  suffices hx : ∃ v, Has envQ .own 61 [.int .i64 a, .int .i64 b] h (.val v h) ∧ v = .int .i64 (timesL a b) by
    obtain ⟨v, h1, rfl⟩ := hx; exact h1
  refine HasP.ownE (a := [.int .i64 a, .int .i64 b]) (d := fn61) rfl rfl rfl (of_decide_eq_true rfl) ?_
  repeat (first | apply RunP.seq | apply RunP.region | apply RunP.condT rfl | apply RunP.condF rfl | apply RunP.skip | apply RunP.block | apply RunP.exit | apply RunP.ret)
  refine And.intro (fun h0 => ?_) (fun h0 => ?_)
  · repeat (first | apply RunP.seq | apply RunP.region | apply RunP.condT rfl | apply RunP.condF rfl | apply RunP.skip | apply RunP.block | apply RunP.exit | apply RunP.ret)
    have hb : timesL a b = IntKind.i64.wrap (a * b) := if_neg (fun q => absurd (show maxL a (IntKind.i64.wrap (0 - a)) = 0 from h0) q.1)
    exact ⟨rfl, _, rfl, rfl, (congrArg (V.int .i64) hb).symm⟩
  · refine And.intro rfl (And.intro h0 ?_)
    refine And.intro (fun h1 => ?_) (fun h1 => ?_)
    · repeat (first | apply RunP.seq | apply RunP.region | apply RunP.condT rfl | apply RunP.condF rfl | apply RunP.skip | apply RunP.block | apply RunP.exit | apply RunP.ret)
      have hb : timesL a b = 1000000000001 := if_pos ⟨h0, h1⟩
      exact ⟨rfl, _, rfl, rfl, (congrArg (V.int .i64) hb).symm⟩
    · repeat (first | apply RunP.seq | apply RunP.region | apply RunP.condT rfl | apply RunP.condF rfl | apply RunP.skip | apply RunP.block | apply RunP.exit | apply RunP.ret)
      have hb : timesL a b = IntKind.i64.wrap (a * b) := if_neg (fun q => absurd q.2 (Int.not_lt.2 (show maxL b (IntKind.i64.wrap (0 - b)) ≤ IntKind.i64.wrap (Int.tdiv 1000000000000 (maxL a (IntKind.i64.wrap (0 - a)))) from h1)))
      exact ⟨rfl, _, rfl, rfl, (congrArg (V.int .i64) hb).symm⟩
set_option maxHeartbeats 2000000 in
theorem orderI_has (h : Heap) (kv nv kw nw : Int) : Has envQ .own 60 [.agg [.int .i64 kv, .int .i64 nv, .str []], .agg [.int .i64 kw, .int .i64 nw, .str []]] h (.val (.int .i64 (cmpI nv nw)) h) := by
  suffices hx : ∃ v, Has envQ .own 60 [.agg [.int .i64 kv, .int .i64 nv, .str []], .agg [.int .i64 kw, .int .i64 nw, .str []]] h (.val v h) ∧ v = .int .i64 (cmpI nv nw) by
    obtain ⟨v, h1, rfl⟩ := hx; exact h1
  refine HasP.ownE (a := [.agg [.int .i64 kv, .int .i64 nv, .str []], .agg [.int .i64 kw, .int .i64 nw, .str []]]) (d := fn60) rfl rfl rfl (of_decide_eq_true rfl) ?_
  repeat (first | apply RunP.seq | apply RunP.region | apply RunP.condT rfl | apply RunP.condF rfl | apply RunP.skip | apply RunP.block | apply RunP.exit | apply RunP.ret)
  refine And.intro (fun h1 => ?_) (fun h1 => ?_)
  · repeat (first | apply RunP.seq | apply RunP.region | apply RunP.condT rfl | apply RunP.condF rfl | apply RunP.skip | apply RunP.block | apply RunP.exit | apply RunP.ret)
    exact ⟨rfl, _, rfl, rfl, by unfold cmpI; rw [if_pos h1]; rfl⟩
  · repeat (first | apply RunP.seq | apply RunP.region | apply RunP.condT rfl | apply RunP.condF rfl | apply RunP.skip | apply RunP.block | apply RunP.exit | apply RunP.ret)
    refine And.intro (fun h2 => ?_) (fun h2 => ?_)
    · repeat (first | apply RunP.seq | apply RunP.region | apply RunP.condT rfl | apply RunP.condF rfl | apply RunP.skip | apply RunP.block | apply RunP.exit | apply RunP.ret)
      exact ⟨rfl, _, rfl, rfl, by unfold cmpI; rw [if_neg (by omega), if_pos h2]; rfl⟩
    · repeat (first | apply RunP.seq | apply RunP.region | apply RunP.condT rfl | apply RunP.condF rfl | apply RunP.skip | apply RunP.block | apply RunP.exit | apply RunP.ret)
      exact ⟨rfl, _, rfl, rfl, by unfold cmpI; rw [if_neg (by omega), if_neg (by omega)]; rfl⟩
set_option maxHeartbeats 2000000 in
theorem orderS_has (h : Heap) (kv kw : Int) (sv sw : List UInt8) : Has envQ .own 60 [.agg [.int .i64 kv, .int .i64 0, .str sv], .agg [.int .i64 kw, .int .i64 0, .str sw]] h (.val (.int .i64 (cmpS sv sw)) h) := by
  suffices hx : ∃ v, Has envQ .own 60 [.agg [.int .i64 kv, .int .i64 0, .str sv], .agg [.int .i64 kw, .int .i64 0, .str sw]] h (.val v h) ∧ v = .int .i64 (cmpS sv sw) by
    obtain ⟨v, h1, rfl⟩ := hx; exact h1
  refine HasP.ownE (a := [.agg [.int .i64 kv, .int .i64 0, .str sv], .agg [.int .i64 kw, .int .i64 0, .str sw]]) (d := fn60) rfl rfl rfl (of_decide_eq_true rfl) ?_
  have e1 : evBin envQ .lss 9 (.str sv) (.str sw) = some (.bool (Op.bytesLess sv sw)) := rfl
  have e2 : evBin envQ .gtr 9 (.str sv) (.str sw) = some (.bool !(Op.bytesLess sv sw || sv == sw)) := rfl
  unfold cmpS
  generalize Op.bytesLess sv sw = x at e1 e2 ⊢
  generalize (sv == sw) = y at e2 ⊢
  apply RunP.seq
  apply RunP.region
  repeat (first | apply RunP.seq | apply RunP.condT rfl | apply RunP.condF rfl | apply RunP.skip | apply RunP.block)
  refine RunP.regionR _ (fun K => rfl) ?_
  refine ops_sl (s' := [_,_,_,_,_,_,_,_,_,_,_,_,_,_,_,_,_,_,_,_,_,_,_,_,_,_,_,_,_,_,_,_]) rfl (fun K hK => hK) rfl ?_
  refine ops_sl (s' := [_,_,_,_,_,_,_,_,_,_,_,_,_,_,_,_,_,_,_,_,_,_,_,_,_,_,_,_,_,_,_,_]) rfl (fun K hK => hK) rfl ?_
  refine ops_sl (s' := [_,_,_,_,_,_,_,_,_,_,_,_,_,_,_,_,_,_,_,_,_,_,_,_,_,_,_,_,_,_,_,_]) rfl (fun K hK => hK) rfl ?_
  refine ops_sl (s' := [_,_,_,_,_,_,_,_,_,_,_,_,_,_,_,_,_,_,_,_,_,_,_,_,_,_,_,_,_,_,_,_]) rfl (fun K hK => hK) rfl ?_
  refine ops_sl (s' := [_,_,_,_,_,_,_,_,_,_,_,_,_,_,_,_,_,_,_,_,_,_,_,_,_,_,_,_,_,_,_,_]) rfl (fun K hK => And.intro (fun w => absurd w (by omega)) (fun _ => hK)) rfl ?_
  refine ops_sl (s' := [_,_,_,_,_,_,_,_,_,_,_,_,_,_,_,_,_,_,_,_,_,_,_,_,_,_,_,_,_,_,_,_]) rfl (fun K hK => hK) rfl ?_
  refine ops_yl (s' := [_,_,_,_,_,_,_,_,_,_,_,_,_,_,_,_,_,_,_,_,_,_,_,_,_,_,_,_,_,_,_,_]) rfl rfl (fun K hK => hK) rfl ?_
  refine ops_yl (s' := [_,_,_,_,_,_,_,_,_,_,_,_,_,_,_,_,_,_,_,_,_,_,_,_,_,_,_,_,_,_,_,_]) rfl rfl (fun K hK => hK) rfl ?_
  refine ops_yl (s' := [_,_,_,_,_,_,_,_,_,_,_,_,_,_,_,_,_,_,_,_,_,_,_,_,_,_,_,_,_,_,_,_]) rfl rfl (fun K hK => hK) rfl ?_
  refine ops_yl (s' := [_,_,_,_,_,_,_,_,_,_,_,_,_,_,_,_,_,_,_,_,_,_,_,_,_,_,_,_,_,_,_,_]) rfl rfl (fun K hK => hK) rfl ?_
  refine ops_yl (s' := [_,_,_,_,_,_,_,_,_,_,_,_,_,_,_,_,_,_,_,_,_,_,_,_,_,_,_,_,_,_,_,_]) rfl rfl (fun K hK => bindK_of (K := fun v => K v _) e1 hK) rfl ?_
  refine ops_sl (s' := [_,_,_,_,_,_,_,_,_,_,_,_,_,_,_,_,_,_,_,_,_,_,_,_,_,_,_,_,_,_,_,_]) rfl (fun K hK => hK) rfl ?_
  refine ops_sl (s' := [_,_,_,_,_,_,_,_,_,_,_,_,_,_,_,_,_,_,_,_,_,_,_,_,_,_,_,_,_,_,_,_]) rfl (fun K hK => hK) rfl ?_
  cases x
  · repeat (first | apply RunP.seq | apply RunP.condT rfl | apply RunP.condF rfl | apply RunP.skip | apply RunP.block)
    refine RunP.regionR _ (fun K => rfl) ?_
    refine ops_sl (s' := [_,_,_,_,_,_,_,_,_,_,_,_,_,_,_,_,_,_,_,_,_,_,_,_,_,_,_,_,_,_,_,_]) rfl (fun K hK => hK) rfl ?_
    refine ops_sl (s' := [_,_,_,_,_,_,_,_,_,_,_,_,_,_,_,_,_,_,_,_,_,_,_,_,_,_,_,_,_,_,_,_]) rfl (fun K hK => hK) rfl ?_
    refine ops_sl (s' := [_,_,_,_,_,_,_,_,_,_,_,_,_,_,_,_,_,_,_,_,_,_,_,_,_,_,_,_,_,_,_,_]) rfl (fun K hK => hK) rfl ?_
    refine ops_sl (s' := [_,_,_,_,_,_,_,_,_,_,_,_,_,_,_,_,_,_,_,_,_,_,_,_,_,_,_,_,_,_,_,_]) rfl (fun K hK => hK) rfl ?_
    refine ops_sl (s' := [_,_,_,_,_,_,_,_,_,_,_,_,_,_,_,_,_,_,_,_,_,_,_,_,_,_,_,_,_,_,_,_]) rfl (fun K hK => And.intro (fun w => absurd w (by omega)) (fun _ => hK)) rfl ?_
    refine ops_sl (s' := [_,_,_,_,_,_,_,_,_,_,_,_,_,_,_,_,_,_,_,_,_,_,_,_,_,_,_,_,_,_,_,_]) rfl (fun K hK => hK) rfl ?_
    refine ops_yl (s' := [_,_,_,_,_,_,_,_,_,_,_,_,_,_,_,_,_,_,_,_,_,_,_,_,_,_,_,_,_,_,_,_]) rfl rfl (fun K hK => hK) rfl ?_
    refine ops_yl (s' := [_,_,_,_,_,_,_,_,_,_,_,_,_,_,_,_,_,_,_,_,_,_,_,_,_,_,_,_,_,_,_,_]) rfl rfl (fun K hK => hK) rfl ?_
    refine ops_yl (s' := [_,_,_,_,_,_,_,_,_,_,_,_,_,_,_,_,_,_,_,_,_,_,_,_,_,_,_,_,_,_,_,_]) rfl rfl (fun K hK => hK) rfl ?_
    refine ops_yl (s' := [_,_,_,_,_,_,_,_,_,_,_,_,_,_,_,_,_,_,_,_,_,_,_,_,_,_,_,_,_,_,_,_]) rfl rfl (fun K hK => hK) rfl ?_
    refine ops_yl (s' := [_,_,_,_,_,_,_,_,_,_,_,_,_,_,_,_,_,_,_,_,_,_,_,_,_,_,_,_,_,_,_,_]) rfl rfl (fun K hK => bindK_of (K := fun v => K v _) e2 hK) rfl ?_
    refine ops_sl (s' := [_,_,_,_,_,_,_,_,_,_,_,_,_,_,_,_,_,_,_,_,_,_,_,_,_,_,_,_,_,_,_,_]) rfl (fun K hK => hK) rfl ?_
    refine ops_sl (s' := [_,_,_,_,_,_,_,_,_,_,_,_,_,_,_,_,_,_,_,_,_,_,_,_,_,_,_,_,_,_,_,_]) rfl (fun K hK => hK) rfl ?_
    cases y
    · repeat (first | apply RunP.seq | apply RunP.region | apply RunP.condT rfl | apply RunP.condF rfl | apply RunP.skip | apply RunP.block | apply RunP.exit | apply RunP.ret)
      exact ⟨rfl, _, rfl, rfl, rfl⟩
    · repeat (first | apply RunP.seq | apply RunP.region | apply RunP.condT rfl | apply RunP.condF rfl | apply RunP.skip | apply RunP.block | apply RunP.exit | apply RunP.ret)
      exact ⟨rfl, _, rfl, rfl, rfl⟩
  · repeat (first | apply RunP.seq | apply RunP.region | apply RunP.condT rfl | apply RunP.condF rfl | apply RunP.skip | apply RunP.block | apply RunP.exit | apply RunP.ret)
    exact ⟨rfl, _, rfl, rfl, rfl⟩
/-- The kind of what an operator makes (from 9 on). -/
def resL (op a b : Int) : Int := if a ≠ b then -1 else if op = 9 ∨ op = 10 then 2 else if op ≤ 14 then (if a = 1 ∨ a = 3 then 2 else -1) else if op = 15 then (if a = 1 ∨ a = 3 then a else -1) else if a = 1 then 1 else -1
set_option maxHeartbeats 4000000 in
theorem refResult_has (h : Heap) (op a b : Int) (ho : 9 ≤ op) (ha : 0 ≤ a) (hb' : 0 ≤ b) : Has envQ .own 59 [.int .i64 op, .int .i64 a, .int .i64 b] h (.val (.int .i64 (resL op a b)) h) := by
  suffices hx : ∃ v, Has envQ .own 59 [.int .i64 op, .int .i64 a, .int .i64 b] h (.val v h) ∧ v = .int .i64 (resL op a b) by
    obtain ⟨v, h1, rfl⟩ := hx; exact h1
  refine HasP.ownE (a := [.int .i64 op, .int .i64 a, .int .i64 b]) (d := fn59) rfl rfl rfl (of_decide_eq_true rfl) ?_
  by_cases hab : a = b
  · by_cases h1 : op = 9 ∨ op = 10
    · have hb : resL op a b = 2 := by unfold resL; simp [hab, h1]
      rcases h1 with rfl | rfl
      · repeat (first | apply RunP.seq | apply RunP.region | apply RunP.condT rfl | apply RunP.condF rfl | apply RunP.skip | apply RunP.block | apply RunP.exit | apply RunP.ret | refine And.intro (fun w => absurd w (by omega)) (fun _ => ?_) | refine And.intro (fun _ => ?_) (fun w => absurd w (by omega)))
        exact ⟨rfl, _, rfl, rfl, (congrArg (V.int .i64) hb).symm⟩
      · repeat (first | apply RunP.seq | apply RunP.region | apply RunP.condT rfl | apply RunP.condF rfl | apply RunP.skip | apply RunP.block | apply RunP.exit | apply RunP.ret | refine And.intro (fun w => absurd w (by omega)) (fun _ => ?_) | refine And.intro (fun _ => ?_) (fun w => absurd w (by omega)))
        exact ⟨rfl, _, rfl, rfl, (congrArg (V.int .i64) hb).symm⟩
    · by_cases h2 : op ≤ 14
      · by_cases a1 : a = 1
        · have hb : resL op a b = 2 := by unfold resL; rw [if_neg (by omega), if_neg h1, if_pos h2, if_pos (.inl a1)]
          repeat (first | apply RunP.seq | apply RunP.region | apply RunP.condT rfl | apply RunP.condF rfl | apply RunP.skip | apply RunP.block | apply RunP.exit | apply RunP.ret | refine And.intro (fun w => absurd w (by omega)) (fun _ => ?_) | refine And.intro (fun _ => ?_) (fun w => absurd w (by omega)))
          exact ⟨rfl, _, rfl, rfl, (congrArg (V.int .i64) hb).symm⟩
        · by_cases a3 : a = 3
          · have hb : resL op a b = 2 := by unfold resL; rw [if_neg (by omega), if_neg h1, if_pos h2, if_pos (.inr a3)]
            repeat (first | apply RunP.seq | apply RunP.region | apply RunP.condT rfl | apply RunP.condF rfl | apply RunP.skip | apply RunP.block | apply RunP.exit | apply RunP.ret | refine And.intro (fun w => absurd w (by omega)) (fun _ => ?_) | refine And.intro (fun _ => ?_) (fun w => absurd w (by omega)))
            exact ⟨rfl, _, rfl, rfl, (congrArg (V.int .i64) hb).symm⟩
          · have hb : resL op a b = -1 := by unfold resL; rw [if_neg (by omega), if_neg h1, if_pos h2, if_neg (by omega)]
            repeat (first | apply RunP.seq | apply RunP.region | apply RunP.condT rfl | apply RunP.condF rfl | apply RunP.skip | apply RunP.block | apply RunP.exit | apply RunP.ret | refine And.intro (fun w => absurd w (by omega)) (fun _ => ?_) | refine And.intro (fun _ => ?_) (fun w => absurd w (by omega)))
            exact ⟨rfl, _, rfl, rfl, (congrArg (V.int .i64) hb).symm⟩
      · by_cases h3 : op = 15
        · by_cases a1 : a = 1
          · have hb : resL op a b = a := by unfold resL; rw [if_neg (by omega), if_neg h1, if_neg h2, if_pos h3, if_pos (.inl a1)]
            repeat (first | apply RunP.seq | apply RunP.region | apply RunP.condT rfl | apply RunP.condF rfl | apply RunP.skip | apply RunP.block | apply RunP.exit | apply RunP.ret | refine And.intro (fun w => absurd w (by omega)) (fun _ => ?_) | refine And.intro (fun _ => ?_) (fun w => absurd w (by omega)))
            exact ⟨rfl, _, rfl, rfl, (congrArg (V.int .i64) hb).symm⟩
          · by_cases a3 : a = 3
            · have hb : resL op a b = a := by unfold resL; rw [if_neg (by omega), if_neg h1, if_neg h2, if_pos h3, if_pos (.inr a3)]
              repeat (first | apply RunP.seq | apply RunP.region | apply RunP.condT rfl | apply RunP.condF rfl | apply RunP.skip | apply RunP.block | apply RunP.exit | apply RunP.ret | refine And.intro (fun w => absurd w (by omega)) (fun _ => ?_) | refine And.intro (fun _ => ?_) (fun w => absurd w (by omega)))
              exact ⟨rfl, _, rfl, rfl, (congrArg (V.int .i64) hb).symm⟩
            · have hb : resL op a b = -1 := by unfold resL; rw [if_neg (by omega), if_neg h1, if_neg h2, if_pos h3, if_neg (by omega)]
              repeat (first | apply RunP.seq | apply RunP.region | apply RunP.condT rfl | apply RunP.condF rfl | apply RunP.skip | apply RunP.block | apply RunP.exit | apply RunP.ret | refine And.intro (fun w => absurd w (by omega)) (fun _ => ?_) | refine And.intro (fun _ => ?_) (fun w => absurd w (by omega)))
              exact ⟨rfl, _, rfl, rfl, (congrArg (V.int .i64) hb).symm⟩
        · by_cases a1 : a = 1
          · have hb : resL op a b = 1 := by unfold resL; rw [if_neg (by omega), if_neg h1, if_neg h2, if_neg h3, if_pos a1]
            repeat (first | apply RunP.seq | apply RunP.region | apply RunP.condT rfl | apply RunP.condF rfl | apply RunP.skip | apply RunP.block | apply RunP.exit | apply RunP.ret | refine And.intro (fun w => absurd w (by omega)) (fun _ => ?_) | refine And.intro (fun _ => ?_) (fun w => absurd w (by omega)))
            exact ⟨rfl, _, rfl, rfl, (congrArg (V.int .i64) hb).symm⟩
          · have hb : resL op a b = -1 := by unfold resL; rw [if_neg (by omega), if_neg h1, if_neg h2, if_neg h3, if_neg a1]
            repeat (first | apply RunP.seq | apply RunP.region | apply RunP.condT rfl | apply RunP.condF rfl | apply RunP.skip | apply RunP.block | apply RunP.exit | apply RunP.ret | refine And.intro (fun w => absurd w (by omega)) (fun _ => ?_) | refine And.intro (fun _ => ?_) (fun w => absurd w (by omega)))
            exact ⟨rfl, _, rfl, rfl, (congrArg (V.int .i64) hb).symm⟩
  · have hb : resL op a b = -1 := by unfold resL; rw [if_pos hab]
    repeat (first | apply RunP.seq | apply RunP.region | apply RunP.condT rfl | apply RunP.condF rfl | apply RunP.skip | apply RunP.block | apply RunP.exit | apply RunP.ret | refine And.intro (fun w => absurd w (by omega)) (fun _ => ?_) | refine And.intro (fun _ => ?_) (fun w => absurd w (by omega)))
    exact ⟨rfl, _, rfl, rfl, (congrArg (V.int .i64) hb).symm⟩
end Go.Proofs.YtkjhnpmgieplgaaGreatDoor
