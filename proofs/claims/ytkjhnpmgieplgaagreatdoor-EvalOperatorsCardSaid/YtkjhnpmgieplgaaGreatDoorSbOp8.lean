/- Operators: the reference's Binary. -/
import Derived.Test.YtkjhnpmgieplgaaGreatDoorSbOp7
set_option linter.unusedVariables false
set_option linter.unusedSimpArgs false
namespace Go.Proofs.YtkjhnpmgieplgaaGreatDoor
open Go.Sb
set_option maxRecDepth 100000

theorem valid_k0 {k n : Int} {s : List UInt8} (h : ValidP k n s) : 0 ≤ k := by unfold ValidP at h; omega
theorem valid_s1 {k n : Int} {s : List UInt8} (h : ValidP k n s) (h1 : k = 1) : s = [] ∧ -1000000000000 ≤ n ∧ n ≤ 1000000000000 := by
  unfold ValidP at h
  exact ⟨List.length_eq_zero_iff.1 (by omega), by omega, by omega⟩
theorem valid_n3 {k n : Int} {s : List UInt8} (h : ValidP k n s) (h3 : k = 3) : n = 0 := by unfold ValidP at h; omega
set_option maxHeartbeats 8000000 in
theorem refBinA_has (h : Heap) (op kv nv : Int) (sv : List UInt8) (kw nw : Int) (sw : List UInt8) (hop : op = 7 ∨ op = 8) (hv : ValidP kv nv sv) (hw : ValidP kw nw sw) : Has envQ .own 30 [.int .i64 op, .agg [.int .i64 kv, .int .i64 nv, .str sv], .agg [.int .i64 kw, .int .i64 nw, .str sw]] h (.val (rV (binL op (kv, nv, sv) (kw, nw, sw))) h) := by
  suffices hx : ∃ v, Has envQ .own 30 [.int .i64 op, .agg [.int .i64 kv, .int .i64 nv, .str sv], .agg [.int .i64 kw, .int .i64 nw, .str sw]] h (.val v h) ∧ v = rV (binL op (kv, nv, sv) (kw, nw, sw)) by
    obtain ⟨v, h1, rfl⟩ := hx; exact h1
  refine HasP.ownE (a := [.int .i64 op, .agg [.int .i64 kv, .int .i64 nv, .str sv], .agg [.int .i64 kw, .int .i64 nw, .str sw]]) (d := fn30) rfl rfl rfl (of_decide_eq_true rfl) ?_
  have hk0 := valid_k0 hv
  have hw0 := valid_k0 hw
  have hsv := valid_len hv
  have hsw := valid_len hw
  rcases hop with rfl | rfl
  · by_cases k2 : kv = 2
    · by_cases n1 : nv = 1
      · skip
        have hb : binL 7 (kv, nv, sv) (kw, nw, sw) = ((kv, nv, sv), noF) := by unfold binL; simp [k2, n1]
        repeat (first | apply RunP.seq | apply RunP.region | apply RunP.condT rfl | apply RunP.condF rfl | apply RunP.skip | apply RunP.block | apply RunP.exit | apply RunP.ret | refine And.intro (fun w => absurd w (by omega)) (fun _ => ?_) | refine And.intro (fun _ => ?_) (fun w => absurd w (by omega)))
        exact ⟨rfl, _, rfl, rfl, (congrArg rV hb).symm⟩
      · skip
        by_cases k2w : kw = 2
        · have hb : binL 7 (kv, nv, sv) (kw, nw, sw) = ((kw, nw, sw), noF) := by unfold binL; simp [k2, k2w, n1]
          repeat (first | apply RunP.seq | apply RunP.region | apply RunP.condT rfl | apply RunP.condF rfl | apply RunP.skip | apply RunP.block | apply RunP.exit | apply RunP.ret | refine And.intro (fun w => absurd w (by omega)) (fun _ => ?_) | refine And.intro (fun _ => ?_) (fun w => absurd w (by omega)))
          exact ⟨rfl, _, rfl, rfl, (congrArg rV hb).symm⟩
        · skip
          have hb : binL 7 (kv, nv, sv) (kw, nw, sw) = throwL kindT := by unfold binL; simp [k2, k2w, n1]
          repeat (first | apply RunP.seq | apply RunP.region | apply RunP.condT rfl | apply RunP.condF rfl | apply RunP.skip | apply RunP.block | apply RunP.exit | apply RunP.ret | refine And.intro (fun w => absurd w (by omega)) (fun _ => ?_) | refine And.intro (fun _ => ?_) (fun w => absurd w (by omega)))
          refine CallK.of (throw_has _ _) ?_
          repeat (first | apply RunP.seq | apply RunP.region | apply RunP.condT rfl | apply RunP.condF rfl | apply RunP.skip | apply RunP.block | apply RunP.exit | apply RunP.ret | refine And.intro (fun w => absurd w (by omega)) (fun _ => ?_) | refine And.intro (fun _ => ?_) (fun w => absurd w (by omega)))
          exact ⟨rfl, _, rfl, rfl, (congrArg rV hb).symm⟩
    · skip
      have hb : binL 7 (kv, nv, sv) (kw, nw, sw) = throwL kindT := by unfold binL; simp [k2]
      repeat (first | apply RunP.seq | apply RunP.region | apply RunP.condT rfl | apply RunP.condF rfl | apply RunP.skip | apply RunP.block | apply RunP.exit | apply RunP.ret | refine And.intro (fun w => absurd w (by omega)) (fun _ => ?_) | refine And.intro (fun _ => ?_) (fun w => absurd w (by omega)))
      refine CallK.of (throw_has _ _) ?_
      repeat (first | apply RunP.seq | apply RunP.region | apply RunP.condT rfl | apply RunP.condF rfl | apply RunP.skip | apply RunP.block | apply RunP.exit | apply RunP.ret | refine And.intro (fun w => absurd w (by omega)) (fun _ => ?_) | refine And.intro (fun _ => ?_) (fun w => absurd w (by omega)))
      exact ⟨rfl, _, rfl, rfl, (congrArg rV hb).symm⟩
  · by_cases k2 : kv = 2
    · by_cases n1 : nv = 1
      · skip
        by_cases k2w : kw = 2
        · have hb : binL 8 (kv, nv, sv) (kw, nw, sw) = ((kw, nw, sw), noF) := by unfold binL; simp [k2, k2w, n1]
          repeat (first | apply RunP.seq | apply RunP.region | apply RunP.condT rfl | apply RunP.condF rfl | apply RunP.skip | apply RunP.block | apply RunP.exit | apply RunP.ret | refine And.intro (fun w => absurd w (by omega)) (fun _ => ?_) | refine And.intro (fun _ => ?_) (fun w => absurd w (by omega)))
          exact ⟨rfl, _, rfl, rfl, (congrArg rV hb).symm⟩
        · skip
          have hb : binL 8 (kv, nv, sv) (kw, nw, sw) = throwL kindT := by unfold binL; simp [k2, k2w, n1]
          repeat (first | apply RunP.seq | apply RunP.region | apply RunP.condT rfl | apply RunP.condF rfl | apply RunP.skip | apply RunP.block | apply RunP.exit | apply RunP.ret | refine And.intro (fun w => absurd w (by omega)) (fun _ => ?_) | refine And.intro (fun _ => ?_) (fun w => absurd w (by omega)))
          refine CallK.of (throw_has _ _) ?_
          repeat (first | apply RunP.seq | apply RunP.region | apply RunP.condT rfl | apply RunP.condF rfl | apply RunP.skip | apply RunP.block | apply RunP.exit | apply RunP.ret | refine And.intro (fun w => absurd w (by omega)) (fun _ => ?_) | refine And.intro (fun _ => ?_) (fun w => absurd w (by omega)))
          exact ⟨rfl, _, rfl, rfl, (congrArg rV hb).symm⟩
      · skip
        have hb : binL 8 (kv, nv, sv) (kw, nw, sw) = ((kv, nv, sv), noF) := by unfold binL; simp [k2, n1]
        repeat (first | apply RunP.seq | apply RunP.region | apply RunP.condT rfl | apply RunP.condF rfl | apply RunP.skip | apply RunP.block | apply RunP.exit | apply RunP.ret | refine And.intro (fun w => absurd w (by omega)) (fun _ => ?_) | refine And.intro (fun _ => ?_) (fun w => absurd w (by omega)))
        exact ⟨rfl, _, rfl, rfl, (congrArg rV hb).symm⟩
    · skip
      have hb : binL 8 (kv, nv, sv) (kw, nw, sw) = throwL kindT := by unfold binL; simp [k2]
      repeat (first | apply RunP.seq | apply RunP.region | apply RunP.condT rfl | apply RunP.condF rfl | apply RunP.skip | apply RunP.block | apply RunP.exit | apply RunP.ret | refine And.intro (fun w => absurd w (by omega)) (fun _ => ?_) | refine And.intro (fun _ => ?_) (fun w => absurd w (by omega)))
      refine CallK.of (throw_has _ _) ?_
      repeat (first | apply RunP.seq | apply RunP.region | apply RunP.condT rfl | apply RunP.condF rfl | apply RunP.skip | apply RunP.block | apply RunP.exit | apply RunP.ret | refine And.intro (fun w => absurd w (by omega)) (fun _ => ?_) | refine And.intro (fun _ => ?_) (fun w => absurd w (by omega)))
      exact ⟨rfl, _, rfl, rfl, (congrArg rV hb).symm⟩
set_option maxHeartbeats 8000000 in
theorem refBinB_has (h : Heap) (op kv nv : Int) (sv : List UInt8) (kw nw : Int) (sw : List UInt8) (hop : op = 9 ∨ op = 10) (hv : ValidP kv nv sv) (hw : ValidP kw nw sw) : Has envQ .own 30 [.int .i64 op, .agg [.int .i64 kv, .int .i64 nv, .str sv], .agg [.int .i64 kw, .int .i64 nw, .str sw]] h (.val (rV (binL op (kv, nv, sv) (kw, nw, sw))) h) := by
  suffices hx : ∃ v, Has envQ .own 30 [.int .i64 op, .agg [.int .i64 kv, .int .i64 nv, .str sv], .agg [.int .i64 kw, .int .i64 nw, .str sw]] h (.val v h) ∧ v = rV (binL op (kv, nv, sv) (kw, nw, sw)) by
    obtain ⟨v, h1, rfl⟩ := hx; exact h1
  refine HasP.ownE (a := [.int .i64 op, .agg [.int .i64 kv, .int .i64 nv, .str sv], .agg [.int .i64 kw, .int .i64 nw, .str sw]]) (d := fn30) rfl rfl rfl (of_decide_eq_true rfl) ?_
  have hk0 := valid_k0 hv
  have hw0 := valid_k0 hw
  have hsv := valid_len hv
  have hsw := valid_len hw
  rcases hop with rfl | rfl
  · by_cases kk : kv = kw
    · have hb : binL 9 (kv, nv, sv) (kw, nw, sw) = truthL ((kv == kw && nv == nw && sv == sw)) := by
        unfold binL; rw [if_neg (by omega), if_pos (by omega), if_neg (fun q => q kk)]
        show truthL ((kv == kw && nv == nw && sv == sw) == _) = _
        cases (kv == kw && nv == nw && sv == sw) <;> rfl
      have er : resL 9 kv kw = 2 := by unfold resL; simp [*]
      have hr := fun g => refResult_has g 9 kv kw (by omega) hk0 hw0
      rw [er] at hr
      repeat (first | apply RunP.seq | apply RunP.region | apply RunP.condT rfl | apply RunP.condF rfl | apply RunP.skip | apply RunP.block | apply RunP.exit | apply RunP.ret | refine And.intro (fun w => absurd w (by omega)) (fun _ => ?_) | refine And.intro (fun _ => ?_) (fun w => absurd w (by omega)))
      refine CallK.of (hr _) ?_
      repeat (first | apply RunP.seq | apply RunP.region | apply RunP.condT rfl | apply RunP.condF rfl | apply RunP.skip | apply RunP.block | apply RunP.exit | apply RunP.ret | refine And.intro (fun w => absurd w (by omega)) (fun _ => ?_) | refine And.intro (fun _ => ?_) (fun w => absurd w (by omega)))
      refine bindK_of (eqV kv nv kw nw sv sw) ?_
      repeat (first | apply RunP.seq | apply RunP.region | apply RunP.condT rfl | apply RunP.condF rfl | apply RunP.skip | apply RunP.block | apply RunP.exit | apply RunP.ret | refine And.intro (fun w => absurd w (by omega)) (fun _ => ?_) | refine And.intro (fun _ => ?_) (fun w => absurd w (by omega)))
      refine CallK.of (refTruth_has _ _) ?_
      repeat (first | apply RunP.seq | apply RunP.region | apply RunP.condT rfl | apply RunP.condF rfl | apply RunP.skip | apply RunP.block | apply RunP.exit | apply RunP.ret | refine And.intro (fun w => absurd w (by omega)) (fun _ => ?_) | refine And.intro (fun _ => ?_) (fun w => absurd w (by omega)))
      exact ⟨rfl, _, rfl, rfl, (congrArg rV hb).symm⟩
    · skip
      have hb : binL 9 (kv, nv, sv) (kw, nw, sw) = throwL kindT := by unfold binL; simp [kk]
      have er : resL 9 kv kw = -1 := by unfold resL; simp [*]
      have hr := fun g => refResult_has g 9 kv kw (by omega) hk0 hw0
      rw [er] at hr
      repeat (first | apply RunP.seq | apply RunP.region | apply RunP.condT rfl | apply RunP.condF rfl | apply RunP.skip | apply RunP.block | apply RunP.exit | apply RunP.ret | refine And.intro (fun w => absurd w (by omega)) (fun _ => ?_) | refine And.intro (fun _ => ?_) (fun w => absurd w (by omega)))
      refine CallK.of (hr _) ?_
      repeat (first | apply RunP.seq | apply RunP.region | apply RunP.condT rfl | apply RunP.condF rfl | apply RunP.skip | apply RunP.block | apply RunP.exit | apply RunP.ret | refine And.intro (fun w => absurd w (by omega)) (fun _ => ?_) | refine And.intro (fun _ => ?_) (fun w => absurd w (by omega)))
      refine CallK.of (throw_has _ _) ?_
      repeat (first | apply RunP.seq | apply RunP.region | apply RunP.condT rfl | apply RunP.condF rfl | apply RunP.skip | apply RunP.block | apply RunP.exit | apply RunP.ret | refine And.intro (fun w => absurd w (by omega)) (fun _ => ?_) | refine And.intro (fun _ => ?_) (fun w => absurd w (by omega)))
      exact ⟨rfl, _, rfl, rfl, (congrArg rV hb).symm⟩
  · by_cases kk : kv = kw
    · have hb : binL 10 (kv, nv, sv) (kw, nw, sw) = truthL (!(kv == kw && nv == nw && sv == sw)) := by
        unfold binL; rw [if_neg (by omega), if_pos (by omega), if_neg (fun q => q kk)]
        show truthL ((kv == kw && nv == nw && sv == sw) == _) = _
        cases (kv == kw && nv == nw && sv == sw) <;> rfl
      have er : resL 10 kv kw = 2 := by unfold resL; simp [*]
      have hr := fun g => refResult_has g 10 kv kw (by omega) hk0 hw0
      rw [er] at hr
      repeat (first | apply RunP.seq | apply RunP.region | apply RunP.condT rfl | apply RunP.condF rfl | apply RunP.skip | apply RunP.block | apply RunP.exit | apply RunP.ret | refine And.intro (fun w => absurd w (by omega)) (fun _ => ?_) | refine And.intro (fun _ => ?_) (fun w => absurd w (by omega)))
      refine CallK.of (hr _) ?_
      repeat (first | apply RunP.seq | apply RunP.region | apply RunP.condT rfl | apply RunP.condF rfl | apply RunP.skip | apply RunP.block | apply RunP.exit | apply RunP.ret | refine And.intro (fun w => absurd w (by omega)) (fun _ => ?_) | refine And.intro (fun _ => ?_) (fun w => absurd w (by omega)))
      refine bindK_of (neV kv nv kw nw sv sw) ?_
      repeat (first | apply RunP.seq | apply RunP.region | apply RunP.condT rfl | apply RunP.condF rfl | apply RunP.skip | apply RunP.block | apply RunP.exit | apply RunP.ret | refine And.intro (fun w => absurd w (by omega)) (fun _ => ?_) | refine And.intro (fun _ => ?_) (fun w => absurd w (by omega)))
      refine CallK.of (refTruth_has _ _) ?_
      repeat (first | apply RunP.seq | apply RunP.region | apply RunP.condT rfl | apply RunP.condF rfl | apply RunP.skip | apply RunP.block | apply RunP.exit | apply RunP.ret | refine And.intro (fun w => absurd w (by omega)) (fun _ => ?_) | refine And.intro (fun _ => ?_) (fun w => absurd w (by omega)))
      exact ⟨rfl, _, rfl, rfl, (congrArg rV hb).symm⟩
    · skip
      have hb : binL 10 (kv, nv, sv) (kw, nw, sw) = throwL kindT := by unfold binL; simp [kk]
      have er : resL 10 kv kw = -1 := by unfold resL; simp [*]
      have hr := fun g => refResult_has g 10 kv kw (by omega) hk0 hw0
      rw [er] at hr
      repeat (first | apply RunP.seq | apply RunP.region | apply RunP.condT rfl | apply RunP.condF rfl | apply RunP.skip | apply RunP.block | apply RunP.exit | apply RunP.ret | refine And.intro (fun w => absurd w (by omega)) (fun _ => ?_) | refine And.intro (fun _ => ?_) (fun w => absurd w (by omega)))
      refine CallK.of (hr _) ?_
      repeat (first | apply RunP.seq | apply RunP.region | apply RunP.condT rfl | apply RunP.condF rfl | apply RunP.skip | apply RunP.block | apply RunP.exit | apply RunP.ret | refine And.intro (fun w => absurd w (by omega)) (fun _ => ?_) | refine And.intro (fun _ => ?_) (fun w => absurd w (by omega)))
      refine CallK.of (throw_has _ _) ?_
      repeat (first | apply RunP.seq | apply RunP.region | apply RunP.condT rfl | apply RunP.condF rfl | apply RunP.skip | apply RunP.block | apply RunP.exit | apply RunP.ret | refine And.intro (fun w => absurd w (by omega)) (fun _ => ?_) | refine And.intro (fun _ => ?_) (fun w => absurd w (by omega)))
      exact ⟨rfl, _, rfl, rfl, (congrArg rV hb).symm⟩
set_option maxHeartbeats 8000000 in
theorem refBinC_has (h : Heap) (op kv nv : Int) (sv : List UInt8) (kw nw : Int) (sw : List UInt8) (hop : op = 11 ∨ op = 12 ∨ op = 13 ∨ op = 14) (hv : ValidP kv nv sv) (hw : ValidP kw nw sw) : Has envQ .own 30 [.int .i64 op, .agg [.int .i64 kv, .int .i64 nv, .str sv], .agg [.int .i64 kw, .int .i64 nw, .str sw]] h (.val (rV (binL op (kv, nv, sv) (kw, nw, sw))) h) := by
  suffices hx : ∃ v, Has envQ .own 30 [.int .i64 op, .agg [.int .i64 kv, .int .i64 nv, .str sv], .agg [.int .i64 kw, .int .i64 nw, .str sw]] h (.val v h) ∧ v = rV (binL op (kv, nv, sv) (kw, nw, sw)) by
    obtain ⟨v, h1, rfl⟩ := hx; exact h1
  refine HasP.ownE (a := [.int .i64 op, .agg [.int .i64 kv, .int .i64 nv, .str sv], .agg [.int .i64 kw, .int .i64 nw, .str sw]]) (d := fn30) rfl rfl rfl (of_decide_eq_true rfl) ?_
  have hk0 := valid_k0 hv
  have hw0 := valid_k0 hw
  have hsv := valid_len hv
  have hsw := valid_len hw
  rcases hop with rfl | rfl | rfl | rfl
  · by_cases ki : kv = 1 ∧ kw = 1
    · obtain ⟨k1, k2⟩ := ki
      obtain ⟨rfl, _, _⟩ := valid_s1 hv k1
      obtain ⟨rfl, _, _⟩ := valid_s1 hw k2
      have hb : binL 11 (kv, nv, []) (kw, nw, []) = orderedL 11 (cmpI nv nw) := by unfold binL; simp [k1, k2]
      have ho := fun g => orderI_has g kv nv kw nw
      generalize cmpI nv nw = c at hb ho
      have er : resL 11 kv kw = 2 := by unfold resL; simp [k1, k2]
      have hr := fun g => refResult_has g 11 kv kw (by omega) hk0 hw0
      rw [er] at hr
      repeat (first | apply RunP.seq | apply RunP.region | apply RunP.condT rfl | apply RunP.condF rfl | apply RunP.skip | apply RunP.block | apply RunP.exit | apply RunP.ret | refine And.intro (fun w => absurd w (by omega)) (fun _ => ?_) | refine And.intro (fun _ => ?_) (fun w => absurd w (by omega)))
      refine CallK.of (hr _) ?_
      repeat (first | apply RunP.seq | apply RunP.region | apply RunP.condT rfl | apply RunP.condF rfl | apply RunP.skip | apply RunP.block | apply RunP.exit | apply RunP.ret | refine And.intro (fun w => absurd w (by omega)) (fun _ => ?_) | refine And.intro (fun _ => ?_) (fun w => absurd w (by omega)))
      refine CallK.of (ho _) ?_
      by_cases hc : c < 0
      · rw [show orderedL 11 c = truthL true from by unfold orderedL; simp [hc]] at hb
        repeat (first | apply RunP.seq | apply RunP.region | apply RunP.condT rfl | apply RunP.condF rfl | apply RunP.skip | apply RunP.block | apply RunP.exit | apply RunP.ret | refine And.intro (fun w => absurd w (by omega)) (fun _ => ?_) | refine And.intro (fun _ => ?_) (fun w => absurd w (by omega)))
        refine CallK.of (refTruth_has _ true) ?_
        repeat (first | apply RunP.seq | apply RunP.region | apply RunP.condT rfl | apply RunP.condF rfl | apply RunP.skip | apply RunP.block | apply RunP.exit | apply RunP.ret | refine And.intro (fun w => absurd w (by omega)) (fun _ => ?_) | refine And.intro (fun _ => ?_) (fun w => absurd w (by omega)))
        exact ⟨rfl, _, rfl, rfl, (congrArg rV hb).symm⟩
      · rw [show orderedL 11 c = truthL false from by unfold orderedL; simp [hc]] at hb
        repeat (first | apply RunP.seq | apply RunP.region | apply RunP.condT rfl | apply RunP.condF rfl | apply RunP.skip | apply RunP.block | apply RunP.exit | apply RunP.ret | refine And.intro (fun w => absurd w (by omega)) (fun _ => ?_) | refine And.intro (fun _ => ?_) (fun w => absurd w (by omega)))
        refine CallK.of (refTruth_has _ false) ?_
        repeat (first | apply RunP.seq | apply RunP.region | apply RunP.condT rfl | apply RunP.condF rfl | apply RunP.skip | apply RunP.block | apply RunP.exit | apply RunP.ret | refine And.intro (fun w => absurd w (by omega)) (fun _ => ?_) | refine And.intro (fun _ => ?_) (fun w => absurd w (by omega)))
        exact ⟨rfl, _, rfl, rfl, (congrArg rV hb).symm⟩
    · by_cases kt : kv = 3 ∧ kw = 3
      · obtain ⟨k1, k2⟩ := kt
        obtain rfl := valid_n3 hv k1
        obtain rfl := valid_n3 hw k2
        have hb : binL 11 (kv, 0, sv) (kw, 0, sw) = orderedL 11 (cmpS sv sw) := by unfold binL; simp [k1, k2]
        have ho := fun g => orderS_has g kv kw sv sw
        generalize cmpS sv sw = c at hb ho
        have er : resL 11 kv kw = 2 := by unfold resL; simp [k1, k2]
        have hr := fun g => refResult_has g 11 kv kw (by omega) hk0 hw0
        rw [er] at hr
        repeat (first | apply RunP.seq | apply RunP.region | apply RunP.condT rfl | apply RunP.condF rfl | apply RunP.skip | apply RunP.block | apply RunP.exit | apply RunP.ret | refine And.intro (fun w => absurd w (by omega)) (fun _ => ?_) | refine And.intro (fun _ => ?_) (fun w => absurd w (by omega)))
        refine CallK.of (hr _) ?_
        repeat (first | apply RunP.seq | apply RunP.region | apply RunP.condT rfl | apply RunP.condF rfl | apply RunP.skip | apply RunP.block | apply RunP.exit | apply RunP.ret | refine And.intro (fun w => absurd w (by omega)) (fun _ => ?_) | refine And.intro (fun _ => ?_) (fun w => absurd w (by omega)))
        refine CallK.of (ho _) ?_
        by_cases hc : c < 0
        · rw [show orderedL 11 c = truthL true from by unfold orderedL; simp [hc]] at hb
          repeat (first | apply RunP.seq | apply RunP.region | apply RunP.condT rfl | apply RunP.condF rfl | apply RunP.skip | apply RunP.block | apply RunP.exit | apply RunP.ret | refine And.intro (fun w => absurd w (by omega)) (fun _ => ?_) | refine And.intro (fun _ => ?_) (fun w => absurd w (by omega)))
          refine CallK.of (refTruth_has _ true) ?_
          repeat (first | apply RunP.seq | apply RunP.region | apply RunP.condT rfl | apply RunP.condF rfl | apply RunP.skip | apply RunP.block | apply RunP.exit | apply RunP.ret | refine And.intro (fun w => absurd w (by omega)) (fun _ => ?_) | refine And.intro (fun _ => ?_) (fun w => absurd w (by omega)))
          exact ⟨rfl, _, rfl, rfl, (congrArg rV hb).symm⟩
        · rw [show orderedL 11 c = truthL false from by unfold orderedL; simp [hc]] at hb
          repeat (first | apply RunP.seq | apply RunP.region | apply RunP.condT rfl | apply RunP.condF rfl | apply RunP.skip | apply RunP.block | apply RunP.exit | apply RunP.ret | refine And.intro (fun w => absurd w (by omega)) (fun _ => ?_) | refine And.intro (fun _ => ?_) (fun w => absurd w (by omega)))
          refine CallK.of (refTruth_has _ false) ?_
          repeat (first | apply RunP.seq | apply RunP.region | apply RunP.condT rfl | apply RunP.condF rfl | apply RunP.skip | apply RunP.block | apply RunP.exit | apply RunP.ret | refine And.intro (fun w => absurd w (by omega)) (fun _ => ?_) | refine And.intro (fun _ => ?_) (fun w => absurd w (by omega)))
          exact ⟨rfl, _, rfl, rfl, (congrArg rV hb).symm⟩
      · skip
        have hb : binL 11 (kv, nv, sv) (kw, nw, sw) = throwL kindT := by unfold binL; simp [ki, kt]
        have er : resL 11 kv kw = -1 := if kk : kv = kw then (by unfold resL; rw [if_neg (fun q => q kk), if_neg (by omega), if_pos (by omega), if_neg (by omega)]) else (by unfold resL; rw [if_pos kk])
        have hr := fun g => refResult_has g 11 kv kw (by omega) hk0 hw0
        rw [er] at hr
        repeat (first | apply RunP.seq | apply RunP.region | apply RunP.condT rfl | apply RunP.condF rfl | apply RunP.skip | apply RunP.block | apply RunP.exit | apply RunP.ret | refine And.intro (fun w => absurd w (by omega)) (fun _ => ?_) | refine And.intro (fun _ => ?_) (fun w => absurd w (by omega)))
        refine CallK.of (hr _) ?_
        repeat (first | apply RunP.seq | apply RunP.region | apply RunP.condT rfl | apply RunP.condF rfl | apply RunP.skip | apply RunP.block | apply RunP.exit | apply RunP.ret | refine And.intro (fun w => absurd w (by omega)) (fun _ => ?_) | refine And.intro (fun _ => ?_) (fun w => absurd w (by omega)))
        refine CallK.of (throw_has _ _) ?_
        repeat (first | apply RunP.seq | apply RunP.region | apply RunP.condT rfl | apply RunP.condF rfl | apply RunP.skip | apply RunP.block | apply RunP.exit | apply RunP.ret | refine And.intro (fun w => absurd w (by omega)) (fun _ => ?_) | refine And.intro (fun _ => ?_) (fun w => absurd w (by omega)))
        exact ⟨rfl, _, rfl, rfl, (congrArg rV hb).symm⟩
  · by_cases ki : kv = 1 ∧ kw = 1
    · obtain ⟨k1, k2⟩ := ki
      obtain ⟨rfl, _, _⟩ := valid_s1 hv k1
      obtain ⟨rfl, _, _⟩ := valid_s1 hw k2
      have hb : binL 12 (kv, nv, []) (kw, nw, []) = orderedL 12 (cmpI nv nw) := by unfold binL; simp [k1, k2]
      have ho := fun g => orderI_has g kv nv kw nw
      generalize cmpI nv nw = c at hb ho
      have er : resL 12 kv kw = 2 := by unfold resL; simp [k1, k2]
      have hr := fun g => refResult_has g 12 kv kw (by omega) hk0 hw0
      rw [er] at hr
      repeat (first | apply RunP.seq | apply RunP.region | apply RunP.condT rfl | apply RunP.condF rfl | apply RunP.skip | apply RunP.block | apply RunP.exit | apply RunP.ret | refine And.intro (fun w => absurd w (by omega)) (fun _ => ?_) | refine And.intro (fun _ => ?_) (fun w => absurd w (by omega)))
      refine CallK.of (hr _) ?_
      repeat (first | apply RunP.seq | apply RunP.region | apply RunP.condT rfl | apply RunP.condF rfl | apply RunP.skip | apply RunP.block | apply RunP.exit | apply RunP.ret | refine And.intro (fun w => absurd w (by omega)) (fun _ => ?_) | refine And.intro (fun _ => ?_) (fun w => absurd w (by omega)))
      refine CallK.of (ho _) ?_
      by_cases hc : c ≤ 0
      · rw [show orderedL 12 c = truthL true from by unfold orderedL; simp [hc]] at hb
        repeat (first | apply RunP.seq | apply RunP.region | apply RunP.condT rfl | apply RunP.condF rfl | apply RunP.skip | apply RunP.block | apply RunP.exit | apply RunP.ret | refine And.intro (fun w => absurd w (by omega)) (fun _ => ?_) | refine And.intro (fun _ => ?_) (fun w => absurd w (by omega)))
        refine CallK.of (refTruth_has _ true) ?_
        repeat (first | apply RunP.seq | apply RunP.region | apply RunP.condT rfl | apply RunP.condF rfl | apply RunP.skip | apply RunP.block | apply RunP.exit | apply RunP.ret | refine And.intro (fun w => absurd w (by omega)) (fun _ => ?_) | refine And.intro (fun _ => ?_) (fun w => absurd w (by omega)))
        exact ⟨rfl, _, rfl, rfl, (congrArg rV hb).symm⟩
      · rw [show orderedL 12 c = truthL false from by unfold orderedL; simp [hc]] at hb
        repeat (first | apply RunP.seq | apply RunP.region | apply RunP.condT rfl | apply RunP.condF rfl | apply RunP.skip | apply RunP.block | apply RunP.exit | apply RunP.ret | refine And.intro (fun w => absurd w (by omega)) (fun _ => ?_) | refine And.intro (fun _ => ?_) (fun w => absurd w (by omega)))
        refine CallK.of (refTruth_has _ false) ?_
        repeat (first | apply RunP.seq | apply RunP.region | apply RunP.condT rfl | apply RunP.condF rfl | apply RunP.skip | apply RunP.block | apply RunP.exit | apply RunP.ret | refine And.intro (fun w => absurd w (by omega)) (fun _ => ?_) | refine And.intro (fun _ => ?_) (fun w => absurd w (by omega)))
        exact ⟨rfl, _, rfl, rfl, (congrArg rV hb).symm⟩
    · by_cases kt : kv = 3 ∧ kw = 3
      · obtain ⟨k1, k2⟩ := kt
        obtain rfl := valid_n3 hv k1
        obtain rfl := valid_n3 hw k2
        have hb : binL 12 (kv, 0, sv) (kw, 0, sw) = orderedL 12 (cmpS sv sw) := by unfold binL; simp [k1, k2]
        have ho := fun g => orderS_has g kv kw sv sw
        generalize cmpS sv sw = c at hb ho
        have er : resL 12 kv kw = 2 := by unfold resL; simp [k1, k2]
        have hr := fun g => refResult_has g 12 kv kw (by omega) hk0 hw0
        rw [er] at hr
        repeat (first | apply RunP.seq | apply RunP.region | apply RunP.condT rfl | apply RunP.condF rfl | apply RunP.skip | apply RunP.block | apply RunP.exit | apply RunP.ret | refine And.intro (fun w => absurd w (by omega)) (fun _ => ?_) | refine And.intro (fun _ => ?_) (fun w => absurd w (by omega)))
        refine CallK.of (hr _) ?_
        repeat (first | apply RunP.seq | apply RunP.region | apply RunP.condT rfl | apply RunP.condF rfl | apply RunP.skip | apply RunP.block | apply RunP.exit | apply RunP.ret | refine And.intro (fun w => absurd w (by omega)) (fun _ => ?_) | refine And.intro (fun _ => ?_) (fun w => absurd w (by omega)))
        refine CallK.of (ho _) ?_
        by_cases hc : c ≤ 0
        · rw [show orderedL 12 c = truthL true from by unfold orderedL; simp [hc]] at hb
          repeat (first | apply RunP.seq | apply RunP.region | apply RunP.condT rfl | apply RunP.condF rfl | apply RunP.skip | apply RunP.block | apply RunP.exit | apply RunP.ret | refine And.intro (fun w => absurd w (by omega)) (fun _ => ?_) | refine And.intro (fun _ => ?_) (fun w => absurd w (by omega)))
          refine CallK.of (refTruth_has _ true) ?_
          repeat (first | apply RunP.seq | apply RunP.region | apply RunP.condT rfl | apply RunP.condF rfl | apply RunP.skip | apply RunP.block | apply RunP.exit | apply RunP.ret | refine And.intro (fun w => absurd w (by omega)) (fun _ => ?_) | refine And.intro (fun _ => ?_) (fun w => absurd w (by omega)))
          exact ⟨rfl, _, rfl, rfl, (congrArg rV hb).symm⟩
        · rw [show orderedL 12 c = truthL false from by unfold orderedL; simp [hc]] at hb
          repeat (first | apply RunP.seq | apply RunP.region | apply RunP.condT rfl | apply RunP.condF rfl | apply RunP.skip | apply RunP.block | apply RunP.exit | apply RunP.ret | refine And.intro (fun w => absurd w (by omega)) (fun _ => ?_) | refine And.intro (fun _ => ?_) (fun w => absurd w (by omega)))
          refine CallK.of (refTruth_has _ false) ?_
          repeat (first | apply RunP.seq | apply RunP.region | apply RunP.condT rfl | apply RunP.condF rfl | apply RunP.skip | apply RunP.block | apply RunP.exit | apply RunP.ret | refine And.intro (fun w => absurd w (by omega)) (fun _ => ?_) | refine And.intro (fun _ => ?_) (fun w => absurd w (by omega)))
          exact ⟨rfl, _, rfl, rfl, (congrArg rV hb).symm⟩
      · skip
        have hb : binL 12 (kv, nv, sv) (kw, nw, sw) = throwL kindT := by unfold binL; simp [ki, kt]
        have er : resL 12 kv kw = -1 := if kk : kv = kw then (by unfold resL; rw [if_neg (fun q => q kk), if_neg (by omega), if_pos (by omega), if_neg (by omega)]) else (by unfold resL; rw [if_pos kk])
        have hr := fun g => refResult_has g 12 kv kw (by omega) hk0 hw0
        rw [er] at hr
        repeat (first | apply RunP.seq | apply RunP.region | apply RunP.condT rfl | apply RunP.condF rfl | apply RunP.skip | apply RunP.block | apply RunP.exit | apply RunP.ret | refine And.intro (fun w => absurd w (by omega)) (fun _ => ?_) | refine And.intro (fun _ => ?_) (fun w => absurd w (by omega)))
        refine CallK.of (hr _) ?_
        repeat (first | apply RunP.seq | apply RunP.region | apply RunP.condT rfl | apply RunP.condF rfl | apply RunP.skip | apply RunP.block | apply RunP.exit | apply RunP.ret | refine And.intro (fun w => absurd w (by omega)) (fun _ => ?_) | refine And.intro (fun _ => ?_) (fun w => absurd w (by omega)))
        refine CallK.of (throw_has _ _) ?_
        repeat (first | apply RunP.seq | apply RunP.region | apply RunP.condT rfl | apply RunP.condF rfl | apply RunP.skip | apply RunP.block | apply RunP.exit | apply RunP.ret | refine And.intro (fun w => absurd w (by omega)) (fun _ => ?_) | refine And.intro (fun _ => ?_) (fun w => absurd w (by omega)))
        exact ⟨rfl, _, rfl, rfl, (congrArg rV hb).symm⟩
  · by_cases ki : kv = 1 ∧ kw = 1
    · obtain ⟨k1, k2⟩ := ki
      obtain ⟨rfl, _, _⟩ := valid_s1 hv k1
      obtain ⟨rfl, _, _⟩ := valid_s1 hw k2
      have hb : binL 13 (kv, nv, []) (kw, nw, []) = orderedL 13 (cmpI nv nw) := by unfold binL; simp [k1, k2]
      have ho := fun g => orderI_has g kv nv kw nw
      generalize cmpI nv nw = c at hb ho
      have er : resL 13 kv kw = 2 := by unfold resL; simp [k1, k2]
      have hr := fun g => refResult_has g 13 kv kw (by omega) hk0 hw0
      rw [er] at hr
      repeat (first | apply RunP.seq | apply RunP.region | apply RunP.condT rfl | apply RunP.condF rfl | apply RunP.skip | apply RunP.block | apply RunP.exit | apply RunP.ret | refine And.intro (fun w => absurd w (by omega)) (fun _ => ?_) | refine And.intro (fun _ => ?_) (fun w => absurd w (by omega)))
      refine CallK.of (hr _) ?_
      repeat (first | apply RunP.seq | apply RunP.region | apply RunP.condT rfl | apply RunP.condF rfl | apply RunP.skip | apply RunP.block | apply RunP.exit | apply RunP.ret | refine And.intro (fun w => absurd w (by omega)) (fun _ => ?_) | refine And.intro (fun _ => ?_) (fun w => absurd w (by omega)))
      refine CallK.of (ho _) ?_
      by_cases hc : 0 < c
      · rw [show orderedL 13 c = truthL true from by unfold orderedL; simp [hc]] at hb
        repeat (first | apply RunP.seq | apply RunP.region | apply RunP.condT rfl | apply RunP.condF rfl | apply RunP.skip | apply RunP.block | apply RunP.exit | apply RunP.ret | refine And.intro (fun w => absurd w (by omega)) (fun _ => ?_) | refine And.intro (fun _ => ?_) (fun w => absurd w (by omega)))
        refine CallK.of (refTruth_has _ true) ?_
        repeat (first | apply RunP.seq | apply RunP.region | apply RunP.condT rfl | apply RunP.condF rfl | apply RunP.skip | apply RunP.block | apply RunP.exit | apply RunP.ret | refine And.intro (fun w => absurd w (by omega)) (fun _ => ?_) | refine And.intro (fun _ => ?_) (fun w => absurd w (by omega)))
        exact ⟨rfl, _, rfl, rfl, (congrArg rV hb).symm⟩
      · rw [show orderedL 13 c = truthL false from by unfold orderedL; simp [hc]] at hb
        repeat (first | apply RunP.seq | apply RunP.region | apply RunP.condT rfl | apply RunP.condF rfl | apply RunP.skip | apply RunP.block | apply RunP.exit | apply RunP.ret | refine And.intro (fun w => absurd w (by omega)) (fun _ => ?_) | refine And.intro (fun _ => ?_) (fun w => absurd w (by omega)))
        refine CallK.of (refTruth_has _ false) ?_
        repeat (first | apply RunP.seq | apply RunP.region | apply RunP.condT rfl | apply RunP.condF rfl | apply RunP.skip | apply RunP.block | apply RunP.exit | apply RunP.ret | refine And.intro (fun w => absurd w (by omega)) (fun _ => ?_) | refine And.intro (fun _ => ?_) (fun w => absurd w (by omega)))
        exact ⟨rfl, _, rfl, rfl, (congrArg rV hb).symm⟩
    · by_cases kt : kv = 3 ∧ kw = 3
      · obtain ⟨k1, k2⟩ := kt
        obtain rfl := valid_n3 hv k1
        obtain rfl := valid_n3 hw k2
        have hb : binL 13 (kv, 0, sv) (kw, 0, sw) = orderedL 13 (cmpS sv sw) := by unfold binL; simp [k1, k2]
        have ho := fun g => orderS_has g kv kw sv sw
        generalize cmpS sv sw = c at hb ho
        have er : resL 13 kv kw = 2 := by unfold resL; simp [k1, k2]
        have hr := fun g => refResult_has g 13 kv kw (by omega) hk0 hw0
        rw [er] at hr
        repeat (first | apply RunP.seq | apply RunP.region | apply RunP.condT rfl | apply RunP.condF rfl | apply RunP.skip | apply RunP.block | apply RunP.exit | apply RunP.ret | refine And.intro (fun w => absurd w (by omega)) (fun _ => ?_) | refine And.intro (fun _ => ?_) (fun w => absurd w (by omega)))
        refine CallK.of (hr _) ?_
        repeat (first | apply RunP.seq | apply RunP.region | apply RunP.condT rfl | apply RunP.condF rfl | apply RunP.skip | apply RunP.block | apply RunP.exit | apply RunP.ret | refine And.intro (fun w => absurd w (by omega)) (fun _ => ?_) | refine And.intro (fun _ => ?_) (fun w => absurd w (by omega)))
        refine CallK.of (ho _) ?_
        by_cases hc : 0 < c
        · rw [show orderedL 13 c = truthL true from by unfold orderedL; simp [hc]] at hb
          repeat (first | apply RunP.seq | apply RunP.region | apply RunP.condT rfl | apply RunP.condF rfl | apply RunP.skip | apply RunP.block | apply RunP.exit | apply RunP.ret | refine And.intro (fun w => absurd w (by omega)) (fun _ => ?_) | refine And.intro (fun _ => ?_) (fun w => absurd w (by omega)))
          refine CallK.of (refTruth_has _ true) ?_
          repeat (first | apply RunP.seq | apply RunP.region | apply RunP.condT rfl | apply RunP.condF rfl | apply RunP.skip | apply RunP.block | apply RunP.exit | apply RunP.ret | refine And.intro (fun w => absurd w (by omega)) (fun _ => ?_) | refine And.intro (fun _ => ?_) (fun w => absurd w (by omega)))
          exact ⟨rfl, _, rfl, rfl, (congrArg rV hb).symm⟩
        · rw [show orderedL 13 c = truthL false from by unfold orderedL; simp [hc]] at hb
          repeat (first | apply RunP.seq | apply RunP.region | apply RunP.condT rfl | apply RunP.condF rfl | apply RunP.skip | apply RunP.block | apply RunP.exit | apply RunP.ret | refine And.intro (fun w => absurd w (by omega)) (fun _ => ?_) | refine And.intro (fun _ => ?_) (fun w => absurd w (by omega)))
          refine CallK.of (refTruth_has _ false) ?_
          repeat (first | apply RunP.seq | apply RunP.region | apply RunP.condT rfl | apply RunP.condF rfl | apply RunP.skip | apply RunP.block | apply RunP.exit | apply RunP.ret | refine And.intro (fun w => absurd w (by omega)) (fun _ => ?_) | refine And.intro (fun _ => ?_) (fun w => absurd w (by omega)))
          exact ⟨rfl, _, rfl, rfl, (congrArg rV hb).symm⟩
      · skip
        have hb : binL 13 (kv, nv, sv) (kw, nw, sw) = throwL kindT := by unfold binL; simp [ki, kt]
        have er : resL 13 kv kw = -1 := if kk : kv = kw then (by unfold resL; rw [if_neg (fun q => q kk), if_neg (by omega), if_pos (by omega), if_neg (by omega)]) else (by unfold resL; rw [if_pos kk])
        have hr := fun g => refResult_has g 13 kv kw (by omega) hk0 hw0
        rw [er] at hr
        repeat (first | apply RunP.seq | apply RunP.region | apply RunP.condT rfl | apply RunP.condF rfl | apply RunP.skip | apply RunP.block | apply RunP.exit | apply RunP.ret | refine And.intro (fun w => absurd w (by omega)) (fun _ => ?_) | refine And.intro (fun _ => ?_) (fun w => absurd w (by omega)))
        refine CallK.of (hr _) ?_
        repeat (first | apply RunP.seq | apply RunP.region | apply RunP.condT rfl | apply RunP.condF rfl | apply RunP.skip | apply RunP.block | apply RunP.exit | apply RunP.ret | refine And.intro (fun w => absurd w (by omega)) (fun _ => ?_) | refine And.intro (fun _ => ?_) (fun w => absurd w (by omega)))
        refine CallK.of (throw_has _ _) ?_
        repeat (first | apply RunP.seq | apply RunP.region | apply RunP.condT rfl | apply RunP.condF rfl | apply RunP.skip | apply RunP.block | apply RunP.exit | apply RunP.ret | refine And.intro (fun w => absurd w (by omega)) (fun _ => ?_) | refine And.intro (fun _ => ?_) (fun w => absurd w (by omega)))
        exact ⟨rfl, _, rfl, rfl, (congrArg rV hb).symm⟩
  · by_cases ki : kv = 1 ∧ kw = 1
    · obtain ⟨k1, k2⟩ := ki
      obtain ⟨rfl, _, _⟩ := valid_s1 hv k1
      obtain ⟨rfl, _, _⟩ := valid_s1 hw k2
      have hb : binL 14 (kv, nv, []) (kw, nw, []) = orderedL 14 (cmpI nv nw) := by unfold binL; simp [k1, k2]
      have ho := fun g => orderI_has g kv nv kw nw
      generalize cmpI nv nw = c at hb ho
      have er : resL 14 kv kw = 2 := by unfold resL; simp [k1, k2]
      have hr := fun g => refResult_has g 14 kv kw (by omega) hk0 hw0
      rw [er] at hr
      repeat (first | apply RunP.seq | apply RunP.region | apply RunP.condT rfl | apply RunP.condF rfl | apply RunP.skip | apply RunP.block | apply RunP.exit | apply RunP.ret | refine And.intro (fun w => absurd w (by omega)) (fun _ => ?_) | refine And.intro (fun _ => ?_) (fun w => absurd w (by omega)))
      refine CallK.of (hr _) ?_
      repeat (first | apply RunP.seq | apply RunP.region | apply RunP.condT rfl | apply RunP.condF rfl | apply RunP.skip | apply RunP.block | apply RunP.exit | apply RunP.ret | refine And.intro (fun w => absurd w (by omega)) (fun _ => ?_) | refine And.intro (fun _ => ?_) (fun w => absurd w (by omega)))
      refine CallK.of (ho _) ?_
      by_cases hc : 0 ≤ c
      · rw [show orderedL 14 c = truthL true from by unfold orderedL; simp [hc]] at hb
        repeat (first | apply RunP.seq | apply RunP.region | apply RunP.condT rfl | apply RunP.condF rfl | apply RunP.skip | apply RunP.block | apply RunP.exit | apply RunP.ret | refine And.intro (fun w => absurd w (by omega)) (fun _ => ?_) | refine And.intro (fun _ => ?_) (fun w => absurd w (by omega)))
        refine CallK.of (refTruth_has _ true) ?_
        repeat (first | apply RunP.seq | apply RunP.region | apply RunP.condT rfl | apply RunP.condF rfl | apply RunP.skip | apply RunP.block | apply RunP.exit | apply RunP.ret | refine And.intro (fun w => absurd w (by omega)) (fun _ => ?_) | refine And.intro (fun _ => ?_) (fun w => absurd w (by omega)))
        exact ⟨rfl, _, rfl, rfl, (congrArg rV hb).symm⟩
      · rw [show orderedL 14 c = truthL false from by unfold orderedL; simp [hc]] at hb
        repeat (first | apply RunP.seq | apply RunP.region | apply RunP.condT rfl | apply RunP.condF rfl | apply RunP.skip | apply RunP.block | apply RunP.exit | apply RunP.ret | refine And.intro (fun w => absurd w (by omega)) (fun _ => ?_) | refine And.intro (fun _ => ?_) (fun w => absurd w (by omega)))
        refine CallK.of (refTruth_has _ false) ?_
        repeat (first | apply RunP.seq | apply RunP.region | apply RunP.condT rfl | apply RunP.condF rfl | apply RunP.skip | apply RunP.block | apply RunP.exit | apply RunP.ret | refine And.intro (fun w => absurd w (by omega)) (fun _ => ?_) | refine And.intro (fun _ => ?_) (fun w => absurd w (by omega)))
        exact ⟨rfl, _, rfl, rfl, (congrArg rV hb).symm⟩
    · by_cases kt : kv = 3 ∧ kw = 3
      · obtain ⟨k1, k2⟩ := kt
        obtain rfl := valid_n3 hv k1
        obtain rfl := valid_n3 hw k2
        have hb : binL 14 (kv, 0, sv) (kw, 0, sw) = orderedL 14 (cmpS sv sw) := by unfold binL; simp [k1, k2]
        have ho := fun g => orderS_has g kv kw sv sw
        generalize cmpS sv sw = c at hb ho
        have er : resL 14 kv kw = 2 := by unfold resL; simp [k1, k2]
        have hr := fun g => refResult_has g 14 kv kw (by omega) hk0 hw0
        rw [er] at hr
        repeat (first | apply RunP.seq | apply RunP.region | apply RunP.condT rfl | apply RunP.condF rfl | apply RunP.skip | apply RunP.block | apply RunP.exit | apply RunP.ret | refine And.intro (fun w => absurd w (by omega)) (fun _ => ?_) | refine And.intro (fun _ => ?_) (fun w => absurd w (by omega)))
        refine CallK.of (hr _) ?_
        repeat (first | apply RunP.seq | apply RunP.region | apply RunP.condT rfl | apply RunP.condF rfl | apply RunP.skip | apply RunP.block | apply RunP.exit | apply RunP.ret | refine And.intro (fun w => absurd w (by omega)) (fun _ => ?_) | refine And.intro (fun _ => ?_) (fun w => absurd w (by omega)))
        refine CallK.of (ho _) ?_
        by_cases hc : 0 ≤ c
        · rw [show orderedL 14 c = truthL true from by unfold orderedL; simp [hc]] at hb
          repeat (first | apply RunP.seq | apply RunP.region | apply RunP.condT rfl | apply RunP.condF rfl | apply RunP.skip | apply RunP.block | apply RunP.exit | apply RunP.ret | refine And.intro (fun w => absurd w (by omega)) (fun _ => ?_) | refine And.intro (fun _ => ?_) (fun w => absurd w (by omega)))
          refine CallK.of (refTruth_has _ true) ?_
          repeat (first | apply RunP.seq | apply RunP.region | apply RunP.condT rfl | apply RunP.condF rfl | apply RunP.skip | apply RunP.block | apply RunP.exit | apply RunP.ret | refine And.intro (fun w => absurd w (by omega)) (fun _ => ?_) | refine And.intro (fun _ => ?_) (fun w => absurd w (by omega)))
          exact ⟨rfl, _, rfl, rfl, (congrArg rV hb).symm⟩
        · rw [show orderedL 14 c = truthL false from by unfold orderedL; simp [hc]] at hb
          repeat (first | apply RunP.seq | apply RunP.region | apply RunP.condT rfl | apply RunP.condF rfl | apply RunP.skip | apply RunP.block | apply RunP.exit | apply RunP.ret | refine And.intro (fun w => absurd w (by omega)) (fun _ => ?_) | refine And.intro (fun _ => ?_) (fun w => absurd w (by omega)))
          refine CallK.of (refTruth_has _ false) ?_
          repeat (first | apply RunP.seq | apply RunP.region | apply RunP.condT rfl | apply RunP.condF rfl | apply RunP.skip | apply RunP.block | apply RunP.exit | apply RunP.ret | refine And.intro (fun w => absurd w (by omega)) (fun _ => ?_) | refine And.intro (fun _ => ?_) (fun w => absurd w (by omega)))
          exact ⟨rfl, _, rfl, rfl, (congrArg rV hb).symm⟩
      · skip
        have hb : binL 14 (kv, nv, sv) (kw, nw, sw) = throwL kindT := by unfold binL; simp [ki, kt]
        have er : resL 14 kv kw = -1 := if kk : kv = kw then (by unfold resL; rw [if_neg (fun q => q kk), if_neg (by omega), if_pos (by omega), if_neg (by omega)]) else (by unfold resL; rw [if_pos kk])
        have hr := fun g => refResult_has g 14 kv kw (by omega) hk0 hw0
        rw [er] at hr
        repeat (first | apply RunP.seq | apply RunP.region | apply RunP.condT rfl | apply RunP.condF rfl | apply RunP.skip | apply RunP.block | apply RunP.exit | apply RunP.ret | refine And.intro (fun w => absurd w (by omega)) (fun _ => ?_) | refine And.intro (fun _ => ?_) (fun w => absurd w (by omega)))
        refine CallK.of (hr _) ?_
        repeat (first | apply RunP.seq | apply RunP.region | apply RunP.condT rfl | apply RunP.condF rfl | apply RunP.skip | apply RunP.block | apply RunP.exit | apply RunP.ret | refine And.intro (fun w => absurd w (by omega)) (fun _ => ?_) | refine And.intro (fun _ => ?_) (fun w => absurd w (by omega)))
        refine CallK.of (throw_has _ _) ?_
        repeat (first | apply RunP.seq | apply RunP.region | apply RunP.condT rfl | apply RunP.condF rfl | apply RunP.skip | apply RunP.block | apply RunP.exit | apply RunP.ret | refine And.intro (fun w => absurd w (by omega)) (fun _ => ?_) | refine And.intro (fun _ => ?_) (fun w => absurd w (by omega)))
        exact ⟨rfl, _, rfl, rfl, (congrArg rV hb).symm⟩
set_option maxHeartbeats 8000000 in
theorem refBinD_has (h : Heap) (op kv nv : Int) (sv : List UInt8) (kw nw : Int) (sw : List UInt8) (hop : op = 15) (hv : ValidP kv nv sv) (hw : ValidP kw nw sw) : Has envQ .own 30 [.int .i64 op, .agg [.int .i64 kv, .int .i64 nv, .str sv], .agg [.int .i64 kw, .int .i64 nw, .str sw]] h (.val (rV (binL op (kv, nv, sv) (kw, nw, sw))) h) := by
  suffices hx : ∃ v, Has envQ .own 30 [.int .i64 op, .agg [.int .i64 kv, .int .i64 nv, .str sv], .agg [.int .i64 kw, .int .i64 nw, .str sw]] h (.val v h) ∧ v = rV (binL op (kv, nv, sv) (kw, nw, sw)) by
    obtain ⟨v, h1, rfl⟩ := hx; exact h1
  refine HasP.ownE (a := [.int .i64 op, .agg [.int .i64 kv, .int .i64 nv, .str sv], .agg [.int .i64 kw, .int .i64 nw, .str sw]]) (d := fn30) rfl rfl rfl (of_decide_eq_true rfl) ?_
  have hk0 := valid_k0 hv
  have hw0 := valid_k0 hw
  have hsv := valid_len hv
  have hsw := valid_len hw
  subst hop
  by_cases ki : kv = 1 ∧ kw = 1
  · obtain ⟨k1, k2⟩ := ki
    have hb : binL 15 (kv, nv, sv) (kw, nw, sw) = numberL (IntKind.i64.wrap (nv + nw)) := by unfold binL arithL; simp [k1, k2]
    have er : resL 15 kv kw = 1 := by unfold resL; simp [k1, k2]
    have hr := fun g => refResult_has g 15 kv kw (by omega) hk0 hw0
    rw [er] at hr
    repeat (first | apply RunP.seq | apply RunP.region | apply RunP.condT rfl | apply RunP.condF rfl | apply RunP.skip | apply RunP.block | apply RunP.exit | apply RunP.ret | refine And.intro (fun w => absurd w (by omega)) (fun _ => ?_) | refine And.intro (fun _ => ?_) (fun w => absurd w (by omega)))
    refine CallK.of (hr _) ?_
    repeat (first | apply RunP.seq | apply RunP.region | apply RunP.condT rfl | apply RunP.condF rfl | apply RunP.skip | apply RunP.block | apply RunP.exit | apply RunP.ret | refine And.intro (fun w => absurd w (by omega)) (fun _ => ?_) | refine And.intro (fun _ => ?_) (fun w => absurd w (by omega)))
    refine CallK.of (refNumber_has _ _) ?_
    repeat (first | apply RunP.seq | apply RunP.region | apply RunP.condT rfl | apply RunP.condF rfl | apply RunP.skip | apply RunP.block | apply RunP.exit | apply RunP.ret | refine And.intro (fun w => absurd w (by omega)) (fun _ => ?_) | refine And.intro (fun _ => ?_) (fun w => absurd w (by omega)))
    exact ⟨rfl, _, rfl, rfl, (congrArg rV hb).symm⟩
  · by_cases kt : kv = 3 ∧ kw = 3
    · obtain ⟨k1, k2⟩ := kt
      have er : resL 15 kv kw = 3 := by unfold resL; simp [k1, k2]
      have hr := fun g => refResult_has g 15 kv kw (by omega) hk0 hw0
      rw [er] at hr
      have hl : IntKind.i64.wrap ((sv.length : Int) + (sw.length : Int)) = ((sv.length + sw.length : Nat) : Int) := by rw [wrapS (by omega) (by omega)]; omega
      by_cases h6 : 60 < sv.length + sw.length
      · have hb : binL 15 (kv, nv, sv) (kw, nw, sw) = throwL longT := by unfold binL; simp [k1, k2, h6]
        repeat (first | apply RunP.seq | apply RunP.region | apply RunP.condT rfl | apply RunP.condF rfl | apply RunP.skip | apply RunP.block | apply RunP.exit | apply RunP.ret | refine And.intro (fun w => absurd w (by omega)) (fun _ => ?_) | refine And.intro (fun _ => ?_) (fun w => absurd w (by omega)))
        refine CallK.of (hr _) ?_
        repeat (first | apply RunP.seq | apply RunP.region | apply RunP.condT rfl | apply RunP.condF rfl | apply RunP.skip | apply RunP.block | apply RunP.exit | apply RunP.ret | refine And.intro (fun w => absurd w (by omega)) (fun _ => ?_) | refine And.intro (fun _ => ?_) (fun w => absurd w (by omega)))
        refine CallK.of (throw_has _ _) ?_
        repeat (first | apply RunP.seq | apply RunP.region | apply RunP.condT rfl | apply RunP.condF rfl | apply RunP.skip | apply RunP.block | apply RunP.exit | apply RunP.ret | refine And.intro (fun w => absurd w (by omega)) (fun _ => ?_) | refine And.intro (fun _ => ?_) (fun w => absurd w (by omega)))
        exact ⟨rfl, _, rfl, rfl, (congrArg rV hb).symm⟩
      · have hb : binL 15 (kv, nv, sv) (kw, nw, sw) = ((3, 0, sv ++ sw), noF) := by unfold binL; simp [k1, k2, h6]
        repeat (first | apply RunP.seq | apply RunP.region | apply RunP.condT rfl | apply RunP.condF rfl | apply RunP.skip | apply RunP.block | apply RunP.exit | apply RunP.ret | refine And.intro (fun w => absurd w (by omega)) (fun _ => ?_) | refine And.intro (fun _ => ?_) (fun w => absurd w (by omega)))
        refine CallK.of (hr _) ?_
        repeat (first | apply RunP.seq | apply RunP.region | apply RunP.condT rfl | apply RunP.condF rfl | apply RunP.skip | apply RunP.block | apply RunP.exit | apply RunP.ret | refine And.intro (fun w => absurd w (by omega)) (fun _ => ?_) | refine And.intro (fun _ => ?_) (fun w => absurd w (by omega)))
        refine And.intro (by omega) ?_
        repeat (first | apply RunP.seq | apply RunP.region | apply RunP.condT rfl | apply RunP.condF rfl | apply RunP.skip | apply RunP.block | apply RunP.exit | apply RunP.ret | refine And.intro (fun w => absurd w (by omega)) (fun _ => ?_) | refine And.intro (fun _ => ?_) (fun w => absurd w (by omega)))
        exact ⟨rfl, _, rfl, rfl, (congrArg rV hb).symm⟩
    · skip
      have hb : binL 15 (kv, nv, sv) (kw, nw, sw) = throwL kindT := by unfold binL; simp [ki, kt]
      have er : resL 15 kv kw = -1 := if kk : kv = kw then (by unfold resL; rw [if_neg (fun q => q kk), if_neg (by omega), if_neg (by omega), if_pos rfl, if_neg (by omega)]) else (by unfold resL; rw [if_pos kk])
      have hr := fun g => refResult_has g 15 kv kw (by omega) hk0 hw0
      rw [er] at hr
      repeat (first | apply RunP.seq | apply RunP.region | apply RunP.condT rfl | apply RunP.condF rfl | apply RunP.skip | apply RunP.block | apply RunP.exit | apply RunP.ret | refine And.intro (fun w => absurd w (by omega)) (fun _ => ?_) | refine And.intro (fun _ => ?_) (fun w => absurd w (by omega)))
      refine CallK.of (hr _) ?_
      repeat (first | apply RunP.seq | apply RunP.region | apply RunP.condT rfl | apply RunP.condF rfl | apply RunP.skip | apply RunP.block | apply RunP.exit | apply RunP.ret | refine And.intro (fun w => absurd w (by omega)) (fun _ => ?_) | refine And.intro (fun _ => ?_) (fun w => absurd w (by omega)))
      refine CallK.of (throw_has _ _) ?_
      repeat (first | apply RunP.seq | apply RunP.region | apply RunP.condT rfl | apply RunP.condF rfl | apply RunP.skip | apply RunP.block | apply RunP.exit | apply RunP.ret | refine And.intro (fun w => absurd w (by omega)) (fun _ => ?_) | refine And.intro (fun _ => ?_) (fun w => absurd w (by omega)))
      exact ⟨rfl, _, rfl, rfl, (congrArg rV hb).symm⟩
set_option maxHeartbeats 8000000 in
theorem refBinE_has (h : Heap) (op kv nv : Int) (sv : List UInt8) (kw nw : Int) (sw : List UInt8) (hop : op = 16 ∨ op = 17 ∨ op = 18 ∨ op = 19) (hv : ValidP kv nv sv) (hw : ValidP kw nw sw) : Has envQ .own 30 [.int .i64 op, .agg [.int .i64 kv, .int .i64 nv, .str sv], .agg [.int .i64 kw, .int .i64 nw, .str sw]] h (.val (rV (binL op (kv, nv, sv) (kw, nw, sw))) h) := by
  suffices hx : ∃ v, Has envQ .own 30 [.int .i64 op, .agg [.int .i64 kv, .int .i64 nv, .str sv], .agg [.int .i64 kw, .int .i64 nw, .str sw]] h (.val v h) ∧ v = rV (binL op (kv, nv, sv) (kw, nw, sw)) by
    obtain ⟨v, h1, rfl⟩ := hx; exact h1
  refine HasP.ownE (a := [.int .i64 op, .agg [.int .i64 kv, .int .i64 nv, .str sv], .agg [.int .i64 kw, .int .i64 nw, .str sw]]) (d := fn30) rfl rfl rfl (of_decide_eq_true rfl) ?_
  have hk0 := valid_k0 hv
  have hw0 := valid_k0 hw
  have hsv := valid_len hv
  have hsw := valid_len hw
  rcases hop with rfl | rfl | rfl | rfl
  · by_cases ki : kv = 1 ∧ kw = 1
    · obtain ⟨k1, k2⟩ := ki
      have hb : binL 16 (kv, nv, sv) (kw, nw, sw) = numberL (IntKind.i64.wrap (nv - nw)) := by unfold binL arithL; simp [k1, k2]
      have er : resL 16 kv kw = 1 := by unfold resL; simp [k1, k2]
      have hr := fun g => refResult_has g 16 kv kw (by omega) hk0 hw0
      rw [er] at hr
      repeat (first | apply RunP.seq | apply RunP.region | apply RunP.condT rfl | apply RunP.condF rfl | apply RunP.skip | apply RunP.block | apply RunP.exit | apply RunP.ret | refine And.intro (fun w => absurd w (by omega)) (fun _ => ?_) | refine And.intro (fun _ => ?_) (fun w => absurd w (by omega)))
      refine CallK.of (hr _) ?_
      repeat (first | apply RunP.seq | apply RunP.region | apply RunP.condT rfl | apply RunP.condF rfl | apply RunP.skip | apply RunP.block | apply RunP.exit | apply RunP.ret | refine And.intro (fun w => absurd w (by omega)) (fun _ => ?_) | refine And.intro (fun _ => ?_) (fun w => absurd w (by omega)))
      refine CallK.of (refNumber_has _ _) ?_
      repeat (first | apply RunP.seq | apply RunP.region | apply RunP.condT rfl | apply RunP.condF rfl | apply RunP.skip | apply RunP.block | apply RunP.exit | apply RunP.ret | refine And.intro (fun w => absurd w (by omega)) (fun _ => ?_) | refine And.intro (fun _ => ?_) (fun w => absurd w (by omega)))
      exact ⟨rfl, _, rfl, rfl, (congrArg rV hb).symm⟩
    · skip
      have hb : binL 16 (kv, nv, sv) (kw, nw, sw) = throwL kindT := by unfold binL; simp [ki]
      have er : resL 16 kv kw = -1 := if kk : kv = kw then (by unfold resL; rw [if_neg (fun q => q kk), if_neg (by omega), if_neg (by omega), if_neg (by omega), if_neg (by omega)]) else (by unfold resL; rw [if_pos kk])
      have hr := fun g => refResult_has g 16 kv kw (by omega) hk0 hw0
      rw [er] at hr
      repeat (first | apply RunP.seq | apply RunP.region | apply RunP.condT rfl | apply RunP.condF rfl | apply RunP.skip | apply RunP.block | apply RunP.exit | apply RunP.ret | refine And.intro (fun w => absurd w (by omega)) (fun _ => ?_) | refine And.intro (fun _ => ?_) (fun w => absurd w (by omega)))
      refine CallK.of (hr _) ?_
      repeat (first | apply RunP.seq | apply RunP.region | apply RunP.condT rfl | apply RunP.condF rfl | apply RunP.skip | apply RunP.block | apply RunP.exit | apply RunP.ret | refine And.intro (fun w => absurd w (by omega)) (fun _ => ?_) | refine And.intro (fun _ => ?_) (fun w => absurd w (by omega)))
      refine CallK.of (throw_has _ _) ?_
      repeat (first | apply RunP.seq | apply RunP.region | apply RunP.condT rfl | apply RunP.condF rfl | apply RunP.skip | apply RunP.block | apply RunP.exit | apply RunP.ret | refine And.intro (fun w => absurd w (by omega)) (fun _ => ?_) | refine And.intro (fun _ => ?_) (fun w => absurd w (by omega)))
      exact ⟨rfl, _, rfl, rfl, (congrArg rV hb).symm⟩
  · by_cases ki : kv = 1 ∧ kw = 1
    · obtain ⟨k1, k2⟩ := ki
      obtain ⟨_, ha1, ha2⟩ := valid_s1 hv k1
      obtain ⟨_, hb1, hb2⟩ := valid_s1 hw k2
      have hb : binL 17 (kv, nv, sv) (kw, nw, sw) = numberL (timesL nv nw) := by rw [times_product ⟨ha1, ha2⟩ ⟨hb1, hb2⟩]; unfold binL arithL; simp [k1, k2]
      have er : resL 17 kv kw = 1 := by unfold resL; simp [k1, k2]
      have hr := fun g => refResult_has g 17 kv kw (by omega) hk0 hw0
      rw [er] at hr
      repeat (first | apply RunP.seq | apply RunP.region | apply RunP.condT rfl | apply RunP.condF rfl | apply RunP.skip | apply RunP.block | apply RunP.exit | apply RunP.ret | refine And.intro (fun w => absurd w (by omega)) (fun _ => ?_) | refine And.intro (fun _ => ?_) (fun w => absurd w (by omega)))
      refine CallK.of (hr _) ?_
      repeat (first | apply RunP.seq | apply RunP.region | apply RunP.condT rfl | apply RunP.condF rfl | apply RunP.skip | apply RunP.block | apply RunP.exit | apply RunP.ret | refine And.intro (fun w => absurd w (by omega)) (fun _ => ?_) | refine And.intro (fun _ => ?_) (fun w => absurd w (by omega)))
      refine CallK.of (refTimes_has _ _ _) ?_
      refine CallK.of (refNumber_has _ _) ?_
      repeat (first | apply RunP.seq | apply RunP.region | apply RunP.condT rfl | apply RunP.condF rfl | apply RunP.skip | apply RunP.block | apply RunP.exit | apply RunP.ret | refine And.intro (fun w => absurd w (by omega)) (fun _ => ?_) | refine And.intro (fun _ => ?_) (fun w => absurd w (by omega)))
      exact ⟨rfl, _, rfl, rfl, (congrArg rV hb).symm⟩
    · skip
      have hb : binL 17 (kv, nv, sv) (kw, nw, sw) = throwL kindT := by unfold binL; simp [ki]
      have er : resL 17 kv kw = -1 := if kk : kv = kw then (by unfold resL; rw [if_neg (fun q => q kk), if_neg (by omega), if_neg (by omega), if_neg (by omega), if_neg (by omega)]) else (by unfold resL; rw [if_pos kk])
      have hr := fun g => refResult_has g 17 kv kw (by omega) hk0 hw0
      rw [er] at hr
      repeat (first | apply RunP.seq | apply RunP.region | apply RunP.condT rfl | apply RunP.condF rfl | apply RunP.skip | apply RunP.block | apply RunP.exit | apply RunP.ret | refine And.intro (fun w => absurd w (by omega)) (fun _ => ?_) | refine And.intro (fun _ => ?_) (fun w => absurd w (by omega)))
      refine CallK.of (hr _) ?_
      repeat (first | apply RunP.seq | apply RunP.region | apply RunP.condT rfl | apply RunP.condF rfl | apply RunP.skip | apply RunP.block | apply RunP.exit | apply RunP.ret | refine And.intro (fun w => absurd w (by omega)) (fun _ => ?_) | refine And.intro (fun _ => ?_) (fun w => absurd w (by omega)))
      refine CallK.of (throw_has _ _) ?_
      repeat (first | apply RunP.seq | apply RunP.region | apply RunP.condT rfl | apply RunP.condF rfl | apply RunP.skip | apply RunP.block | apply RunP.exit | apply RunP.ret | refine And.intro (fun w => absurd w (by omega)) (fun _ => ?_) | refine And.intro (fun _ => ?_) (fun w => absurd w (by omega)))
      exact ⟨rfl, _, rfl, rfl, (congrArg rV hb).symm⟩
  · by_cases ki : kv = 1 ∧ kw = 1
    · obtain ⟨k1, k2⟩ := ki
      have er : resL 18 kv kw = 1 := by unfold resL; simp [k1, k2]
      have hr := fun g => refResult_has g 18 kv kw (by omega) hk0 hw0
      rw [er] at hr
      by_cases n0 : nw = 0
      · have hb : binL 18 (kv, nv, sv) (kw, nw, sw) = throwL zeroT := by unfold binL arithL quoL; simp [k1, k2, n0]
        repeat (first | apply RunP.seq | apply RunP.region | apply RunP.condT rfl | apply RunP.condF rfl | apply RunP.skip | apply RunP.block | apply RunP.exit | apply RunP.ret | refine And.intro (fun w => absurd w (by omega)) (fun _ => ?_) | refine And.intro (fun _ => ?_) (fun w => absurd w (by omega)))
        refine CallK.of (hr _) ?_
        repeat (first | apply RunP.seq | apply RunP.region | apply RunP.condT rfl | apply RunP.condF rfl | apply RunP.skip | apply RunP.block | apply RunP.exit | apply RunP.ret | refine And.intro (fun w => absurd w (by omega)) (fun _ => ?_) | refine And.intro (fun _ => ?_) (fun w => absurd w (by omega)))
        refine CallK.of (throw_has _ _) ?_
        repeat (first | apply RunP.seq | apply RunP.region | apply RunP.condT rfl | apply RunP.condF rfl | apply RunP.skip | apply RunP.block | apply RunP.exit | apply RunP.ret | refine And.intro (fun w => absurd w (by omega)) (fun _ => ?_) | refine And.intro (fun _ => ?_) (fun w => absurd w (by omega)))
        exact ⟨rfl, _, rfl, rfl, (congrArg rV hb).symm⟩
      · have hb : binL 18 (kv, nv, sv) (kw, nw, sw) = numberL (IntKind.i64.wrap (nv.tdiv nw)) := by unfold binL arithL quoL; simp [k1, k2, n0]
        repeat (first | apply RunP.seq | apply RunP.region | apply RunP.condT rfl | apply RunP.condF rfl | apply RunP.skip | apply RunP.block | apply RunP.exit | apply RunP.ret | refine And.intro (fun w => absurd w (by omega)) (fun _ => ?_) | refine And.intro (fun _ => ?_) (fun w => absurd w (by omega)))
        refine CallK.of (hr _) ?_
        repeat (first | apply RunP.seq | apply RunP.region | apply RunP.condT rfl | apply RunP.condF rfl | apply RunP.skip | apply RunP.block | apply RunP.exit | apply RunP.ret | refine And.intro (fun w => absurd w (by omega)) (fun _ => ?_) | refine And.intro (fun _ => ?_) (fun w => absurd w (by omega)))
        refine And.intro rfl (And.intro n0 ?_)
        refine CallK.of (refNumber_has _ _) ?_
        repeat (first | apply RunP.seq | apply RunP.region | apply RunP.condT rfl | apply RunP.condF rfl | apply RunP.skip | apply RunP.block | apply RunP.exit | apply RunP.ret | refine And.intro (fun w => absurd w (by omega)) (fun _ => ?_) | refine And.intro (fun _ => ?_) (fun w => absurd w (by omega)))
        exact ⟨rfl, _, rfl, rfl, (congrArg rV hb).symm⟩
    · skip
      have hb : binL 18 (kv, nv, sv) (kw, nw, sw) = throwL kindT := by unfold binL; simp [ki]
      have er : resL 18 kv kw = -1 := if kk : kv = kw then (by unfold resL; rw [if_neg (fun q => q kk), if_neg (by omega), if_neg (by omega), if_neg (by omega), if_neg (by omega)]) else (by unfold resL; rw [if_pos kk])
      have hr := fun g => refResult_has g 18 kv kw (by omega) hk0 hw0
      rw [er] at hr
      repeat (first | apply RunP.seq | apply RunP.region | apply RunP.condT rfl | apply RunP.condF rfl | apply RunP.skip | apply RunP.block | apply RunP.exit | apply RunP.ret | refine And.intro (fun w => absurd w (by omega)) (fun _ => ?_) | refine And.intro (fun _ => ?_) (fun w => absurd w (by omega)))
      refine CallK.of (hr _) ?_
      repeat (first | apply RunP.seq | apply RunP.region | apply RunP.condT rfl | apply RunP.condF rfl | apply RunP.skip | apply RunP.block | apply RunP.exit | apply RunP.ret | refine And.intro (fun w => absurd w (by omega)) (fun _ => ?_) | refine And.intro (fun _ => ?_) (fun w => absurd w (by omega)))
      refine CallK.of (throw_has _ _) ?_
      repeat (first | apply RunP.seq | apply RunP.region | apply RunP.condT rfl | apply RunP.condF rfl | apply RunP.skip | apply RunP.block | apply RunP.exit | apply RunP.ret | refine And.intro (fun w => absurd w (by omega)) (fun _ => ?_) | refine And.intro (fun _ => ?_) (fun w => absurd w (by omega)))
      exact ⟨rfl, _, rfl, rfl, (congrArg rV hb).symm⟩
  · by_cases ki : kv = 1 ∧ kw = 1
    · obtain ⟨k1, k2⟩ := ki
      have er : resL 19 kv kw = 1 := by unfold resL; simp [k1, k2]
      have hr := fun g => refResult_has g 19 kv kw (by omega) hk0 hw0
      rw [er] at hr
      by_cases n0 : nw = 0
      · have hb : binL 19 (kv, nv, sv) (kw, nw, sw) = throwL zeroT := by unfold binL arithL remL; simp [k1, k2, n0]
        repeat (first | apply RunP.seq | apply RunP.region | apply RunP.condT rfl | apply RunP.condF rfl | apply RunP.skip | apply RunP.block | apply RunP.exit | apply RunP.ret | refine And.intro (fun w => absurd w (by omega)) (fun _ => ?_) | refine And.intro (fun _ => ?_) (fun w => absurd w (by omega)))
        refine CallK.of (hr _) ?_
        repeat (first | apply RunP.seq | apply RunP.region | apply RunP.condT rfl | apply RunP.condF rfl | apply RunP.skip | apply RunP.block | apply RunP.exit | apply RunP.ret | refine And.intro (fun w => absurd w (by omega)) (fun _ => ?_) | refine And.intro (fun _ => ?_) (fun w => absurd w (by omega)))
        refine CallK.of (throw_has _ _) ?_
        repeat (first | apply RunP.seq | apply RunP.region | apply RunP.condT rfl | apply RunP.condF rfl | apply RunP.skip | apply RunP.block | apply RunP.exit | apply RunP.ret | refine And.intro (fun w => absurd w (by omega)) (fun _ => ?_) | refine And.intro (fun _ => ?_) (fun w => absurd w (by omega)))
        exact ⟨rfl, _, rfl, rfl, (congrArg rV hb).symm⟩
      · have hb : binL 19 (kv, nv, sv) (kw, nw, sw) = numberL (nv.tmod nw) := by unfold binL arithL remL; simp [k1, k2, n0]
        repeat (first | apply RunP.seq | apply RunP.region | apply RunP.condT rfl | apply RunP.condF rfl | apply RunP.skip | apply RunP.block | apply RunP.exit | apply RunP.ret | refine And.intro (fun w => absurd w (by omega)) (fun _ => ?_) | refine And.intro (fun _ => ?_) (fun w => absurd w (by omega)))
        refine CallK.of (hr _) ?_
        repeat (first | apply RunP.seq | apply RunP.region | apply RunP.condT rfl | apply RunP.condF rfl | apply RunP.skip | apply RunP.block | apply RunP.exit | apply RunP.ret | refine And.intro (fun w => absurd w (by omega)) (fun _ => ?_) | refine And.intro (fun _ => ?_) (fun w => absurd w (by omega)))
        refine And.intro rfl (And.intro n0 ?_)
        refine CallK.of (refNumber_has _ _) ?_
        repeat (first | apply RunP.seq | apply RunP.region | apply RunP.condT rfl | apply RunP.condF rfl | apply RunP.skip | apply RunP.block | apply RunP.exit | apply RunP.ret | refine And.intro (fun w => absurd w (by omega)) (fun _ => ?_) | refine And.intro (fun _ => ?_) (fun w => absurd w (by omega)))
        exact ⟨rfl, _, rfl, rfl, (congrArg rV hb).symm⟩
    · skip
      have hb : binL 19 (kv, nv, sv) (kw, nw, sw) = throwL kindT := by unfold binL; simp [ki]
      have er : resL 19 kv kw = -1 := if kk : kv = kw then (by unfold resL; rw [if_neg (fun q => q kk), if_neg (by omega), if_neg (by omega), if_neg (by omega), if_neg (by omega)]) else (by unfold resL; rw [if_pos kk])
      have hr := fun g => refResult_has g 19 kv kw (by omega) hk0 hw0
      rw [er] at hr
      repeat (first | apply RunP.seq | apply RunP.region | apply RunP.condT rfl | apply RunP.condF rfl | apply RunP.skip | apply RunP.block | apply RunP.exit | apply RunP.ret | refine And.intro (fun w => absurd w (by omega)) (fun _ => ?_) | refine And.intro (fun _ => ?_) (fun w => absurd w (by omega)))
      refine CallK.of (hr _) ?_
      repeat (first | apply RunP.seq | apply RunP.region | apply RunP.condT rfl | apply RunP.condF rfl | apply RunP.skip | apply RunP.block | apply RunP.exit | apply RunP.ret | refine And.intro (fun w => absurd w (by omega)) (fun _ => ?_) | refine And.intro (fun _ => ?_) (fun w => absurd w (by omega)))
      refine CallK.of (throw_has _ _) ?_
      repeat (first | apply RunP.seq | apply RunP.region | apply RunP.condT rfl | apply RunP.condF rfl | apply RunP.skip | apply RunP.block | apply RunP.exit | apply RunP.ret | refine And.intro (fun w => absurd w (by omega)) (fun _ => ?_) | refine And.intro (fun _ => ?_) (fun w => absurd w (by omega)))
      exact ⟨rfl, _, rfl, rfl, (congrArg rV hb).symm⟩
theorem refBinary_has (h : Heap) (op kv nv : Int) (sv : List UInt8) (kw nw : Int) (sw : List UInt8) (hop : 7 ≤ op ∧ op ≤ 19) (hv : ValidP kv nv sv) (hw : ValidP kw nw sw) : Has envQ .own 30 [.int .i64 op, .agg [.int .i64 kv, .int .i64 nv, .str sv], .agg [.int .i64 kw, .int .i64 nw, .str sw]] h (.val (rV (binL op (kv, nv, sv) (kw, nw, sw))) h) := by
  by_cases h1 : op ≤ 8
  · exact refBinA_has h op kv nv sv kw nw sw (by omega) hv hw
  · by_cases h2 : op ≤ 10
    · exact refBinB_has h op kv nv sv kw nw sw (by omega) hv hw
    · by_cases h3 : op ≤ 14
      · exact refBinC_has h op kv nv sv kw nw sw (by omega) hv hw
      · by_cases h4 : op = 15
        · exact refBinD_has h op kv nv sv kw nw sw h4 hv hw
        · exact refBinE_has h op kv nv sv kw nw sw (by omega) hv hw
end Go.Proofs.YtkjhnpmgieplgaaGreatDoor
