/- The law PackNumbers. -/
import Derived.Test.YtekmafoicobphaaGreatDoorSb13RefN
set_option linter.unusedVariables false
set_option linter.unusedSimpArgs false
namespace Go.Proofs.YtekmafoicobphaaGreatDoor
open Go.Sb
set_option maxRecDepth 100000

theorem brief_len13 (s : List UInt8) : ((List.drop 0 (List.take (if (60001 : Int) < (s.length : Int) then (60001 : Int) else (s.length : Int)).toNat s)).length : Int) ≤ 60001 := by
  rw [List.drop_zero, List.length_take]
  split <;> omega
theorem brief13_has (h : Heap) (s : List UInt8) : ∃ u : List UInt8, u.length ≤ 60001 ∧ Has envQ .own 9 [.str s] h (.val (.str u) h) := by
  refine ⟨List.drop 0 (List.take (if (60001 : Int) < (s.length : Int) then (60001 : Int) else (s.length : Int)).toNat s), by have := brief_len13 s; omega, ?_⟩
  refine HasP.own (a := [.str s]) (d := fn9) rfl rfl rfl (of_decide_eq_true rfl) ?_
  repeat (first | apply RunP.seq | apply RunP.region | apply RunP.condT rfl | apply RunP.condF rfl | apply RunP.skip | apply RunP.block | apply RunP.exit | apply RunP.ret)
  apply And.intro
  · split <;> omega
  apply And.intro
  · split <;> omega
  repeat (first | apply RunP.seq | apply RunP.region | apply RunP.condT rfl | apply RunP.condF rfl | apply RunP.skip | apply RunP.block | apply RunP.exit | apply RunP.ret)
  exact ⟨rfl, rfl, rfl⟩
set_option maxHeartbeats 4000000 in
theorem packNumbers_has (z : Int) (hz : -9223372036854775808 ≤ z ∧ z ≤ 9223372036854775807) (s : List UInt8) : Has envQ .own 4 [.int .i64 z, .str s] [] (.val (.bool true) []) := by
  obtain ⟨u, hu, hb⟩ := brief13_has [] s
  refine HasP.own (a := [.int .i64 z, .str s]) (d := fn4) rfl rfl rfl (of_decide_eq_true rfl) ?_
  repeat (first | apply RunP.seq | apply RunP.region | apply RunP.condT rfl | apply RunP.condF rfl | apply RunP.skip | apply RunP.block | apply RunP.exit | apply RunP.ret)
  refine CallK.of hb ?_
  repeat (first | apply RunP.seq | apply RunP.region | apply RunP.condT rfl | apply RunP.condF rfl | apply RunP.skip | apply RunP.block | apply RunP.exit | apply RunP.ret)
  refine CallK.of (sum_has _ u (by omega)) ?_
  refine CallK.of (refSum_has _ u (by omega)) ?_
  refine And.intro (fun _ => ?_) (fun w => absurd rfl w)
  repeat (first | apply RunP.seq | apply RunP.region | apply RunP.condT rfl | apply RunP.condF rfl | apply RunP.skip | apply RunP.block | apply RunP.exit | apply RunP.ret)
  have hr := readNum_has [] (u := u) (by omega)
  obtain ⟨rv, hR, hrv⟩ := refRead_has [] u (by omega)
  by_cases hneg : z < 0
  · refine CallK.of (numberN_neg _ z hneg) ?_
    repeat (first | apply RunP.seq | apply RunP.region | apply RunP.condT rfl | apply RunP.condF rfl | apply RunP.skip | apply RunP.block | apply RunP.exit | apply RunP.ret)
    refine And.intro (fun _ => ?_) (fun w => absurd w (by omega))
    repeat (first | apply RunP.seq | apply RunP.region | apply RunP.condT rfl | apply RunP.condF rfl | apply RunP.skip | apply RunP.block | apply RunP.exit | apply RunP.ret)
    refine And.intro (fun _ => ?_) (fun w => absurd rfl w)
    refine And.intro (fun _ => ?_) (fun w => absurd rfl w)
    repeat (first | apply RunP.seq | apply RunP.region | apply RunP.condT rfl | apply RunP.condF rfl | apply RunP.skip | apply RunP.block | apply RunP.exit | apply RunP.ret)
    rcases hrv with ⟨p, hp, rfl⟩ | ⟨hp, a, b, rfl⟩
    · rw [hp] at hr
      refine CallK.of hr ?_
      repeat (first | apply RunP.seq | apply RunP.region | apply RunP.condT rfl | apply RunP.condF rfl | apply RunP.skip | apply RunP.block | apply RunP.exit | apply RunP.ret)
      refine CallK.of hR ?_
      repeat (first | apply RunP.seq | apply RunP.region | apply RunP.condT rfl | apply RunP.condF rfl | apply RunP.skip | apply RunP.block | apply RunP.exit | apply RunP.ret)
      refine And.intro (fun _ => ?_) (fun w => absurd rfl w)
      refine And.intro (fun _ => ?_) (fun w => absurd rfl w)
      refine And.intro (fun _ => ?_) (fun w => absurd rfl w)
      refine CallK.of (awake_told _) ?_
      repeat (first | apply RunP.seq | apply RunP.region | apply RunP.condT rfl | apply RunP.condF rfl | apply RunP.skip | apply RunP.block | apply RunP.exit | apply RunP.ret)
      exact ⟨rfl, rfl, rfl⟩
    · rw [hp] at hr
      refine CallK.of hr ?_
      repeat (first | apply RunP.seq | apply RunP.region | apply RunP.condT rfl | apply RunP.condF rfl | apply RunP.skip | apply RunP.block | apply RunP.exit | apply RunP.ret)
      refine CallK.of hR ?_
      repeat (first | apply RunP.seq | apply RunP.region | apply RunP.condT rfl | apply RunP.condF rfl | apply RunP.skip | apply RunP.block | apply RunP.exit | apply RunP.ret)
      refine And.intro (fun _ => ?_) (fun w => absurd rfl w)
      refine And.intro (fun _ => ?_) (fun w => absurd rfl w)
      refine And.intro (fun _ => ?_) (fun w => absurd rfl w)
      refine CallK.of (awake_told _) ?_
      repeat (first | apply RunP.seq | apply RunP.region | apply RunP.condT rfl | apply RunP.condF rfl | apply RunP.skip | apply RunP.block | apply RunP.exit | apply RunP.ret)
      exact ⟨rfl, rfl, rfl⟩
  · obtain ⟨n, rfl⟩ : ∃ n : Nat, z = n := ⟨z.toNat, by omega⟩
    refine CallK.of (numberN_has _ n (by omega)) ?_
    repeat (first | apply RunP.seq | apply RunP.region | apply RunP.condT rfl | apply RunP.condF rfl | apply RunP.skip | apply RunP.block | apply RunP.exit | apply RunP.ret)
    refine And.intro (fun w => absurd w (by omega)) (fun _ => ?_)
    repeat (first | apply RunP.seq | apply RunP.region | apply RunP.condT rfl | apply RunP.condF rfl | apply RunP.skip | apply RunP.block | apply RunP.exit | apply RunP.ret)
    refine CallK.of (refNumber_has _ n (by omega)) ?_
    refine And.intro (fun _ => ?_) (fun w => absurd rfl w)
    refine And.intro (fun _ => ?_) (fun w => absurd rfl w)
    repeat (first | apply RunP.seq | apply RunP.region | apply RunP.condT rfl | apply RunP.condF rfl | apply RunP.skip | apply RunP.block | apply RunP.exit | apply RunP.ret)
    rcases hrv with ⟨p, hp, rfl⟩ | ⟨hp, a, b, rfl⟩
    · rw [hp] at hr
      refine CallK.of hr ?_
      repeat (first | apply RunP.seq | apply RunP.region | apply RunP.condT rfl | apply RunP.condF rfl | apply RunP.skip | apply RunP.block | apply RunP.exit | apply RunP.ret)
      refine CallK.of hR ?_
      repeat (first | apply RunP.seq | apply RunP.region | apply RunP.condT rfl | apply RunP.condF rfl | apply RunP.skip | apply RunP.block | apply RunP.exit | apply RunP.ret)
      refine And.intro (fun _ => ?_) (fun w => absurd rfl w)
      refine And.intro (fun _ => ?_) (fun w => absurd rfl w)
      refine And.intro (fun _ => ?_) (fun w => absurd rfl w)
      refine CallK.of (awake_told _) ?_
      repeat (first | apply RunP.seq | apply RunP.region | apply RunP.condT rfl | apply RunP.condF rfl | apply RunP.skip | apply RunP.block | apply RunP.exit | apply RunP.ret)
      exact ⟨rfl, rfl, rfl⟩
    · rw [hp] at hr
      refine CallK.of hr ?_
      repeat (first | apply RunP.seq | apply RunP.region | apply RunP.condT rfl | apply RunP.condF rfl | apply RunP.skip | apply RunP.block | apply RunP.exit | apply RunP.ret)
      refine CallK.of hR ?_
      repeat (first | apply RunP.seq | apply RunP.region | apply RunP.condT rfl | apply RunP.condF rfl | apply RunP.skip | apply RunP.block | apply RunP.exit | apply RunP.ret)
      refine And.intro (fun _ => ?_) (fun w => absurd rfl w)
      refine And.intro (fun _ => ?_) (fun w => absurd rfl w)
      refine And.intro (fun _ => ?_) (fun w => absurd rfl w)
      refine CallK.of (awake_told _) ?_
      repeat (first | apply RunP.seq | apply RunP.region | apply RunP.condT rfl | apply RunP.condF rfl | apply RunP.skip | apply RunP.block | apply RunP.exit | apply RunP.ret)
      exact ⟨rfl, rfl, rfl⟩
end Go.Proofs.YtekmafoicobphaaGreatDoor
