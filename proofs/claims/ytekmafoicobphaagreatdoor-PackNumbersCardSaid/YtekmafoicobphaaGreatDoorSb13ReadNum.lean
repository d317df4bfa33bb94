/- Seat 13: guarded, ReadNumber. -/
import Derived.Test.YtekmafoicobphaaGreatDoorSb13RdN
set_option linter.unusedVariables false
set_option linter.unusedSimpArgs false
namespace Go.Proofs.YtekmafoicobphaaGreatDoor
open Go.Sb
set_option maxRecDepth 100000

noncomputable def g11 : GuardD := match gd11 with
  | some g => g
  | none => ⟨fn38, [], 0, default, default, 0, .skip, 0, fn60, 0, default, .skip⟩
theorem gd_eq : envQ.gd 38 = some g11 := by kernel_rfl

theorem closure12 {u : List UInt8} (hs : u.length ≤ 2 ^ 40) (x : V) : ∃ r, Has envQ .shared 39 [.ptr 1 0 1, .ptr 2 0 1] [rdr u 0, .cells 74 [.ptr 0 0 2], .cells 3 [.int .i64 0], x.cells |> .cells 26] r ∧
    match rdN u 0 1 with
    | some p => r = .val und [rdr u p.2, .cells 74 [.ptr 0 0 2], .cells 3 [.int .i64 p.1], x.cells |> .cells 26]
    | none => ∃ k : Nat, r = .pan trouble [rdr u k, .cells 74 [.ptr 0 0 2], .cells 3 [.int .i64 0], x.cells |> .cells 26] := by
  obtain ⟨r, hr, hR⟩ := number13 (h := [rdr u 0, .cells 74 [.ptr 0 0 2], .cells 3 [.int .i64 0], x.cells |> .cells 26]) (b := 0) (u := u) (i := 0) rfl (Nat.zero_le _) hs
  refine HasP.sharedX (d := fn39) rfl (of_decide_eq_true rfl) ?_
  unfold rdR at hR
  rw [List.drop_zero] at hR
  cases hd : rdN u 0 1 with
  | some p =>
    rw [hd] at hR
    simp only at hR
    subst hR
    apply RunP.region
    refine CallK.of hr ?_
    refine ⟨rfl, ?_⟩
    show OpR.val _ _ = _
    simp [splice, und]; rfl
  | none =>
    rw [hd] at hR
    obtain ⟨k, rfl⟩ := hR
    refine RunP.regionP 1 (CallP.of hr ?_)
    exact ⟨rfl, k, rfl⟩

set_option maxHeartbeats 2000000 in
theorem guarded12 {u : List UInt8} (hs : u.length ≤ 2 ^ 40) : ∃ v g, Has envQ .shared 38 [.fn (.func 39) [.ptr 1 0 1, .ptr 2 0 1]] [rdr u 0, .cells 74 [.ptr 0 0 2], .cells 3 [.int .i64 0]] (.val v g) ∧
    match rdN u 0 1 with
    | some p => v = .int .i64 0 ∧ ∃ l, g = rdr u p.2 :: .cells 74 [.ptr 0 0 2] :: .cells 3 [.int .i64 p.1] :: l
    | none => v = .int .i64 31 := by
  obtain ⟨r, hr, hR⟩ := closure12 hs (.int .i64 0)
  refine HasP.guard (G := g11) rfl gd_eq (of_decide_eq_true rfl) ?_
  cases hd : rdN u 0 1 with
  | some p =>
    rw [hd] at hR
    simp only at hR
    subst hR
    apply RunP.region
    refine ⟨rfl, _, rfl, ?_⟩
    apply RunP.seq
    apply RunP.region
    refine CallK.of hr ?_
    apply RunP.seq
    apply RunP.region
    apply RunP.ret
    refine ⟨of_decide_eq_true rfl, ?_⟩
    apply RunP.block
    apply RunP.seq
    apply RunP.region
    apply RunP.condT rfl
    apply RunP.region
    refine ⟨.inl rfl, rfl, _, rfl⟩
  | none =>
    rw [hd] at hR
    obtain ⟨k, rfl⟩ := hR
    apply RunP.region
    refine ⟨rfl, _, rfl, ?_⟩
    apply RunP.seq
    refine RunP.regionP 1 (CallP.of hr ?_)
    refine ⟨of_decide_eq_true rfl, ?_⟩
    apply RunP.block
    apply RunP.seq
    apply RunP.region
    apply RunP.condF rfl
    apply RunP.seq
    apply RunP.region
    apply RunP.condT rfl
    apply RunP.seq
    apply RunP.region
    apply RunP.region
    refine ⟨.inl rfl, rfl⟩

set_option maxHeartbeats 2000000 in
/-- pack.ReadNumber -/
theorem readNum_has (h : Heap) {u : List UInt8} (hs : u.length ≤ 2 ^ 40) : Has envQ .own 20 [.str u] h (.val (match rdN u 0 1 with
    | some p => .tup [.int .i64 p.1, .int .i64 p.2, .int .i64 0]
    | none => .tup [.int .i64 0, .int .i64 0, .int .i64 31]) h) := by
  refine HasP.own (a := [.str u]) (d := fn20) rfl rfl rfl (of_decide_eq_true rfl) ?_
  obtain ⟨v, g, hc, hR⟩ := guarded12 hs
  cases hd : rdN u 0 1 with
  | some p =>
    rw [hd] at hR
    obtain ⟨rfl, l, rfl⟩ := hR
    apply RunP.seq
    apply RunP.region
    apply RunP.seq
    apply RunP.region
    apply RunP.seq
    apply RunP.region
    apply RunP.seq
    apply RunP.seq
    apply RunP.region
    refine CallK.of hc ?_
    apply RunP.seq
    apply RunP.region
    refine And.intro (fun _ => ?_) (fun h0 => absurd rfl h0)
    apply RunP.condF rfl
    apply RunP.skip
    apply RunP.seq
    apply RunP.drawn
    · decide +kernel
    apply RunP.ret
    refine ⟨rfl, rfl, rfl⟩
  | none =>
    rw [hd] at hR
    subst hR
    apply RunP.seq
    apply RunP.region
    apply RunP.seq
    apply RunP.region
    apply RunP.seq
    apply RunP.region
    apply RunP.seq
    apply RunP.seq
    apply RunP.region
    refine CallK.of hc ?_
    apply RunP.seq
    apply RunP.region
    refine And.intro (fun h0 => absurd h0 (by decide)) (fun _ => ?_)
    apply RunP.condT rfl
    apply RunP.seq
    apply RunP.region
    apply RunP.ret
    refine ⟨rfl, rfl, rfl⟩
end Go.Proofs.YtekmafoicobphaaGreatDoor
