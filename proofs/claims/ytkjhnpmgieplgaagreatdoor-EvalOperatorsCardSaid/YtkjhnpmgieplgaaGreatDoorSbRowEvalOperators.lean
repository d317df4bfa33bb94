/- PROVED: for whatever arguments, seedbedlaw07.EvalOperators returns true without a panic, and the arguments read afterwards as they read before. CONDITIONS: those of the given card alone (the listed tables of the library read at the call as the program's text lays them: tied by the given tie). -/
import Derived.Test.YtkjhnpmgieplgaaGreatDoorSbRows
import Derived.Test.YtkjhnpmgieplgaaGreatDoorSbEvalOperators
import Derived.Test.YtkjhnpmgieplgaaGreatDoorSbShp07
set_option linter.unusedVariables false
set_option linter.unusedSimpArgs false
namespace Go.Proofs.YtkjhnpmgieplgaaGreatDoor
open Go Go.Sb Go.ChangeShapes Go.WideShapes Go.ChangeAt Go.WideMaps Go.WideElems Go.RowKit
set_option maxRecDepth 100000

theorem evalOperators_us (us : List V) (h : ShpArgs envQ 8 [3, 23, 23] us) : Has envQ .own 9 us [] (.val (.bool true) []) := by
  rcases us with _ | ⟨u0, _ | ⟨u1, _ | ⟨u2, _ | ⟨x, us⟩⟩⟩⟩
  · exact (show False from h).elim
  · exact (show False from h.2).elim
  · exact (show False from h.2.2).elim
  · have h0 : ShpA envQ (7 + 1) 3 u0 := h.1
    have h1 : ShpA envQ (7 + 1) 23 u1 := h.2.1
    have h2 : ShpA envQ (7 + 1) 23 u2 := h.2.2.1
    obtain ⟨z0, e0, w0⟩ := shpA_int h0
    obtain ⟨k1, n1, s1, e1, wk1, wn1, g1⟩ := shpA_value h1
    obtain ⟨k2, n2, s2, e2, wk2, wn2, g2⟩ := shpA_value h2
    rw [e0, e1, e2]
    exact evalOperators_has z0 (wf_i64 w0) k1 n1 s1 (wf_i64 wk1) (wf_i64 wn1) (by unfold maxLen at g1; omega) k2 n2 s2 (wf_i64 wk2) (wf_i64 wn2) (by unfold maxLen at g2; omega)
  · exact (show False from h.2.2.2).elim

theorem evalOperators_door (os : Os) (args : Array Value) : laidMetH Tryz.prog Rows.evalOperatorsRow.laid ((World.laidAll Tryz.prog os Rows.evalOperatorsRow.laid).forCall (fun _ _ => 0) ⟨#[], args, []⟩).memory := by
  rw [MakeChecks.laidMetH_plain _ _ _ (by kernel_rfl)]
  exact laidMet_laidAll _ (by kernel_rfl) (by kernel_rfl)

theorem evalOperators_lifted (os : Os) (started : os.Started) (H : Type) (enc : TypeId × Value → H) :
    ReturnsInHanded {} Tryz.checked os 9 .any (fun w args => (Rows.evalOperatorsSpec.pre enc Tryz.prog Tryz.f9 [] false w args ∧ laidMetH Tryz.prog Rows.evalOperatorsRow.laid w) ∧ sizedMet enc Tryz.prog Tryz.f9 (OpenSpec.ofChange Rows.evalOperatorsSpec) false w args)
      (Rows.evalOperatorsSpec.post enc Tryz.prog Tryz.f9 false true false false) := by
  refine returns_shaped (C := Tryz.checked) (X := fun w _ => laidMetH Tryz.prog Rows.evalOperatorsRow.laid w) (fun _ _ _ hh h => h.of_heap hh) own started (by kernel_rfl) Tryz.func9
    (ChangeSpec.witness_shaped (enc := enc) (C := Tryz.checked) (os := os) (X := fun w _ => laidMetH Tryz.prog Rows.evalOperatorsRow.laid w) false (World.laidAll Tryz.prog os Rows.evalOperatorsRow.laid) #[.int .i64 0, .agg #[.int .i64 0, .int .i64 0, .string ⟨#[]⟩], .agg #[.int .i64 0, .int .i64 0, .string ⟨#[]⟩]] 8 (World.laidAll_os _ _ _) (World.shaped_of_ZipB (by kernel_rfl) (by kernel_rfl)) (by kernel_rfl) (by kernel_rfl) (by kernel_rfl) (evalOperators_door os _)) ?_
  intro W base args ds gs before hval hW hsh hL
  rw [MakeChecks.laidMetH_plain _ _ _ (by kernel_rfl)] at hL
  obtain ⟨ps, hL, _, _⟩ := hL
  refine law_calls (fn := Tryz.f9) (n := 8) (rt := 4) envQ_ok laidOut (by kernel_rfl) (by kernel_rfl) (by kernel_rfl) Tryz.underlying4 rfl ?_ ?_ (gl_of hsh hL (by simp [Rows.evalOperatorsRow]) (by simp [Rows.evalOperatorsRow]) (by simp [Rows.evalOperatorsRow]) (by simp [Rows.evalOperatorsRow])) hval hW
  · intro ds hd
    rw [Tryz.params9] at hd
    match ds, hd with
    | [d0, d1, d2], _ => exact ⟨rfl, rfl, rfl⟩
  · rw [Tryz.params9]
    exact evalOperators_us

theorem evalOperators_holds : Rows.EvalOperatorsSaid :=
  OpenClaim.holds_of_wide 9 Tryz.f9 rfl rfl rfl rfl rfl rfl rfl ⟨rfl, rfl, rfl, rfl, rfl⟩ rfl rfl rfl rfl rfl (by kernel_rfl) Tryz.func9 (by kernel_rfl)
    (of_decide_eq_true (by kernel_rfl)) (by unfold Func.isWrapper; first | (rw [if_pos (by decide +kernel)]; kernel_rfl) | (rw [if_neg (by decide +kernel)]; exact ⟨rfl, rfl⟩))
    (fun os started H enc _ => evalOperators_lifted os started H enc)

theorem evalOperators_card : Rows.EvalOperatorsCardSaid :=
  Claim7.holds_tied_plain_at .later [] [.data, .data, .data, .data, .sentinel, .sentinel, .listed, .data, .pinned] true (true, "519c412bf5cf6e77824910daca05d67252f6934dc795e2ff66eee7a20e961279") true
    evalOperators_holds (fun _ h => by cases h) (by kernel_rfl) (fun _ h => by cases h) evalOperators_row_tie rfl ⟨rfl, rfl⟩ (by kernel_rfl) rfl
    (fun f fn hf hfn => by
      obtain rfl : f = 9 := Option.some.inj ((show Tryz.prog.funcNamed "seedbed/seedbedlaw07.EvalOperators" = some 9 by kernel_rfl).symm.trans hf) |>.symm
      obtain rfl : fn = Tryz.f9 := (Option.some.inj (Tryz.func9.symm.trans hfn)).symm
      exact ⟨by kernel_rfl, fun j t ht => by
        rw [Tryz.params9] at ht
        have hm : t ∈ [3, 23, 23] := by simpa using Array.mem_of_getElem? ht
        have hall : ([3, 23, 23].all fun u => !Tryz.prog.wantsStandIn u) = true := by kernel_rfl
        exact (show Tryz.prog.wantsStandIn t = false by simpa using List.all_eq_true.1 hall t hm)⟩)
    (by kernel_rfl)
#print axioms evalOperators_card
end Go.Proofs.YtkjhnpmgieplgaaGreatDoor
