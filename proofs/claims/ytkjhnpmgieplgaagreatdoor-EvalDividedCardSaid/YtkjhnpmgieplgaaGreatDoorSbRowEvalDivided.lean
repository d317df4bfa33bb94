/- PROVED: for whatever arguments, seedbedlaw07.EvalDivided returns true without a panic, and the arguments read afterwards as they read before. CONDITIONS: those of the given card alone (the listed tables of the library read at the call as the program's text lays them: tied by the given tie). -/
import Derived.Test.YtkjhnpmgieplgaaGreatDoorSbRows
import Derived.Test.YtkjhnpmgieplgaaGreatDoorSbEvalDivided
import Derived.Test.YtkjhnpmgieplgaaGreatDoorSbShp07
set_option linter.unusedVariables false
set_option linter.unusedSimpArgs false
namespace Go.Proofs.YtkjhnpmgieplgaaGreatDoor
open Go Go.Sb Go.ChangeShapes Go.WideShapes Go.ChangeAt Go.WideMaps Go.WideElems Go.RowKit
set_option maxRecDepth 100000

theorem evalDivided_us (us : List V) (h : ShpArgs envQ 8 [3, 3] us) : Has envQ .own 6 us [] (.val (.bool true) []) := by
  rcases us with _ | ⟨u0, _ | ⟨u1, _ | ⟨x, us⟩⟩⟩
  · exact (show False from h).elim
  · exact (show False from h.2).elim
  · have h0 : ShpA envQ (7 + 1) 3 u0 := h.1
    have h1 : ShpA envQ (7 + 1) 3 u1 := h.2.1
    obtain ⟨z0, e0, w0⟩ := shpA_int h0
    obtain ⟨z1, e1, w1⟩ := shpA_int h1
    rw [e0, e1]
    exact evalDivided_has z0 (wf_i64 w0) z1 (wf_i64 w1)
  · exact (show False from h.2.2).elim

theorem evalDivided_door (os : Os) (args : Array Value) : laidMetH Tryz.prog Rows.evalDividedRow.laid ((World.laidAll Tryz.prog os Rows.evalDividedRow.laid).forCall (fun _ _ => 0) ⟨#[], args, []⟩).memory := by
  rw [MakeChecks.laidMetH_plain _ _ _ (by kernel_rfl)]
  exact laidMet_laidAll _ (by kernel_rfl) (by kernel_rfl)

theorem evalDivided_lifted (os : Os) (started : os.Started) (H : Type) (enc : TypeId × Value → H) :
    ReturnsInHanded {} Tryz.checked os 6 .any (fun w args => (Rows.evalDividedSpec.pre enc Tryz.prog Tryz.f6 [] false w args ∧ laidMetH Tryz.prog Rows.evalDividedRow.laid w) ∧ sizedMet enc Tryz.prog Tryz.f6 (OpenSpec.ofChange Rows.evalDividedSpec) false w args)
      (Rows.evalDividedSpec.post enc Tryz.prog Tryz.f6 false true false false) := by
  refine returns_shaped (C := Tryz.checked) (X := fun w _ => laidMetH Tryz.prog Rows.evalDividedRow.laid w) (fun _ _ _ hh h => h.of_heap hh) own started (by kernel_rfl) Tryz.func6
    (ChangeSpec.witness_shaped (enc := enc) (C := Tryz.checked) (os := os) (X := fun w _ => laidMetH Tryz.prog Rows.evalDividedRow.laid w) false (World.laidAll Tryz.prog os Rows.evalDividedRow.laid) #[.int .i64 0, .int .i64 0] 8 (World.laidAll_os _ _ _) (World.shaped_of_ZipB (by kernel_rfl) (by kernel_rfl)) (by kernel_rfl) (by kernel_rfl) (by kernel_rfl) (evalDivided_door os _)) ?_
  intro W base args ds gs before hval hW hsh hL
  rw [MakeChecks.laidMetH_plain _ _ _ (by kernel_rfl)] at hL
  obtain ⟨ps, hL, _, _⟩ := hL
  refine law_calls (fn := Tryz.f6) (n := 8) (rt := 4) envQ_ok laidOut (by kernel_rfl) (by kernel_rfl) (by kernel_rfl) Tryz.underlying4 rfl ?_ ?_ (gl_of hsh hL (by simp [Rows.evalDividedRow]) (by simp [Rows.evalDividedRow]) (by simp [Rows.evalDividedRow]) (by simp [Rows.evalDividedRow])) hval hW
  · intro ds hd
    rw [Tryz.params6] at hd
    match ds, hd with
    | [d0, d1], _ => exact ⟨rfl, rfl, rfl⟩
  · rw [Tryz.params6]
    exact evalDivided_us

theorem evalDivided_holds : Rows.EvalDividedSaid :=
  OpenClaim.holds_of_wide 6 Tryz.f6 rfl rfl rfl rfl rfl rfl rfl ⟨rfl, rfl, rfl, rfl, rfl⟩ rfl rfl rfl rfl rfl (by kernel_rfl) Tryz.func6 (by kernel_rfl)
    (of_decide_eq_true (by kernel_rfl)) (by unfold Func.isWrapper; first | (rw [if_pos (by decide +kernel)]; kernel_rfl) | (rw [if_neg (by decide +kernel)]; exact ⟨rfl, rfl⟩))
    (fun os started H enc _ => evalDivided_lifted os started H enc)

theorem evalDivided_card : Rows.EvalDividedCardSaid :=
  Claim7.holds_tied_plain_at .later [] [.data, .data, .data, .data, .sentinel, .sentinel, .listed, .data, .pinned] true (true, "519c412bf5cf6e77824910daca05d67252f6934dc795e2ff66eee7a20e961279") true
    evalDivided_holds (fun _ h => by cases h) (by kernel_rfl) (fun _ h => by cases h) evalDivided_row_tie rfl ⟨rfl, rfl⟩ (by kernel_rfl) rfl
    (fun f fn hf hfn => by
      obtain rfl : f = 6 := Option.some.inj ((show Tryz.prog.funcNamed "seedbed/seedbedlaw07.EvalDivided" = some 6 by kernel_rfl).symm.trans hf) |>.symm
      obtain rfl : fn = Tryz.f6 := (Option.some.inj (Tryz.func6.symm.trans hfn)).symm
      exact ⟨by kernel_rfl, fun j t ht => by
        rw [Tryz.params6] at ht
        have hm : t ∈ [3, 3] := by simpa using Array.mem_of_getElem? ht
        have hall : ([3, 3].all fun u => !Tryz.prog.wantsStandIn u) = true := by kernel_rfl
        exact (show Tryz.prog.wantsStandIn t = false by simpa using List.all_eq_true.1 hall t hm)⟩)
    (by kernel_rfl)
#print axioms evalDivided_card
end Go.Proofs.YtkjhnpmgieplgaaGreatDoor
