/- PROVED: for whatever arguments, seedbedlaw07.EvalBack returns true without a panic, and the arguments read afterwards as they read before. CONDITIONS: those of the given card alone (the listed tables of the library read at the call as the program's text lays them: tied by the given tie). -/
import Derived.Test.YtkjhnpmgieplgaaGreatDoorSbRows
import Derived.Test.YtkjhnpmgieplgaaGreatDoorSbEvalBack
import Derived.Test.YtkjhnpmgieplgaaGreatDoorSbShp07
set_option linter.unusedVariables false
set_option linter.unusedSimpArgs false
namespace Go.Proofs.YtkjhnpmgieplgaaGreatDoor
open Go Go.Sb Go.ChangeShapes Go.WideShapes Go.ChangeAt Go.WideMaps Go.WideElems Go.RowKit
set_option maxRecDepth 100000

theorem evalBack_us (us : List V) (h : ShpArgs envR 8 [23, 9] us) : Has envR .own 5 us [] (.val (.bool true) []) := by
  rcases us with _ | ⟨u0, _ | ⟨u1, _ | ⟨x, us⟩⟩⟩
  · exact (show False from h).elim
  · exact (show False from h.2).elim
  · have h0 : ShpA envR (7 + 1) 23 u0 := h.1
    have h1 : ShpA envR (7 + 1) 9 u1 := h.2.1
    obtain ⟨k0, n0, s0, e0, wk0, wn0, g0⟩ := shpA_valueR h0
    obtain ⟨s1, e1, _⟩ := shpA_strR h1
    rw [e0, e1]
    exact evalBack_has k0 n0 s0 (wf_i64 wk0) (wf_i64 wn0) (by unfold maxLen at g0; omega) s1
  · exact (show False from h.2.2).elim

theorem evalBack_door (os : Os) (args : Array Value) : laidMetH Tryz.prog Rows.evalBackRow.laid ((World.laidAll Tryz.prog os Rows.evalBackRow.laid).forCall (fun _ _ => 0) ⟨#[], args, []⟩).memory := by
  rw [MakeChecks.laidMetH_plain _ _ _ (by kernel_rfl)]
  exact laidMet_laidAll _ (by kernel_rfl) (by kernel_rfl)

theorem evalBack_lifted (os : Os) (started : os.Started) (H : Type) (enc : TypeId × Value → H) :
    ReturnsInHanded {} Tryz.checked os 5 .any (fun w args => (Rows.evalBackSpec.pre enc Tryz.prog Tryz.f5 [] false w args ∧ laidMetH Tryz.prog Rows.evalBackRow.laid w) ∧ sizedMet enc Tryz.prog Tryz.f5 (OpenSpec.ofChange Rows.evalBackSpec) false w args)
      (Rows.evalBackSpec.post enc Tryz.prog Tryz.f5 false true false false) := by
  refine returns_shaped (C := Tryz.checked) (X := fun w _ => laidMetH Tryz.prog Rows.evalBackRow.laid w) (fun _ _ _ hh h => h.of_heap hh) own started (by kernel_rfl) Tryz.func5
    (ChangeSpec.witness_shaped (enc := enc) (C := Tryz.checked) (os := os) (X := fun w _ => laidMetH Tryz.prog Rows.evalBackRow.laid w) false (World.laidAll Tryz.prog os Rows.evalBackRow.laid) #[.agg #[.int .i64 0, .int .i64 0, .string ⟨#[]⟩], .string ⟨#[]⟩] 8 (World.laidAll_os _ _ _) (World.shaped_of_ZipB (by kernel_rfl) (by kernel_rfl)) (by kernel_rfl) (by kernel_rfl) (by kernel_rfl) (evalBack_door os _)) ?_
  intro W base args ds gs before hval hW hsh hL
  rw [MakeChecks.laidMetH_plain _ _ _ (by kernel_rfl)] at hL
  obtain ⟨ps, hL, _, _⟩ := hL
  refine law_calls (fn := Tryz.f5) (n := 8) (rt := 4) envR_ok laidOut (by kernel_rfl) (by kernel_rfl) (by kernel_rfl) Tryz.underlying4 rfl ?_ ?_ (gl_of hsh hL (by simp [Rows.evalBackRow]) (by simp [Rows.evalBackRow]) (by simp [Rows.evalBackRow]) (by simp [Rows.evalBackRow])) hval hW
  · intro ds hd
    rw [Tryz.params5] at hd
    match ds, hd with
    | [d0, d1], _ => exact ⟨rfl, rfl, rfl⟩
  · rw [Tryz.params5]
    exact evalBack_us

theorem evalBack_holds : Rows.EvalBackSaid :=
  OpenClaim.holds_of_wide 5 Tryz.f5 rfl rfl rfl rfl rfl rfl rfl ⟨rfl, rfl, rfl, rfl, rfl⟩ rfl rfl rfl rfl rfl (by kernel_rfl) Tryz.func5 (by kernel_rfl)
    (of_decide_eq_true (by kernel_rfl)) (by unfold Func.isWrapper; first | (rw [if_pos (by decide +kernel)]; kernel_rfl) | (rw [if_neg (by decide +kernel)]; exact ⟨rfl, rfl⟩))
    (fun os started H enc _ => evalBack_lifted os started H enc)

theorem evalBack_card : Rows.EvalBackCardSaid :=
  Claim7.holds_tied_plain_at .later [] [.data, .data, .data, .data, .sentinel, .sentinel, .listed, .data, .pinned] true (true, "519c412bf5cf6e77824910daca05d67252f6934dc795e2ff66eee7a20e961279") true
    evalBack_holds (fun _ h => by cases h) (by kernel_rfl) (fun _ h => by cases h) evalBack_row_tie rfl ⟨rfl, rfl⟩ (by kernel_rfl) rfl
    (fun f fn hf hfn => by
      obtain rfl : f = 5 := Option.some.inj ((show Tryz.prog.funcNamed "seedbed/seedbedlaw07.EvalBack" = some 5 by kernel_rfl).symm.trans hf) |>.symm
      obtain rfl : fn = Tryz.f5 := (Option.some.inj (Tryz.func5.symm.trans hfn)).symm
      exact ⟨by kernel_rfl, fun j t ht => by
        rw [Tryz.params5] at ht
        have hm : t ∈ [23, 9] := by simpa using Array.mem_of_getElem? ht
        have hall : ([23, 9].all fun u => !Tryz.prog.wantsStandIn u) = true := by kernel_rfl
        exact (show Tryz.prog.wantsStandIn t = false by simpa using List.all_eq_true.1 hall t hm)⟩)
    (by kernel_rfl)
#print axioms evalBack_card
end Go.Proofs.YtkjhnpmgieplgaaGreatDoor
