/- PROVED: for whatever arguments, seedbedlaw07.EvalOrders returns true without a panic, and the arguments read afterwards as they read before. CONDITIONS: those of the given card alone (the listed tables of the library read at the call as the program's text lays them: tied by the given tie). -/
import Derived.Test.YtkjhnpmgieplgaaGreatDoorSbRows
import Derived.Test.YtkjhnpmgieplgaaGreatDoorSbShp07
import Derived.Test.YtkjhnpmgieplgaaGreatDoorSbEvalOrders
set_option linter.unusedVariables false
set_option linter.unusedSimpArgs false
namespace Go.Proofs.YtkjhnpmgieplgaaGreatDoor
open Go Go.Sb Go.ChangeShapes Go.WideShapes Go.ChangeAt Go.WideMaps Go.WideElems Go.RowKit
set_option maxRecDepth 100000

theorem evalOrders_us (us : List V) (h : ShpArgs envQ 8 [23, 23] us) : Has envQ .own 7 us [] (.val (.bool true) []) := by
  rcases us with _ | ⟨u0, _ | ⟨u1, _ | ⟨x, us⟩⟩⟩
  · exact (show False from h).elim
  · exact (show False from h.2).elim
  · have h0 : ShpA envQ (7 + 1) 23 u0 := h.1
    have h1 : ShpA envQ (7 + 1) 23 u1 := h.2.1
    obtain ⟨k0, n0, s0, e0, wk0, wn0, g0⟩ := shpA_value h0
    obtain ⟨k1, n1, s1, e1, wk1, wn1, g1⟩ := shpA_value h1
    rw [e0, e1]
    exact evalOrders_has k0 n0 s0 (wf_i64 wk0) (wf_i64 wn0) (by unfold maxLen at g0; omega) k1 n1 s1 (wf_i64 wk1) (wf_i64 wn1) (by unfold maxLen at g1; omega)
  · exact (show False from h.2.2).elim

theorem evalOrders_door (os : Os) (args : Array Value) : laidMetH Tryz.prog Rows.evalOrdersRow.laid ((World.laidAll Tryz.prog os Rows.evalOrdersRow.laid).forCall (fun _ _ => 0) ⟨#[], args, []⟩).memory := by
  rw [MakeChecks.laidMetH_plain _ _ _ (by kernel_rfl)]
  exact laidMet_laidAll _ (by kernel_rfl) (by kernel_rfl)

theorem evalOrders_lifted (os : Os) (started : os.Started) (H : Type) (enc : TypeId × Value → H) :
    ReturnsInHanded {} Tryz.checked os 7 .any (fun w args => (Rows.evalOrdersSpec.pre enc Tryz.prog Tryz.f7 [] false w args ∧ laidMetH Tryz.prog Rows.evalOrdersRow.laid w) ∧ sizedMet enc Tryz.prog Tryz.f7 (OpenSpec.ofChange Rows.evalOrdersSpec) false w args)
      (Rows.evalOrdersSpec.post enc Tryz.prog Tryz.f7 false true false false) := by
  refine returns_shaped (C := Tryz.checked) (X := fun w _ => laidMetH Tryz.prog Rows.evalOrdersRow.laid w) (fun _ _ _ hh h => h.of_heap hh) own started (by kernel_rfl) Tryz.func7
    (ChangeSpec.witness_shaped (enc := enc) (C := Tryz.checked) (os := os) (X := fun w _ => laidMetH Tryz.prog Rows.evalOrdersRow.laid w) false (World.laidAll Tryz.prog os Rows.evalOrdersRow.laid) #[.agg #[.int .i64 0, .int .i64 0, .string ⟨#[]⟩], .agg #[.int .i64 0, .int .i64 0, .string ⟨#[]⟩]] 8 (World.laidAll_os _ _ _) (World.shaped_of_ZipB (by kernel_rfl) (by kernel_rfl)) (by kernel_rfl) (by kernel_rfl) (by kernel_rfl) (evalOrders_door os _)) ?_
  intro W base args ds gs before hval hW hsh hL
  rw [MakeChecks.laidMetH_plain _ _ _ (by kernel_rfl)] at hL
  obtain ⟨ps, hL, _, _⟩ := hL
  refine law_calls (fn := Tryz.f7) (n := 8) (rt := 4) envQ_ok laidOut (by kernel_rfl) (by kernel_rfl) (by kernel_rfl) Tryz.underlying4 rfl ?_ ?_ (gl_of hsh hL (by simp [Rows.evalOrdersRow]) (by simp [Rows.evalOrdersRow]) (by simp [Rows.evalOrdersRow]) (by simp [Rows.evalOrdersRow])) hval hW
  · intro ds hd
    rw [Tryz.params7] at hd
    match ds, hd with
    | [d0, d1], _ => exact ⟨rfl, rfl, rfl⟩
  · rw [Tryz.params7]
    exact evalOrders_us

theorem evalOrders_holds : Rows.EvalOrdersSaid :=
  OpenClaim.holds_of_wide 7 Tryz.f7 rfl rfl rfl rfl rfl rfl rfl ⟨rfl, rfl, rfl, rfl, rfl⟩ rfl rfl rfl rfl rfl (by kernel_rfl) Tryz.func7 (by kernel_rfl)
    (of_decide_eq_true (by kernel_rfl)) (by unfold Func.isWrapper; first | (rw [if_pos (by decide +kernel)]; kernel_rfl) | (rw [if_neg (by decide +kernel)]; exact ⟨rfl, rfl⟩))
    (fun os started H enc _ => evalOrders_lifted os started H enc)

theorem evalOrders_card : Rows.EvalOrdersCardSaid :=
  Claim7.holds_tied_plain_at .later [] [.data, .data, .data, .data, .sentinel, .sentinel, .listed, .data, .pinned] true (true, "519c412bf5cf6e77824910daca05d67252f6934dc795e2ff66eee7a20e961279") true
    evalOrders_holds (fun _ h => by cases h) (by kernel_rfl) (fun _ h => by cases h) evalOrders_row_tie rfl ⟨rfl, rfl⟩ (by kernel_rfl) rfl
    (fun f fn hf hfn => by
      obtain rfl : f = 7 := Option.some.inj ((show Tryz.prog.funcNamed "seedbed/seedbedlaw07.EvalOrders" = some 7 by kernel_rfl).symm.trans hf) |>.symm
      obtain rfl : fn = Tryz.f7 := (Option.some.inj (Tryz.func7.symm.trans hfn)).symm
      exact ⟨by kernel_rfl, fun j t ht => by
        rw [Tryz.params7] at ht
        have hm : t ∈ [23, 23] := by simpa using Array.mem_of_getElem? ht
        have hall : ([23, 23].all fun u => !Tryz.prog.wantsStandIn u) = true := by kernel_rfl
        exact (show Tryz.prog.wantsStandIn t = false by simpa using List.all_eq_true.1 hall t hm)⟩)
    (by kernel_rfl)
#print axioms evalOrders_card
end Go.Proofs.YtkjhnpmgieplgaaGreatDoor
