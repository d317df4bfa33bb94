/- PROVED: for every list of events, seedbedlaw25.TraceWrites returns true without a panic, and the list reads afterwards as it read before. CONDITIONS: those of the given card alone: the five listed tables of the library read at the call as the program's text lays them (tied by the given tie); functions without a Go body: internal/abi.NoEscape, as the model has it. -/
import Derived.Test.YtnefminojpandaaDoorSbTraceWrites
import Derived.Test.YtnefminojpandaaDoorSbRow25
import Derived.Test.YtnefminojpandaaDoorCards
set_option linter.unusedVariables false
set_option linter.unusedSimpArgs false
namespace Go.Proofs.YtnefminojpandaaDoor
open Go Go.Sb Go.ChangeShapes Go.WideShapes Go.ChangeAt Go.WideMaps Go.WideElems Go.RowKit
set_option maxRecDepth 100000

theorem traceWrites_us (us : List V) (h : ShpArgs env2 8 [34] us) : Has env2 .own 4 us [] (.val (.bool true) []) := by
  rcases us with _ | ⟨u, _ | ⟨w, us⟩⟩
  · exact (show False from h).elim
  · have h1 : ShpA env2 (4 + 4) 34 u := h.1
    obtain ⟨l, hl⟩ := shp_events h1
    exact traceWrites_has hl
  · exact (show False from h.2).elim

theorem traceWrites_door (os : Os) (args : Array Value) : laidMetH Tryd.prog Rows.traceWritesRow.laid ((World.doorLaid Tryd.prog 257 os).forCall (fun _ _ => 0) ⟨#[], args, []⟩).memory :=
  laidMetH_of_parts3 (fuel := 8) (laidMet_of_run' 8 (by kernel_rfl) (by kernel_rfl)) (by kernel_rfl) (by kernel_rfl)

theorem traceWrites_lifted (os : Os) (started : os.Started) (H : Type) (enc : TypeId × Value → H) :
    ReturnsInHanded {} Tryd.checked os 4 .any (fun w args => (Rows.traceWritesSpec.pre enc Tryd.prog Tryd.f4 [] false w args ∧ laidMetH Tryd.prog Rows.traceWritesRow.laid w) ∧ sizedMet enc Tryd.prog Tryd.f4 (OpenSpec.ofChange Rows.traceWritesSpec) false w args)
      (Rows.traceWritesSpec.post enc Tryd.prog Tryd.f4 false true false false) := by
  refine returnsInHanded_of_change_and (C := Tryd.checked) (X := fun w _ => laidMetH Tryd.prog Rows.traceWritesRow.laid w) (fun _ _ _ hh h => h.of_heap hh) own started (by kernel_rfl) Tryd.func4
    (ChangeSpec.witness_shaped (enc := enc) (C := Tryd.checked) (os := os) (X := fun w _ => laidMetH Tryd.prog Rows.traceWritesRow.laid w) false (World.doorLaid Tryd.prog 257 os) #[.slice none 0 0] 8 rfl (World.shaped_of_RefB (by kernel_rfl) (by kernel_rfl)) (by kernel_rfl) (by kernel_rfl) (by kernel_rfl) (traceWrites_door os _)) ?_
  intro W base args ds gs before hval hW _ _ hL _
  rw [MakeChecks.laidMetH_plain _ _ _ (by kernel_rfl)] at hL
  obtain ⟨ps, hL, _, _⟩ := hL
  refine law_calls (fn := Tryd.f4) (n := 8) (rt := 4) env2_ok laidOut (by kernel_rfl) (by kernel_rfl) (by kernel_rfl) Tryd.underlying4 rfl ?_ ?_ (space_of hL (by simp [Rows.traceWritesRow]) (by simp [Rows.traceWritesRow])) hval hW
  · intro ds hd
    rw [Tryd.params4] at hd
    match ds, hd with
    | [d1], _ => exact ⟨rfl, rfl, rfl⟩
  · rw [Tryd.params4]
    exact traceWrites_us

theorem traceWrites_holds : Rows.TraceWritesSaid :=
  OpenClaim.holds_of_wide 4 Tryd.f4 rfl rfl rfl rfl rfl rfl rfl ⟨rfl, rfl, rfl, rfl, rfl⟩ rfl rfl rfl rfl rfl (by kernel_rfl) Tryd.func4 (by kernel_rfl)
    (of_decide_eq_true (by kernel_rfl)) (by unfold Func.isWrapper; first | (rw [if_pos (by decide +kernel)]; kernel_rfl) | (rw [if_neg (by decide +kernel)]; exact ⟨rfl, rfl⟩))
    (fun os started H enc _ => traceWrites_lifted os started H enc)

theorem traceWrites_card : Rows.TraceWritesCardSaid :=
  Claim7.holds_tied_plain_at .later [] [.data, .data, .data, .listed, .data] true (true, "ffb9058dce613387ff582b9d80df953e34acbddc55468415d47bcae754d3d48d") true
    traceWrites_holds (fun _ h => by cases h) (by kernel_rfl) (fun _ h => by cases h) traceWrites_row_tie rfl ⟨rfl, rfl⟩ (by kernel_rfl) rfl
    (fun f fn hf hfn => by
      obtain rfl : f = 4 := Option.some.inj ((show Tryd.prog.funcNamed "seedbed/seedbedlaw25.TraceWrites" = some 4 by kernel_rfl).symm.trans hf) |>.symm
      obtain rfl : fn = Tryd.f4 := (Option.some.inj (Tryd.func4.symm.trans hfn)).symm
      exact ⟨by kernel_rfl, fun j t ht => by
        rw [Tryd.params4] at ht
        have hm : t ∈ [34] := by simpa using Array.mem_of_getElem? ht
        have hall : ([34].all fun u => !Tryd.prog.wantsStandIn u) = true := by kernel_rfl
        exact (show Tryd.prog.wantsStandIn t = false by simpa using List.all_eq_true.1 hall t hm)⟩)
    (by kernel_rfl)
#print axioms traceWrites_card
end Go.Proofs.YtnefminojpandaaDoor
