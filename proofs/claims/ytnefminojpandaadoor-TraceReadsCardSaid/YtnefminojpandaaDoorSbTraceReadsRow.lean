/- PROVED: for every string, seedbedlaw25.TraceReads returns true without a panic, and the string reads afterwards as it read before. CONDITIONS: those of the given card alone: the seven listed variables of the library read at the call as the program's text lays them (tied by the given tie); functions without a Go body: internal/abi.NoEscape, internal/bytealg.IndexByteString, as the model has them. -/
import Derived.Test.YtnefminojpandaaDoorSbTraceReads
import Derived.Test.YtnefminojpandaaDoorSbRow25
import Derived.Test.YtnefminojpandaaDoorCards
set_option linter.unusedVariables false
set_option linter.unusedSimpArgs false
namespace Go.Proofs.YtnefminojpandaaDoor
open Go Go.Sb Go.ChangeShapes Go.WideShapes Go.ChangeAt Go.WideMaps Go.WideElems Go.RowKit
set_option maxRecDepth 100000

theorem shpA_str {n : Nat} {u : V} (h : ShpA env2 (n + 1) 9 u) : ∃ s, u = .str s := by
  obtain ⟨s, h1, _⟩ := shp_str h.1
  rw [(h.2 ty9 rfl).2 rfl] at h1
  exact ⟨s, by simpa using h1⟩

theorem traceReads_us (us : List V) (h : ShpArgs env2 8 [9] us) : Has env2 .own 10 us [] (.val (.bool true) []) := by
  rcases us with _ | ⟨u, _ | ⟨w, us⟩⟩
  · exact (show False from h).elim
  · have h2 : ShpA env2 (7 + 1) 9 u := h.1
    obtain ⟨s, hs⟩ := shpA_str h2
    rw [hs]
    exact traceReads_has s
  · exact (show False from h.2).elim

theorem traceReads_door (os : Os) (args : Array Value) : laidMetH Tryd.prog Rows.traceReadsRow.laid ((World.doorLaid Tryd.prog 257 os).forCall (fun _ _ => 0) ⟨#[], args, []⟩).memory :=
  laidMetH_of_parts3 (fuel := 8) (laidMet_of_run' 8 (by kernel_rfl) (by kernel_rfl)) (by kernel_rfl) (by kernel_rfl)

theorem traceReads_lifted (os : Os) (started : os.Started) (H : Type) (enc : TypeId × Value → H) :
    ReturnsInHanded {} Tryd.checked os 10 .any (fun w args => (Rows.traceReadsSpec.pre enc Tryd.prog Tryd.f10 [] false w args ∧ laidMetH Tryd.prog Rows.traceReadsRow.laid w) ∧ sizedMet enc Tryd.prog Tryd.f10 (OpenSpec.ofChange Rows.traceReadsSpec) false w args)
      (Rows.traceReadsSpec.post enc Tryd.prog Tryd.f10 false true false false) := by
  refine returnsInHanded_of_change_and (C := Tryd.checked) (X := fun w _ => laidMetH Tryd.prog Rows.traceReadsRow.laid w) (fun _ _ _ hh h => h.of_heap hh) own started (by kernel_rfl) Tryd.func10
    (ChangeSpec.witness_shaped (enc := enc) (C := Tryd.checked) (os := os) (X := fun w _ => laidMetH Tryd.prog Rows.traceReadsRow.laid w) false (World.doorLaid Tryd.prog 257 os) #[.string ⟨#[]⟩] 8 rfl (World.shaped_of_RefB (by kernel_rfl) (by kernel_rfl)) (by kernel_rfl) (by kernel_rfl) (by kernel_rfl) (traceReads_door os _)) ?_
  intro W base args ds gs before hval hW _ _ hL _
  rw [MakeChecks.laidMetH_plain _ _ _ (by kernel_rfl)] at hL
  obtain ⟨ps, hL, _, _⟩ := hL
  refine law_calls (fn := Tryd.f10) (n := 8) (rt := 4) env2_ok laidOut (by kernel_rfl) (by kernel_rfl) (by kernel_rfl) Tryd.underlying4 rfl ?_ ?_ (space_of hL (by simp [Rows.traceReadsRow]) (by simp [Rows.traceReadsRow]) (by simp [Rows.traceReadsRow]) (by simp [Rows.traceReadsRow])) hval hW
  · intro ds hd
    rw [Tryd.params10] at hd
    match ds, hd with
    | [d1], _ => exact ⟨rfl, rfl, rfl⟩
  · rw [Tryd.params10]
    exact traceReads_us

theorem traceReads_holds : Rows.TraceReadsSaid :=
  OpenClaim.holds_of_wide 10 Tryd.f10 rfl rfl rfl rfl rfl rfl rfl ⟨rfl, rfl, rfl, rfl, rfl⟩ rfl rfl rfl rfl rfl (by kernel_rfl) Tryd.func10 (by kernel_rfl)
    (of_decide_eq_true (by kernel_rfl)) (by unfold Func.isWrapper; first | (rw [if_pos (by decide +kernel)]; kernel_rfl) | (rw [if_neg (by decide +kernel)]; exact ⟨rfl, rfl⟩))
    (fun os started H enc _ => traceReads_lifted os started H enc)

theorem traceReads_card : Rows.TraceReadsCardSaid :=
  Claim7.holds_tied_plain_at .later [] [.data, .data, .data, .sentinel, .sentinel, .listed, .data] true (true, "ffb9058dce613387ff582b9d80df953e34acbddc55468415d47bcae754d3d48d") true
    traceReads_holds (fun _ h => by cases h) (by kernel_rfl) (fun _ h => by cases h) traceReads_row_tie rfl ⟨rfl, rfl⟩ (by kernel_rfl) rfl
    (fun f fn hf hfn => by
      obtain rfl : f = 10 := Option.some.inj ((show Tryd.prog.funcNamed "seedbed/seedbedlaw25.TraceReads" = some 10 by kernel_rfl).symm.trans hf) |>.symm
      obtain rfl : fn = Tryd.f10 := (Option.some.inj (Tryd.func10.symm.trans hfn)).symm
      exact ⟨by kernel_rfl, fun j t ht => by
        rw [Tryd.params10] at ht
        have hm : t ∈ [9] := by simpa using Array.mem_of_getElem? ht
        have hall : ([9].all fun u => !Tryd.prog.wantsStandIn u) = true := by kernel_rfl
        exact (show Tryd.prog.wantsStandIn t = false by simpa using List.all_eq_true.1 hall t hm)⟩)
    (by kernel_rfl)
#print axioms traceReads_card
end Go.Proofs.YtnefminojpandaaDoor
