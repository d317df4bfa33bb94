/- PROVED: for every list of events and every string, seedbedlaw25.TraceBack returns true without a panic, and both arguments read afterwards as they read before. CONDITIONS: those of the given card alone: the seven listed variables of the library read at the call as the program's text lays them (tied by the given tie); functions without a Go body: internal/abi.NoEscape, internal/bytealg.IndexByteString, as the model has them. -/
import Derived.Test.YtnefminojpandaaDoorSbTraceBack
import Derived.Test.YtnefminojpandaaDoorSbRow25
import Derived.Test.YtnefminojpandaaDoorCards
set_option linter.unusedVariables false
set_option linter.unusedSimpArgs false
namespace Go.Proofs.YtnefminojpandaaDoor
open Go Go.Sb Go.ChangeShapes Go.WideShapes Go.ChangeAt Go.WideMaps Go.WideElems Go.RowKit
set_option maxRecDepth 100000

theorem shpA_str {n : Nat} {u : V} (h : ShpA env2 (n + 1) 9 u) : ∃ s, u = .str s := by
  obtain ⟨s, h1, _⟩ := shp_str h.1
  rw [(h.2 ty9 rfl).2 rfl] at h1
  exact ⟨s, by simpa using h1⟩

theorem traceBack_us (us : List V) (h : ShpArgs env2 8 [34, 9] us) : Has env2 .own 11 us [] (.val (.bool true) []) := by
  rcases us with _ | ⟨u, _ | ⟨w, _ | ⟨x, us⟩⟩⟩
  · exact (show False from h).elim
  · exact (show False from h.2).elim
  · have h1 : ShpA env2 (4 + 4) 34 u := h.1
    have h2 : ShpA env2 (7 + 1) 9 w := h.2.1
    obtain ⟨l, hl⟩ := shp_events h1
    obtain ⟨s, hs⟩ := shpA_str h2
    rw [hs]
    exact traceBack_has s hl
  · exact (show False from h.2.2).elim

theorem traceBack_door (os : Os) (args : Array Value) : laidMetH Tryd.prog Rows.traceBackRow.laid ((World.doorLaid Tryd.prog 257 os).forCall (fun _ _ => 0) ⟨#[], args, []⟩).memory :=
  laidMetH_of_parts3 (fuel := 8) (laidMet_of_run' 8 (by kernel_rfl) (by kernel_rfl)) (by kernel_rfl) (by kernel_rfl)

theorem traceBack_lifted (os : Os) (started : os.Started) (H : Type) (enc : TypeId × Value → H) :
    ReturnsInHanded {} Tryd.checked os 11 .any (fun w args => (Rows.traceBackSpec.pre enc Tryd.prog Tryd.f11 [] false w args ∧ laidMetH Tryd.prog Rows.traceBackRow.laid w) ∧ sizedMet enc Tryd.prog Tryd.f11 (OpenSpec.ofChange Rows.traceBackSpec) false w args)
      (Rows.traceBackSpec.post enc Tryd.prog Tryd.f11 false true false false) := by
  refine returnsInHanded_of_change_and (C := Tryd.checked) (X := fun w _ => laidMetH Tryd.prog Rows.traceBackRow.laid w) (fun _ _ _ hh h => h.of_heap hh) own started (by kernel_rfl) Tryd.func11
    (ChangeSpec.witness_shaped (enc := enc) (C := Tryd.checked) (os := os) (X := fun w _ => laidMetH Tryd.prog Rows.traceBackRow.laid w) false (World.doorLaid Tryd.prog 257 os) #[.slice none 0 0, .string ⟨#[]⟩] 8 rfl (World.shaped_of_RefB (by kernel_rfl) (by kernel_rfl)) (by kernel_rfl) (by kernel_rfl) (by kernel_rfl) (traceBack_door os _)) ?_
  intro W base args ds gs before hval hW _ _ hL _
  rw [MakeChecks.laidMetH_plain _ _ _ (by kernel_rfl)] at hL
  obtain ⟨ps, hL, _, _⟩ := hL
  refine law_calls (fn := Tryd.f11) (n := 8) (rt := 4) env2_ok laidOut (by kernel_rfl) (by kernel_rfl) (by kernel_rfl) Tryd.underlying4 rfl ?_ ?_ (space_of hL (by simp [Rows.traceBackRow]) (by simp [Rows.traceBackRow]) (by simp [Rows.traceBackRow]) (by simp [Rows.traceBackRow])) hval hW
  · intro ds hd
    rw [Tryd.params11] at hd
    match ds, hd with
    | [d1, d2], _ => exact ⟨rfl, rfl, rfl⟩
  · rw [Tryd.params11]
    exact traceBack_us

theorem traceBack_holds : Rows.TraceBackSaid :=
  OpenClaim.holds_of_wide 11 Tryd.f11 rfl rfl rfl rfl rfl rfl rfl ⟨rfl, rfl, rfl, rfl, rfl⟩ rfl rfl rfl rfl rfl (by kernel_rfl) Tryd.func11 (by kernel_rfl)
    (of_decide_eq_true (by kernel_rfl)) (by unfold Func.isWrapper; first | (rw [if_pos (by decide +kernel)]; kernel_rfl) | (rw [if_neg (by decide +kernel)]; exact ⟨rfl, rfl⟩))
    (fun os started H enc _ => traceBack_lifted os started H enc)

theorem traceBack_card : Rows.TraceBackCardSaid :=
  Claim7.holds_tied_plain_at .later [] [.data, .data, .data, .sentinel, .sentinel, .listed, .data] true (true, "ffb9058dce613387ff582b9d80df953e34acbddc55468415d47bcae754d3d48d") true
    traceBack_holds (fun _ h => by cases h) (by kernel_rfl) (fun _ h => by cases h) traceBack_row_tie rfl ⟨rfl, rfl⟩ (by kernel_rfl) rfl
    (fun f fn hf hfn => by
      obtain rfl : f = 11 := Option.some.inj ((show Tryd.prog.funcNamed "seedbed/seedbedlaw25.TraceBack" = some 11 by kernel_rfl).symm.trans hf) |>.symm
      obtain rfl : fn = Tryd.f11 := (Option.some.inj (Tryd.func11.symm.trans hfn)).symm
      exact ⟨by kernel_rfl, fun j t ht => by
        rw [Tryd.params11] at ht
        have hm : t ∈ [34, 9] := by simpa using Array.mem_of_getElem? ht
        have hall : ([34, 9].all fun u => !Tryd.prog.wantsStandIn u) = true := by kernel_rfl
        exact (show Tryd.prog.wantsStandIn t = false by simpa using List.all_eq_true.1 hall t hm)⟩)
    (by kernel_rfl)
#print axioms traceBack_card
end Go.Proofs.YtnefminojpandaaDoor
