/- PROVED: for whatever arguments, seedbedlaw13.PackNumbers returns true without a panic, and the arguments read afterwards as they read before. CONDITIONS: those of the given card alone (the listed tables of the library read at the call as the program's text lays them: tied by the given tie). -/
import Derived.Test.YtekmafoicobphaaGreatDoorSb13Rows
import Derived.Test.YtekmafoicobphaaGreatDoorSb13PackNumbers
set_option linter.unusedVariables false
set_option linter.unusedSimpArgs false
namespace Go.Proofs.YtekmafoicobphaaGreatDoor
open Go Go.Sb Go.ChangeShapes Go.WideShapes Go.ChangeAt Go.WideMaps Go.WideElems Go.RowKit
set_option maxRecDepth 100000

theorem packNumbers_us (us : List V) (h : ShpArgs envQ 8 [3, 9] us) : Has envQ .own 4 us [] (.val (.bool true) []) := by
  rcases us with _ | ⟨u0, _ | ⟨u1, _ | ⟨x, us⟩⟩⟩
  · exact (show False from h).elim
  · exact (show False from h.2).elim
  · have h0 : ShpA envQ (7 + 1) 3 u0 := h.1
    have h1 : ShpA envQ (7 + 1) 9 u1 := h.2.1
    obtain ⟨z0, e0, w0⟩ := shpA_int h0
    obtain ⟨s1, e1, _⟩ := shpA_str h1
    rw [e0, e1]
    exact packNumbers_has z0 (wf_i64 w0) s1
  · exact (show False from h.2.2).elim

theorem packNumbers_door (os : Os) (args : Array Value) : laidMetH Tryz.prog Rows.packNumbersRow.laid ((World.laidAll Tryz.prog os Rows.packNumbersRow.laid).forCall (fun _ _ => 0) ⟨#[], args, []⟩).memory := by
  rw [MakeChecks.laidMetH_plain _ _ _ (by kernel_rfl)]
  exact laidMet_laidAll _ (by kernel_rfl) (by kernel_rfl)

theorem packNumbers_lifted (os : Os) (started : os.Started) (H : Type) (enc : TypeId × Value → H) :
    ReturnsInHanded {} Tryz.checked os 4 .any (fun w args => (Rows.packNumbersSpec.pre enc Tryz.prog Tryz.f4 [] false w args ∧ laidMetH Tryz.prog Rows.packNumbersRow.laid w) ∧ sizedMet enc Tryz.prog Tryz.f4 (OpenSpec.ofChange Rows.packNumbersSpec) false w args)
      (Rows.packNumbersSpec.post enc Tryz.prog Tryz.f4 false true false false) := by
  refine returns_shaped (C := Tryz.checked) (X := fun w _ => laidMetH Tryz.prog Rows.packNumbersRow.laid w) (fun _ _ _ hh h => h.of_heap hh) own started (by kernel_rfl) Tryz.func4
    (ChangeSpec.witness_shaped (enc := enc) (C := Tryz.checked) (os := os) (X := fun w _ => laidMetH Tryz.prog Rows.packNumbersRow.laid w) false (World.laidAll Tryz.prog os Rows.packNumbersRow.laid) #[.int .i64 0, .string ⟨#[]⟩] 8 (World.laidAll_os _ _ _) (World.shaped_of_ZipB (by kernel_rfl) (by kernel_rfl)) (by kernel_rfl) (by kernel_rfl) (by kernel_rfl) (packNumbers_door os _)) ?_
  intro W base args ds gs before hval hW hsh hL
  rw [MakeChecks.laidMetH_plain _ _ _ (by kernel_rfl)] at hL
  obtain ⟨ps, hL, _, _⟩ := hL
  refine law_calls (fn := Tryz.f4) (n := 8) (rt := 4) envQ_ok laidOut (by kernel_rfl) (by kernel_rfl) (by kernel_rfl) Tryz.underlying4 rfl ?_ ?_ gl_none hval hW
  · intro ds hd
    rw [Tryz.params4] at hd
    match ds, hd with
    | [d0, d1], _ => exact ⟨rfl, rfl, rfl⟩
  · rw [Tryz.params4]
    exact packNumbers_us

theorem packNumbers_holds : Rows.PackNumbersSaid :=
  OpenClaim.holds_of_wide 4 Tryz.f4 rfl rfl rfl rfl rfl rfl rfl ⟨rfl, rfl, rfl, rfl, rfl⟩ rfl rfl rfl rfl rfl (by kernel_rfl) Tryz.func4 (by kernel_rfl)
    (of_decide_eq_true (by kernel_rfl)) (by unfold Func.isWrapper; first | (rw [if_pos (by decide +kernel)]; kernel_rfl) | (rw [if_neg (by decide +kernel)]; exact ⟨rfl, rfl⟩))
    (fun os started H enc _ => packNumbers_lifted os started H enc)

theorem packNumbers_card : Rows.PackNumbersCardSaid :=
  Claim7.holds_tied_plain_at .later [] [.data, .listed, .data, .pinned] true (true, "d8eb96f3ccea2aeb7fd989a42a9802fd4731d57f4d8e1844e4711a23ec0d74dc") true
    packNumbers_holds (fun _ h => by cases h) (by kernel_rfl) (fun _ h => by cases h) packNumbers_row_tie rfl ⟨rfl, rfl⟩ (by kernel_rfl) rfl
    (fun f fn hf hfn => by
      obtain rfl : f = 4 := Option.some.inj ((show Tryz.prog.funcNamed "seedbed/seedbedlaw13.PackNumbers" = some 4 by kernel_rfl).symm.trans hf) |>.symm
      obtain rfl : fn = Tryz.f4 := (Option.some.inj (Tryz.func4.symm.trans hfn)).symm
      exact ⟨by kernel_rfl, fun j t ht => by
        rw [Tryz.params4] at ht
        have hm : t ∈ [3, 9] := by simpa using Array.mem_of_getElem? ht
        have hall : ([3, 9].all fun u => !Tryz.prog.wantsStandIn u) = true := by kernel_rfl
        exact (show Tryz.prog.wantsStandIn t = false by simpa using List.all_eq_true.1 hall t hm)⟩)
    (by kernel_rfl)
#print axioms packNumbers_card
end Go.Proofs.YtekmafoicobphaaGreatDoor
