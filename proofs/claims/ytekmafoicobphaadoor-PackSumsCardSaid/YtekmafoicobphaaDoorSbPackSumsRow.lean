/- PROVED: for whatever arguments, seedbedlaw13.PackSums returns true without a panic, and the arguments read afterwards as they read before. CONDITIONS: those of the given card alone (the listed tables of the library read at the call as the program's text lays them: tied by the given tie). -/
import Derived.Test.YtekmafoicobphaaDoorSbSum13
import Derived.Lay
import Derived.Test.YtekmafoicobphaaDoorCards
import Derived.Test.YtekmafoicobphaaDoorTie
set_option linter.unusedVariables false
set_option linter.unusedSimpArgs false
namespace Go.Proofs.YtekmafoicobphaaDoor
open Go Go.Sb Go.ChangeShapes Go.WideShapes Go.ChangeAt Go.WideMaps Go.WideElems Go.RowKit
set_option maxRecDepth 100000

theorem packSums_us (us : List V) (h : ShpArgs envQ 8 [9,9,9] us) : Has envQ .own 4 us [] (.val (.bool true) []) := by
  match us, h with
  | [u0, u1, u2], h =>
    obtain ⟨s0, rfl, hs0⟩ := shpA_str (n := 7) h.1
    obtain ⟨s1, rfl, hs1⟩ := shpA_str (n := 7) h.2.1
    obtain ⟨s2, rfl, hs2⟩ := shpA_str (n := 7) h.2.2.1
    exact packSums_has s0 s1 s2

theorem packSums_door (os : Os) (args : Array Value) : laidMetH Tryd.prog Rows.packSumsRow.laid ((World.laidAll Tryd.prog os Rows.packSumsRow.laid).forCall (fun _ _ => 0) ⟨#[], args, []⟩).memory := by
  rw [MakeChecks.laidMetH_plain _ _ _ (by kernel_rfl)]
  exact laidMet_laidAll _ (by kernel_rfl) (by kernel_rfl)

theorem packSums_lifted (os : Os) (started : os.Started) (H : Type) (enc : TypeId × Value → H) :
    ReturnsInHanded {} Tryd.checked os 4 .any (fun w args => (Rows.packSumsSpec.pre enc Tryd.prog Tryd.f4 [] false w args ∧ laidMetH Tryd.prog Rows.packSumsRow.laid w) ∧ sizedMet enc Tryd.prog Tryd.f4 (OpenSpec.ofChange Rows.packSumsSpec) false w args)
      (Rows.packSumsSpec.post enc Tryd.prog Tryd.f4 false true false false) := by
  refine returnsInHanded_of_change_and (C := Tryd.checked) (X := fun w _ => laidMetH Tryd.prog Rows.packSumsRow.laid w) (fun _ _ _ hh h => h.of_heap hh) own started (by kernel_rfl) Tryd.func4
    (ChangeSpec.witness_shaped (enc := enc) (C := Tryd.checked) (os := os) (X := fun w _ => laidMetH Tryd.prog Rows.packSumsRow.laid w) false (World.laidAll Tryd.prog os Rows.packSumsRow.laid) #[.string ⟨#[]⟩, .string ⟨#[]⟩, .string ⟨#[]⟩] 8 (World.laidAll_os _ _ _) (World.shaped_of_ZipB (by kernel_rfl) (by kernel_rfl)) (by kernel_rfl) (by kernel_rfl) (by kernel_rfl) (packSums_door os _)) ?_
  intro W base args ds gs before hval hW _ _ hL _
  refine law_calls (fn := Tryd.f4) (n := 8) (rt := 4) envQ_ok laidOut (by kernel_rfl) (by kernel_rfl) (by kernel_rfl) Tryd.underlying4 rfl ?_ ?_ gl_none hval hW
  · intro ds hd
    rw [Tryd.params4] at hd
    match ds, hd with
    | [d0, d1, d2], _ => exact ⟨rfl, rfl, rfl⟩
  · rw [Tryd.params4]
    exact packSums_us

theorem packSums_holds : Rows.PackSumsSaid :=
  OpenClaim.holds_of_wide 4 Tryd.f4 rfl rfl rfl rfl rfl rfl rfl ⟨rfl, rfl, rfl, rfl, rfl⟩ rfl rfl rfl rfl rfl (by kernel_rfl) Tryd.func4 (by kernel_rfl)
    (of_decide_eq_true (by kernel_rfl)) (by unfold Func.isWrapper; first | (rw [if_pos (by decide +kernel)]; kernel_rfl) | (rw [if_neg (by decide +kernel)]; exact ⟨rfl, rfl⟩))
    (fun os started H enc _ => packSums_lifted os started H enc)

theorem packSums_card : Rows.PackSumsCardSaid :=
  Claim7.holds_tied_plain_at .later [] [.data, .listed, .data, .pinned] true (true, "b42e853d3fe870680ec2573d47a5e817a0dc42e3f650f0ea466b69a1db4e1cc4") true
    packSums_holds (fun _ h => by cases h) (by kernel_rfl) (fun _ h => by cases h) packSums_row_tie rfl ⟨rfl, rfl⟩ (by kernel_rfl) rfl
    (fun f fn hf hfn => by
      obtain rfl : f = 4 := Option.some.inj ((show Tryd.prog.funcNamed "seedbed/seedbedlaw13.PackSums" = some 4 by kernel_rfl).symm.trans hf) |>.symm
      obtain rfl : fn = Tryd.f4 := (Option.some.inj (Tryd.func4.symm.trans hfn)).symm
      exact ⟨by kernel_rfl, fun j t ht => by
        rw [Tryd.params4] at ht
        have hm : t ∈ [9, 9, 9] := by simpa using Array.mem_of_getElem? ht
        have hall : ([9, 9, 9].all fun u => !Tryd.prog.wantsStandIn u) = true := by kernel_rfl
        exact (show Tryd.prog.wantsStandIn t = false by simpa using List.all_eq_true.1 hall t hm)⟩)
    (by kernel_rfl)
#print axioms packSums_card
end Go.Proofs.YtekmafoicobphaaDoor
