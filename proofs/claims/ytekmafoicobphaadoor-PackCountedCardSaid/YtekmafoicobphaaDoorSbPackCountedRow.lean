/- PROVED: for whatever arguments, seedbedlaw13.PackCounted returns true without a panic, and the arguments read afterwards as they read before. CONDITIONS: those of the given card alone (the listed tables of the library read at the call as the program's text lays them: tied by the given tie). -/
import Derived.Test.YtekmafoicobphaaDoorSbCount13
import Derived.Lay
import Derived.Test.YtekmafoicobphaaDoorCards
import Derived.Test.YtekmafoicobphaaDoorTie
set_option linter.unusedVariables false
set_option linter.unusedSimpArgs false
namespace Go.Proofs.YtekmafoicobphaaDoor
open Go Go.Sb Go.ChangeShapes Go.WideShapes Go.ChangeAt Go.WideMaps Go.WideElems Go.RowKit
set_option maxRecDepth 100000

theorem packCounted_us (us : List V) (h : ShpArgs envQ 8 [3,9] us) : Has envQ .own 3 us [] (.val (.bool true) []) := by
  rcases us with _ | ⟨u0, _ | ⟨u1, _ | ⟨x, us⟩⟩⟩
  · exact (show False from h).elim
  · exact (show False from h.2).elim
  · have h0 : ShpA envQ (7 + 1) 3 u0 := h.1
    have h1 : ShpA envQ (7 + 1) 9 u1 := h.2.1
    obtain ⟨z0, hz, hz0⟩ := shpA_int h0
    obtain ⟨s1, hs, _⟩ := shpA_str h1
    rw [hz, hs]
    exact packCounted_has z0 (wf_i64 hz0) s1
  · exact (show False from h.2.2).elim

theorem packCounted_door (os : Os) (args : Array Value) : laidMetH Tryd.prog Rows.packCountedRow.laid ((World.laidAll Tryd.prog os Rows.packCountedRow.laid).forCall (fun _ _ => 0) ⟨#[], args, []⟩).memory := by
  rw [MakeChecks.laidMetH_plain _ _ _ (by kernel_rfl)]
  exact laidMet_laidAll _ (by kernel_rfl) (by kernel_rfl)

theorem packCounted_lifted (os : Os) (started : os.Started) (H : Type) (enc : TypeId × Value → H) :
    ReturnsInHanded {} Tryd.checked os 3 .any (fun w args => (Rows.packCountedSpec.pre enc Tryd.prog Tryd.f3 [] false w args ∧ laidMetH Tryd.prog Rows.packCountedRow.laid w) ∧ sizedMet enc Tryd.prog Tryd.f3 (OpenSpec.ofChange Rows.packCountedSpec) false w args)
      (Rows.packCountedSpec.post enc Tryd.prog Tryd.f3 false true false false) := by
  refine returnsInHanded_of_change_and (C := Tryd.checked) (X := fun w _ => laidMetH Tryd.prog Rows.packCountedRow.laid w) (fun _ _ _ hh h => h.of_heap hh) own started (by kernel_rfl) Tryd.func3
    (ChangeSpec.witness_shaped (enc := enc) (C := Tryd.checked) (os := os) (X := fun w _ => laidMetH Tryd.prog Rows.packCountedRow.laid w) false (World.laidAll Tryd.prog os Rows.packCountedRow.laid) #[.int .i64 0, .string ⟨#[]⟩] 8 (World.laidAll_os _ _ _) (World.shaped_of_ZipB (by kernel_rfl) (by kernel_rfl)) (by kernel_rfl) (by kernel_rfl) (by kernel_rfl) (packCounted_door os _)) ?_
  intro W base args ds gs before hval hW _ _ hL _
  refine law_calls (fn := Tryd.f3) (n := 8) (rt := 4) envQ_ok laidOut (by kernel_rfl) (by kernel_rfl) (by kernel_rfl) Tryd.underlying4 rfl ?_ ?_ gl_none hval hW
  · intro ds hd
    rw [Tryd.params3] at hd
    match ds, hd with
    | [d0, d1], _ => exact ⟨rfl, rfl, rfl⟩
  · rw [Tryd.params3]
    exact packCounted_us

theorem packCounted_holds : Rows.PackCountedSaid :=
  OpenClaim.holds_of_wide 3 Tryd.f3 rfl rfl rfl rfl rfl rfl rfl ⟨rfl, rfl, rfl, rfl, rfl⟩ rfl rfl rfl rfl rfl (by kernel_rfl) Tryd.func3 (by kernel_rfl)
    (of_decide_eq_true (by kernel_rfl)) (by unfold Func.isWrapper; first | (rw [if_pos (by decide +kernel)]; kernel_rfl) | (rw [if_neg (by decide +kernel)]; exact ⟨rfl, rfl⟩))
    (fun os started H enc _ => packCounted_lifted os started H enc)

theorem packCounted_card : Rows.PackCountedCardSaid :=
  Claim7.holds_tied_plain_at .later [] [.data, .listed, .data, .pinned] true (true, "b42e853d3fe870680ec2573d47a5e817a0dc42e3f650f0ea466b69a1db4e1cc4") true
    packCounted_holds (fun _ h => by cases h) (by kernel_rfl) (fun _ h => by cases h) packCounted_row_tie rfl ⟨rfl, rfl⟩ (by kernel_rfl) rfl
    (fun f fn hf hfn => by
      obtain rfl : f = 3 := Option.some.inj ((show Tryd.prog.funcNamed "seedbed/seedbedlaw13.PackCounted" = some 3 by kernel_rfl).symm.trans hf) |>.symm
      obtain rfl : fn = Tryd.f3 := (Option.some.inj (Tryd.func3.symm.trans hfn)).symm
      exact ⟨by kernel_rfl, fun j t ht => by
        rw [Tryd.params3] at ht
        have hm : t ∈ [3, 9] := by simpa using Array.mem_of_getElem? ht
        have hall : ([3, 9].all fun u => !Tryd.prog.wantsStandIn u) = true := by kernel_rfl
        exact (show Tryd.prog.wantsStandIn t = false by simpa using List.all_eq_true.1 hall t hm)⟩)
    (by kernel_rfl)
#print axioms packCounted_card
end Go.Proofs.YtekmafoicobphaaDoor
