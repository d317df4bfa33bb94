/- PROVED: for whatever arguments, seedbedlaw13.PackChanged returns true without a panic, and the arguments read afterwards ars they read before. CONDITIONS: those of the given card alone (the listed tables of the library read at the call ars the program's text lays them: tied by the given tie). -/
import Derived.Test.YtekmafoicobphaaGreatDoorSbArgL
import Derived.Test.YtekmafoicobphaaGreatDoorSbPackChanged
set_option linter.unusedVariables false
set_option linter.unusedSimpArgs false
namespace Go.Proofs.YtekmafoicobphaaGreatDoor
open Go Go.Sb Go.ChangeShapes Go.WideShapes Go.ChangeAt Go.WideMaps Go.WideElems Go.RowKit
set_option maxRecDepth 100000
theorem yzd (us : List V) (h : yhz reachBytes envQ 8 [25, 3, 3] us) : Has envQ .own 6 us [] (.val (.bool true) []) := by
 rcases us with _ | ⟨u0, _ | ⟨u1, _ | ⟨u2, _ | ⟨x, us⟩⟩⟩⟩
 ·exact (show False from h).elim
 ·exact (show False from h.2).elim
 ·exact (show False from h.2.2).elim
 ·have h0 : ShpAL reachBytes envQ (8) 25 u0 := h.1
  have h1 : ShpAL reachBytes envQ (8) 3 u1 := h.2.1
  have h2 : ShpAL reachBytes envQ (8) 3 u2 := h.2.2.1
  exact yzc u0 (shpA_cod h0) u1 (yta h1) u2 (yta h2)
 ·exact (show False from h.2.2.2).elim
theorem yze (os : Os) (args : Array Value) : laidMetH Tryz.prog Rows.packChangedRow.laid ((World.laidAll Tryz.prog os Rows.packChangedRow.laid).forCall (fun _ _ => 0) ⟨#[], args, []⟩).memory := by
 rw [MakeChecks.laidMetH_plain _ _ _ (by kernel_rfl)]
 exact laidMet_laidAll _ (by kernel_rfl) (by kernel_rfl)
theorem yzf (os : Os) (started : os.Started) (H : Type) (enc : TypeId × Value → H) :
  ReturnsInHanded {} Tryz.checked os 6 .any (fun w args => (Rows.packChangedSpec.pre enc Tryz.prog Tryz.f6 [] false w args ∧ laidMetH Tryz.prog Rows.packChangedRow.laid w) ∧ sizedMet enc Tryz.prog Tryz.f6 (OpenSpec.ofChange Rows.packChangedSpec) false w args)
   (Rows.packChangedSpec.post enc Tryz.prog Tryz.f6 false true false false) := by
 refine yvy (C := Tryz.checked) (X := fun w _ => laidMetH Tryz.prog Rows.packChangedRow.laid w) (fun _ _ _ hh h => h.of_heap hh) own started (by kernel_rfl) Tryz.func6
  (ChangeSpec.witness_shaped (enc := enc) (C := Tryz.checked) (os := os) (X := fun w _ => laidMetH Tryz.prog Rows.packChangedRow.laid w) false (World.laidAll Tryz.prog os Rows.packChangedRow.laid) #[.agg #[.slice none 0 0], .int .i64 0, .int .i64 0] 8 (World.laidAll_os _ _ _) (World.shaped_of_ZipB (by kernel_rfl) (by kernel_rfl)) (by kernel_rfl) (by kernel_rfl) (by kernel_rfl) (yze os _)) ?_
 intro W base args ds gs before hval hW hwt hsh hL
 rw [MakeChecks.laidMetH_plain _ _ _ (by kernel_rfl)] at hL
 obtain ⟨ps, hL, _, _⟩ := hL
 refine yvx (fn := Tryz.f6) (n := 8) (rt := 4) envQ_ok laidOut (by kernel_rfl) (by kernel_rfl) (by kernel_rfl) Tryz.underlying4 rfl ?_ ?_ (gl_of hsh hL (by simp [Rows.packChangedRow])) hval hW hwt
 ·intro ds hd
  rw [Tryz.params6] at hd
  match ds, hd with
  | [d0, d1, d2], _ => exact ⟨rfl, rfl, rfl⟩
 ·rw [Tryz.params6]
  exact yzd
theorem yzg : Rows.PackChangedSaid :=
 OpenClaim.holds_of_wide 6 Tryz.f6 rfl rfl rfl rfl rfl rfl rfl ⟨rfl, rfl, rfl, rfl, rfl⟩ rfl rfl rfl rfl rfl (by kernel_rfl) Tryz.func6 (by kernel_rfl)
  (jT (by kernel_rfl)) (by unfold Func.isWrapper; first | (rw [if_pos (by decide +kernel)]; kernel_rfl) | (rw [if_neg (by decide +kernel)]; exact ⟨rfl, rfl⟩))
  (fun os started H enc _ => yzf os started H enc)
theorem packChanged_card : Rows.PackChangedCardSaid :=
 Claim7.holds_tied_plain_at .later [] [.data, .listed, .data, .pinned] true (true, "d8eb96f3ccea2aeb7fd989a42a9802fd4731d57f4d8e1844e4711a23ec0d74dc") true
  yzg (fun _ h => by cases h) (by kernel_rfl) (fun _ h => by cases h) packChanged_row_tie rfl ⟨rfl, rfl⟩ (by kernel_rfl) rfl
  (fun f fn hf hfn => by
   obtain rfl : f = 6 := Option.some.inj ((show Tryz.prog.funcNamed "seedbed/seedbedlaw13.PackChanged" = some 6 by kernel_rfl).symm.trans hf) |>.symm
   obtain rfl : fn = Tryz.f6 := (Option.some.inj (Tryz.func6.symm.trans hfn)).symm
   exact ⟨by kernel_rfl, fun j t ht => by
    rw [Tryz.params6] at ht
    have hm : t ∈ [25, 3, 3] := by simpa using Array.mem_of_getElem? ht
    have hall : ([25, 3, 3].all fun u => !Tryz.prog.wantsStandIn u) = true := by kernel_rfl
    exact (show Tryz.prog.wantsStandIn t = false by simpa using List.all_eq_true.1 hall t hm)⟩)
  (by kernel_rfl)
#print axioms packChanged_card
end Go.Proofs.YtekmafoicobphaaGreatDoor
