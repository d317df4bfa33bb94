/- PROVED: for whatever arguments, seedbedlaw01.LexisBack returns true without a panic, and the arguments read afterwards as they read before. CONDITIONS: those of the given card alone (the listed tables of the library read at the call as the program's text lays them: tied by the given tie). -/
import Derived.Test.YtmpgphjbeoboaaaDoorSbRows
import Derived.Test.YtmpgphjbeoboaaaDoorSbLexisBack
set_option linter.unusedVariables false
set_option linter.unusedSimpArgs false
namespace Go.Proofs.YtmpgphjbeoboaaaDoor
open Go Go.Sb Go.ChangeShapes Go.WideShapes Go.ChangeAt Go.WideMaps Go.WideElems Go.RowKit
set_option maxRecDepth 100000

theorem lexisBack_us (us : List V) (h : ShpArgs envQ 8 [9] us) : Has envQ .own 10 us [] (.val (.bool true) []) := by
  rcases us with _ | ⟨u0, _ | ⟨x, us⟩⟩
  · exact (show False from h).elim
  · have h0 : ShpA envQ (7 + 1) 9 u0 := h.1
    obtain ⟨s0, e0, g0⟩ := shpA_str h0
    rw [e0]
    exact lexisBack_has s0 (by unfold maxLen at g0; omega)
  · exact (show False from h.2).elim

theorem lexisBack_door (os : Os) (args : Array Value) : laidMetH Tryd.prog Rows.lexisBackRow.laid ((World.laidAll Tryd.prog os Rows.lexisBackRow.laid).forCall (fun _ _ => 0) ⟨#[], args, []⟩).memory := by
  rw [MakeChecks.laidMetH_plain _ _ _ (by kernel_rfl)]
  exact laidMet_laidAll _ (by kernel_rfl) (by kernel_rfl)

theorem lexisBack_lifted (os : Os) (started : os.Started) (H : Type) (enc : TypeId × Value → H) :
    ReturnsInHanded {} Tryd.checked os 10 .any (fun w args => (Rows.lexisBackSpec.pre enc Tryd.prog Tryd.f10 [] false w args ∧ laidMetH Tryd.prog Rows.lexisBackRow.laid w) ∧ sizedMet enc Tryd.prog Tryd.f10 (OpenSpec.ofChange Rows.lexisBackSpec) false w args)
      (Rows.lexisBackSpec.post enc Tryd.prog Tryd.f10 false true false false) := by
  refine returns_shaped (C := Tryd.checked) (X := fun w _ => laidMetH Tryd.prog Rows.lexisBackRow.laid w) (fun _ _ _ hh h => h.of_heap hh) own started (by kernel_rfl) Tryd.func10
    (ChangeSpec.witness_shaped (enc := enc) (C := Tryd.checked) (os := os) (X := fun w _ => laidMetH Tryd.prog Rows.lexisBackRow.laid w) false (World.laidAll Tryd.prog os Rows.lexisBackRow.laid) #[.string ⟨#[]⟩] 8 (World.laidAll_os _ _ _) (World.shaped_of_ZipB (by kernel_rfl) (by kernel_rfl)) (by kernel_rfl) (by kernel_rfl) (by kernel_rfl) (lexisBack_door os _)) ?_
  intro W base args ds gs before hval hW hsh hL
  rw [MakeChecks.laidMetH_plain _ _ _ (by kernel_rfl)] at hL
  obtain ⟨ps, hL, _, _⟩ := hL
  refine law_calls (fn := Tryd.f10) (n := 8) (rt := 4) envQ_ok laidOut (by kernel_rfl) (by kernel_rfl) (by kernel_rfl) Tryd.underlying4 rfl ?_ ?_ (gl_of hsh hL (by simp [Rows.lexisBackRow]) (by simp [Rows.lexisBackRow]) (by simp [Rows.lexisBackRow]) (by simp [Rows.lexisBackRow])) hval hW
  · intro ds hd
    rw [Tryd.params10] at hd
    match ds, hd with
    | [d0], _ => exact ⟨rfl, rfl, rfl⟩
  · rw [Tryd.params10]
    exact lexisBack_us

theorem lexisBack_holds : Rows.LexisBackSaid :=
  OpenClaim.holds_of_wide 10 Tryd.f10 rfl rfl rfl rfl rfl rfl rfl ⟨rfl, rfl, rfl, rfl, rfl⟩ rfl rfl rfl rfl rfl (by kernel_rfl) Tryd.func10 (by kernel_rfl)
    (of_decide_eq_true (by kernel_rfl)) (by unfold Func.isWrapper; first | (rw [if_pos (by decide +kernel)]; kernel_rfl) | (rw [if_neg (by decide +kernel)]; exact ⟨rfl, rfl⟩))
    (fun os started H enc _ => lexisBack_lifted os started H enc)

theorem lexisBack_card : Rows.LexisBackCardSaid :=
  Claim7.holds_tied_plain_at .later [] [.data, .data, .data, .data, .sentinel, .sentinel, .listed, .data, .pinned] true (true, "32d53549c4f72126861972180e0d6b2543fd6a92fa7ee7583bdd7399badcddb1") true
    lexisBack_holds (fun _ h => by cases h) (by kernel_rfl) (fun _ h => by cases h) lexisBack_row_tie rfl ⟨rfl, rfl⟩ (by kernel_rfl) rfl
    (fun f fn hf hfn => by
      obtain rfl : f = 10 := Option.some.inj ((show Tryd.prog.funcNamed "seedbed/seedbedlaw01.LexisBack" = some 10 by kernel_rfl).symm.trans hf) |>.symm
      obtain rfl : fn = Tryd.f10 := (Option.some.inj (Tryd.func10.symm.trans hfn)).symm
      exact ⟨by kernel_rfl, fun j t ht => by
        rw [Tryd.params10] at ht
        have hm : t ∈ [9] := by simpa using Array.mem_of_getElem? ht
        have hall : ([9].all fun u => !Tryd.prog.wantsStandIn u) = true := by kernel_rfl
        exact (show Tryd.prog.wantsStandIn t = false by simpa using List.all_eq_true.1 hall t hm)⟩)
    (by kernel_rfl)
#print axioms lexisBack_card
end Go.Proofs.YtmpgphjbeoboaaaDoor
