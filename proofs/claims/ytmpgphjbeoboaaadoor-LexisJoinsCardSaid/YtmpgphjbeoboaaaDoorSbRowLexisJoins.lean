/- PROVED: for whatever arguments, seedbedlaw01.LexisJoins returns true without a panic, and the arguments read afterwards as they read before. CONDITIONS: those of the given card alone (the listed tables of the library read at the call as the program's text lays them: tied by the given tie). -/
import Derived.Test.YtmpgphjbeoboaaaDoorSbRows
import Derived.Test.YtmpgphjbeoboaaaDoorSbArgL
import Derived.Test.YtmpgphjbeoboaaaDoorSbShpL01
import Derived.Test.YtmpgphjbeoboaaaDoorSbLexisJoins
set_option linter.unusedVariables false
set_option linter.unusedSimpArgs false
namespace Go.Proofs.YtmpgphjbeoboaaaDoor
open Go Go.Sb Go.ChangeShapes Go.WideShapes Go.ChangeAt Go.WideMaps Go.WideElems Go.RowKit
set_option maxRecDepth 100000

theorem lexisJoins_us (us : List V) (h : ShpArgsL reachBytes envQ 8 [23] us) : Has envQ .own 9 us [] (.val (.bool true) []) := by
  rcases us with _ | ⟨u0, _ | ⟨x, us⟩⟩
  · exact (show False from h).elim
  · have h0 : ShpAL reachBytes envQ (8) 23 u0 := h.1
    exact lexisJoins_has u0 (shpA_toks h0)
  · exact (show False from h.2).elim

theorem lexisJoins_door (os : Os) (args : Array Value) : laidMetH Tryd.prog Rows.lexisJoinsRow.laid ((World.laidAll Tryd.prog os Rows.lexisJoinsRow.laid).forCall (fun _ _ => 0) ⟨#[], args, []⟩).memory := by
  rw [MakeChecks.laidMetH_plain _ _ _ (by kernel_rfl)]
  exact laidMet_laidAll _ (by kernel_rfl) (by kernel_rfl)

theorem lexisJoins_lifted (os : Os) (started : os.Started) (H : Type) (enc : TypeId × Value → H) :
    ReturnsInHanded {} Tryd.checked os 9 .any (fun w args => (Rows.lexisJoinsSpec.pre enc Tryd.prog Tryd.f9 [] false w args ∧ laidMetH Tryd.prog Rows.lexisJoinsRow.laid w) ∧ sizedMet enc Tryd.prog Tryd.f9 (OpenSpec.ofChange Rows.lexisJoinsSpec) false w args)
      (Rows.lexisJoinsSpec.post enc Tryd.prog Tryd.f9 false true false false) := by
  refine returns_sized (C := Tryd.checked) (X := fun w _ => laidMetH Tryd.prog Rows.lexisJoinsRow.laid w) (fun _ _ _ hh h => h.of_heap hh) own started (by kernel_rfl) Tryd.func9
    (ChangeSpec.witness_shaped (enc := enc) (C := Tryd.checked) (os := os) (X := fun w _ => laidMetH Tryd.prog Rows.lexisJoinsRow.laid w) false (World.laidAll Tryd.prog os Rows.lexisJoinsRow.laid) #[.slice none 0 0] 8 (World.laidAll_os _ _ _) (World.shaped_of_ZipB (by kernel_rfl) (by kernel_rfl)) (by kernel_rfl) (by kernel_rfl) (by kernel_rfl) (lexisJoins_door os _)) ?_
  intro W base args ds gs before hval hW hwt hsh hL
  rw [MakeChecks.laidMetH_plain _ _ _ (by kernel_rfl)] at hL
  obtain ⟨ps, hL, _, _⟩ := hL
  refine law_callsR (fn := Tryd.f9) (n := 8) (rt := 4) envQ_ok laidOut (by kernel_rfl) (by kernel_rfl) (by kernel_rfl) Tryd.underlying4 rfl ?_ ?_ (gl_of hsh hL (by simp [Rows.lexisJoinsRow]) (by simp [Rows.lexisJoinsRow]) (by simp [Rows.lexisJoinsRow]) (by simp [Rows.lexisJoinsRow])) hval hW hwt
  · intro ds hd
    rw [Tryd.params9] at hd
    match ds, hd with
    | [d0], _ => exact ⟨rfl, rfl, rfl⟩
  · rw [Tryd.params9]
    exact lexisJoins_us

theorem lexisJoins_holds : Rows.LexisJoinsSaid :=
  OpenClaim.holds_of_wide 9 Tryd.f9 rfl rfl rfl rfl rfl rfl rfl ⟨rfl, rfl, rfl, rfl, rfl⟩ rfl rfl rfl rfl rfl (by kernel_rfl) Tryd.func9 (by kernel_rfl)
    (of_decide_eq_true (by kernel_rfl)) (by unfold Func.isWrapper; first | (rw [if_pos (by decide +kernel)]; kernel_rfl) | (rw [if_neg (by decide +kernel)]; exact ⟨rfl, rfl⟩))
    (fun os started H enc _ => lexisJoins_lifted os started H enc)

theorem lexisJoins_card : Rows.LexisJoinsCardSaid :=
  Claim7.holds_tied_plain_at .later [] [.data, .data, .data, .data, .sentinel, .sentinel, .listed, .data, .pinned] true (true, "32d53549c4f72126861972180e0d6b2543fd6a92fa7ee7583bdd7399badcddb1") true
    lexisJoins_holds (fun _ h => by cases h) (by kernel_rfl) (fun _ h => by cases h) lexisJoins_row_tie rfl ⟨rfl, rfl⟩ (by kernel_rfl) rfl
    (fun f fn hf hfn => by
      obtain rfl : f = 9 := Option.some.inj ((show Tryd.prog.funcNamed "seedbed/seedbedlaw01.LexisJoins" = some 9 by kernel_rfl).symm.trans hf) |>.symm
      obtain rfl : fn = Tryd.f9 := (Option.some.inj (Tryd.func9.symm.trans hfn)).symm
      exact ⟨by kernel_rfl, fun j t ht => by
        rw [Tryd.params9] at ht
        have hm : t ∈ [23] := by simpa using Array.mem_of_getElem? ht
        have hall : ([23].all fun u => !Tryd.prog.wantsStandIn u) = true := by kernel_rfl
        exact (show Tryd.prog.wantsStandIn t = false by simpa using List.all_eq_true.1 hall t hm)⟩)
    (by kernel_rfl)
#print axioms lexisJoins_card
end Go.Proofs.YtmpgphjbeoboaaaDoor
