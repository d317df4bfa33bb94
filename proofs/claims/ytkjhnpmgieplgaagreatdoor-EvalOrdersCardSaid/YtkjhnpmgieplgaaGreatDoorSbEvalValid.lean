/- EvalValid: the law answers true. -/
import Derived.Test.YtkjhnpmgieplgaaGreatDoorSbVal
import Derived.Test.YtkjhnpmgieplgaaGreatDoorSbDraw2
set_option linter.unusedVariables false
set_option linter.unusedSimpArgs false
namespace Go.Proofs.YtkjhnpmgieplgaaGreatDoor
open Go.Sb
set_option maxRecDepth 100000

abbrev I64 (n : Int) : Prop := -9223372036854775808 ≤ n ∧ n ≤ 9223372036854775807
theorem dec_eq {b : Bool} : evBin envQ .eql 4 (.bool b) (.bool b) = some (.bool true) := by cases b <;> rfl
theorem evalValid_has (k n : Int) (s : List UInt8) (_ : I64 k) (_ : I64 n) (hs : s.length ≤ 9223372036854775807) (f : Int) (u : List UInt8) (_ : I64 f) (hu : u.length ≤ 9223372036854775807) : Has envQ .own 8 [.agg [.int .i64 k, .int .i64 n, .str s], .agg [.int .i64 f, .str u]] [] (.val (.bool true) []) := by
  refine HasP.own (a := [.agg [.int .i64 k, .int .i64 n, .str s], .agg [.int .i64 f, .str u]]) (d := fn8) rfl rfl rfl (of_decide_eq_true rfl) ?_
  repeat (first | apply RunP.seq | apply RunP.region | apply RunP.condT rfl | apply RunP.condF rfl | apply RunP.skip | apply RunP.block | apply RunP.exit | apply RunP.ret)
  refine RunP.drawnR _ (by decide +kernel) (fun K => rfl) ?_
  refine draw_rl (s' := [_,_,_,_,_,_,_,_,_,_,_,_,_,_,_,_,_,_,_,_,_]) rfl (fun K hK => hK) (by decide +kernel) rfl ?_
  refine draw_rl (s' := [_,_,_,_,_,_,_,_,_,_,_,_,_,_,_,_,_,_,_,_,_]) rfl (fun K hK => CallK.of (evValid_has _ k n s hs) hK) (by decide +kernel) rfl ?_
  refine draw_rl (s' := [_,_,_,_,_,_,_,_,_,_,_,_,_,_,_,_,_,_,_,_,_]) rfl (fun K hK => hK) (by decide +kernel) rfl ?_
  refine draw_rl (s' := [_,_,_,_,_,_,_,_,_,_,_,_,_,_,_,_,_,_,_,_,_]) rfl (fun K hK => CallK.of (refValid_has _ k n s hs) hK) (by decide +kernel) rfl ?_
  refine draw_zl (s' := [_,_,_,_,_,_,_,_,_,_,_,_,_,_,_,_,_,_,_,_,_]) rfl (fun K hK => bindK_of (K := fun v => K v _) dec_eq hK) (by decide +kernel) rfl ?_
  refine draw_zl (s' := [_,_,_,_,_,_,_,_,_,_,_,_,_,_,_,_,_,_,_,_,_]) rfl (fun K hK => hK) (by decide +kernel) rfl ?_
  refine draw_yr (s' := [_,_,_,_,_,_,_,_,_,_,_,_,_,_,_,_,_,_,_,_,_]) rfl rfl (fun K hK => hK) (by decide +kernel) rfl ?_
  refine draw_yr (s' := [_,_,_,_,_,_,_,_,_,_,_,_,_,_,_,_,_,_,_,_,_]) rfl rfl (fun K hK => CallK.of (evFault_has _ f u hu) hK) (by decide +kernel) rfl ?_
  refine draw_yr (s' := [_,_,_,_,_,_,_,_,_,_,_,_,_,_,_,_,_,_,_,_,_]) rfl rfl (fun K hK => hK) (by decide +kernel) rfl ?_
  refine draw_yr (s' := [_,_,_,_,_,_,_,_,_,_,_,_,_,_,_,_,_,_,_,_,_]) rfl rfl (fun K hK => CallK.of (refFault_has _ f u hu) hK) (by decide +kernel) rfl ?_
  refine draw_yz (s' := [_,_,_,_,_,_,_,_,_,_,_,_,_,_,_,_,_,_,_,_,_]) rfl rfl (fun K hK => bindK_of (K := fun v => K v _) dec_eq hK) (by decide +kernel) rfl ?_
  refine draw_zl (s' := [_,_,_,_,_,_,_,_,_,_,_,_,_,_,_,_,_,_,_,_,_]) rfl (fun K hK => hK) (by decide +kernel) rfl ?_
  refine draw_zl (s' := [_,_,_,_,_,_,_,_,_,_,_,_,_,_,_,_,_,_,_,_,_]) rfl (fun K hK => hK) (by decide +kernel) rfl ?_
  refine draw_yr (s' := [_,_,_,_,_,_,_,_,_,_,_,_,_,_,_,_,_,_,_,_,_]) rfl rfl (fun K hK => CallK.of (awake_told _) hK) (by decide +kernel) rfl ?_
  refine draw_zl (s' := [_,_,_,_,_,_,_,_,_,_,_,_,_,_,_,_,_,_,_,_,_]) rfl (fun K hK => hK) (by decide +kernel) rfl ?_
  refine draw_zl (s' := [_,_,_,_,_,_,_,_,_,_,_,_,_,_,_,_,_,_,_,_,_]) rfl (fun K hK => hK) (by decide +kernel) rfl ?_
  repeat (first | apply RunP.seq | apply RunP.region | apply RunP.condT rfl | apply RunP.condF rfl | apply RunP.skip | apply RunP.block | apply RunP.exit | apply RunP.ret)
  exact ⟨rfl, rfl, rfl⟩
end Go.Proofs.YtkjhnpmgieplgaaGreatDoor
