/- The surroundings: guarded; the law's own sample told. -/
import Derived.Test.YtekmafoicobphaaGreatDoorSbEnv
import Derived.Test.YtekmafoicobphaaGreatDoorSbGuardD
import Derived.Test.YtekmafoicobphaaGreatDoorSbLib
import Derived.Test.YtekmafoicobphaaGreatDoorSbOwnE
set_option linter.unusedVariables false
set_option linter.unusedSimpArgs false
namespace Go.Proofs.YtekmafoicobphaaGreatDoor
open Go.Sb
set_option maxRecDepth 100000

/-- seedbed/pack.guarded -/
noncomputable def fn38 : FnD := fnDof Tryz.f38 mdT
noncomputable def gd11 : Option GuardD := guardOf 1 fn38 fn60 60
noncomputable def gdT (f : FuncId) : Option GuardD := bif Nat.beq f 38 then gd11 else none
noncomputable def envP : Env := { ty := tyT, fn := fnT, gl := fun _ => none, ext := fun _ => none, lib := fun _ => none, eqs := fun _ => none, gd := gdT }
theorem envP_ok : EnvOk Tryz.prog envP where
  ty := tyT_ok
  fn := fnT_ok
  ext := fun f p h => by cases h
  lib := fun f p h => by cases h
  eqs := fun t f h => by cases h
  mixed := by kernel_rfl
  gd := fun f G h => by
    replace h : gdT f = some G := h
    unfold gdT at h
    rw [cond_eq_ite] at h
    split at h
    · rename_i e
      have e := Nat.eq_of_beq_eq_true e
      subst e
      exact guardOf_ok h (fnOk_of Tryz.func38 (by kernel_rfl) (by kernel_rfl)) (fnT_ok 60 fn60 rfl)
    · cases h
theorem awake_run : callN envP 40 .own 14 [] [] = some (.val (.bool true) []) := by kernel_rfl
def tellAwake (vs : List V) : Option V := match vs with | [] => some (.bool true) | _ => none
noncomputable def envQ : Env := envP.told 14 tellAwake
theorem envQ_ok : EnvOk Tryz.prog envQ := by
  refine envP_ok.told (fun vs v h => ?_) ⟨Tryz.f14, Tryz.func14, by kernel_rfl, by kernel_rfl⟩
  unfold tellAwake at h
  split at h
  · cases h; exact ⟨rfl, 40, awake_run⟩
  · cases h
theorem awake_told (h : Heap) : Has envQ .own 14 [] h (.val (.bool true) h) := Has.told (E := envQ) (a := []) (p := tellAwake) rfl rfl rfl rfl
end Go.Proofs.YtekmafoicobphaaGreatDoor
