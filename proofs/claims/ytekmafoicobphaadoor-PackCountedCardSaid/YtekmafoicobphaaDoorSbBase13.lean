/- Seat 13: the surroundings. -/
import Derived.Test.YtekmafoicobphaaDoorSbEnv13
import Derived.Test.YtekmafoicobphaaDoorSbGuardD
set_option linter.unusedVariables false
set_option linter.unusedSimpArgs false
namespace Go.Proofs.YtekmafoicobphaaDoor
open Go.Sb
set_option maxRecDepth 100000

/-- seedbed/pack.guarded -/
noncomputable def fn11 : FnD := fnDof Tryd.f11 mdT
noncomputable def gd11 : Option GuardD := guardOf 1 fn11 fn15 15
noncomputable def gdT (f : FuncId) : Option GuardD := bif Nat.beq f 11 then gd11 else none
noncomputable def envP : Env := { ty := tyT, fn := fnT, gl := fun _ => none, ext := fun _ => none, lib := fun _ => none, eqs := fun _ => none, gd := gdT }
theorem envP_ok : EnvOk Tryd.prog envP where
  ty := tyT_ok
  fn := fnT_ok
  ext := fun f p h => by cases h
  lib := fun f p h => by cases h
  eqs := fun t f h => by cases h
  mixed := by kernel_rfl
  gd := fun f G h => by
    replace h : gdT f = some G := h
    unfold gdT at h
    rw [cond_eq_ite] at h
    split at h
    · rename_i e
      have e := Nat.eq_of_beq_eq_true e
      subst e
      exact guardOf_ok h (fnOk_of Tryd.func11 (by kernel_rfl) (by kernel_rfl)) (fnT_ok 15 fn15 rfl)
    · cases h
end Go.Proofs.YtekmafoicobphaaDoor
