/- The seat's surroundings: tables of the library's, functions without a body, '==' at structs. -/
import Derived.Test.YtnefminojpandaaDoorSbEnv25
import Derived.Test.YtnefminojpandaaDoorSbIdx
import Derived.Lib.ItoaMem
import Derived.Test.YtnefminojpandaaDoorTie
set_option linter.unusedVariables false
set_option linter.unusedSimpArgs false
namespace Go.Proofs.YtnefminojpandaaDoor
open Go.Sb
set_option maxRecDepth 100000

def spaceN (i : Nat) : Int := if i = 9 ∨ i = 10 ∨ i = 11 ∨ i = 12 ∨ i = 13 ∨ i = 32 then 1 else 0
def spaceV : List V := (List.range 256).map fun i => .int .u8 (spaceN i)

def pow10V : List V := Lib.pow10Tab.map (V.int .u64)

/-- An error that is not nil, whatever it leads to. -/
def errV : List V := [.ifc 188 .junk]

noncomputable def envB : Env := { ty := tyT, fn := fnT, gl := fun g => bif Nat.beq g 0 then some spaceV else bif Nat.beq g 3 then some pow10V else bif Nat.beq g 4 then some errV else bif Nat.beq g 5 then some errV else none, ext := fun f => bif Nat.beq f 88 then some same1 else bif Nat.beq f 132 then some idxV else none, lib := fun _ => none, eqs := fun _ => none }

/-- .. in a world whose table of blanks lies as the program's text lays it. -/
theorem envB_ok : EnvOk Tryd.prog envB where
  ty := tyT_ok
  fn := fnT_ok
  ext := fun f p h => by
    simp only [envB, cond_eq_ite] at h
    split at h
    · rename_i e; have e := Nat.eq_of_beq_eq_true e; subst e; cases h
      exact extOk_same (e := Extern.AbiNoEscape.same) Tryd.func88 (by kernel_rfl) (by kernel_rfl) (by kernel_rfl) (by kernel_rfl) (fun x w => rfl)
    · split at h
      · rename_i e; have e := Nat.eq_of_beq_eq_true e; subst e; cases h
        exact extOk_idx (e := Extern.BytealgIndexByte.indexByte) Tryd.func132 (by kernel_rfl) (by kernel_rfl) (by kernel_rfl) (by kernel_rfl) rfl
      · cases h
  lib := fun f p h => by cases h
  eqs := fun t f h => by cases h
  mixed := by kernel_rfl

def plainS : List TypeId := [22, 23, 24, 25, 26, 27]
theorem plainS_ok : plainS.all (plainStruct Tryd.prog) = true := by kernel_rfl

noncomputable def env0 : Env := { envB with eqs := eqLine envB plainS }
theorem env0_ok : EnvOk Tryd.prog env0 := eqs_ok envB_ok plainS_ok

end Go.Proofs.YtnefminojpandaaDoor
