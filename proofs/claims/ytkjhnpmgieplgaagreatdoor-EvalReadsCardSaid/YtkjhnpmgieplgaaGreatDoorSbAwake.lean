/- The closed calls of the seat: the words; the law's own sample answers true. -/
import Derived.Test.YtkjhnpmgieplgaaGreatDoorSbTold
import Derived.Test.YtkjhnpmgieplgaaGreatDoorSbLexP
set_option linter.unusedVariables false
set_option linter.unusedSimpArgs false
namespace Go.Proofs.YtkjhnpmgieplgaaGreatDoor
open Go.Sb
set_option maxRecDepth 100000

theorem words_run : callN envC 20 .own 182 [] [] = some (.val (.lst 1 (Lex.words.map V.str)) []) := by kernel_rfl
def tellWords (vs : List V) : Option V := match vs with | [] => some (.lst 1 (Lex.words.map V.str)) | _ => none
noncomputable def envD : Env := envC.told 182 tellWords
theorem envD_ok : EnvOk Tryz.prog envD := by
  refine envC_ok.told (fun vs v h => ?_) (lt_f Tryz.func182 (by kernel_rfl) (by kernel_rfl))
  unfold tellWords at h
  split at h
  · cases h; exact ⟨rfl, 20, words_run⟩
  · cases h

theorem awake_run : callN envD 60 .own 17 [] [] = some (.val (.bool true) []) := by kernel_rfl
def tellAwake (vs : List V) : Option V := match vs with | [] => some (.bool true) | _ => none
noncomputable def envQ : Env := envD.told 17 tellAwake
theorem envQ_ok : EnvOk Tryz.prog envQ := by
  refine envD_ok.told (fun vs v h => ?_) (lt_f Tryz.func17 (by kernel_rfl) (by kernel_rfl))
  unfold tellAwake at h
  split at h
  · cases h; exact ⟨rfl, 60, awake_run⟩
  · cases h
end Go.Proofs.YtkjhnpmgieplgaaGreatDoor
