/- The closed calls of the seat: the names of the kinds of events, cut into words; the example of awake. -/
import Derived.Test.YtnefminojpandaaDoorSbAtoi25
set_option linter.unusedVariables false
set_option linter.unusedSimpArgs false
namespace Go.Proofs.YtnefminojpandaaDoor
open Go.Sb
set_option maxRecDepth 100000

def namesB : List UInt8 := [115, 116, 97, 114, 116, 32, 119, 97, 105, 116, 32, 103, 111, 32, 101, 109, 105, 116, 32, 111, 112, 101, 110, 32, 108, 101, 97, 118, 101, 32, 115, 104, 105, 101, 108, 100, 32, 117, 110, 118, 101, 105, 108, 32, 115, 116, 114, 105, 107, 101, 32, 99, 97, 110, 99, 101, 108, 32, 108, 97, 116, 101, 32, 97, 99, 113, 117, 105, 114, 101, 32, 114, 101, 108, 101, 97, 115, 101, 32, 108, 101, 97, 107, 32, 109, 97, 107, 101, 32, 99, 108, 111, 115, 101, 32, 108, 111, 99, 107, 32, 102, 114, 101, 101, 32, 111, 114, 100, 101, 114, 32, 116, 105, 109, 101, 32, 101, 110, 100, 32, 108, 101, 102, 116]
def wordsV : List V := [.str [115, 116, 97, 114, 116], .str [119, 97, 105, 116], .str [103, 111], .str [101, 109, 105, 116], .str [111, 112, 101, 110], .str [108, 101, 97, 118, 101], .str [115, 104, 105, 101, 108, 100], .str [117, 110, 118, 101, 105, 108], .str [115, 116, 114, 105, 107, 101], .str [99, 97, 110, 99, 101, 108], .str [108, 97, 116, 101], .str [97, 99, 113, 117, 105, 114, 101], .str [114, 101, 108, 101, 97, 115, 101], .str [108, 101, 97, 107], .str [109, 97, 107, 101], .str [99, 108, 111, 115, 101], .str [108, 111, 99, 107], .str [102, 114, 101, 101], .str [111, 114, 100, 101, 114], .str [116, 105, 109, 101], .str [101, 110, 100], .str [108, 101, 102, 116]]

theorem fields_run : callN env0 150 .own 67 [.str namesB] [] = some (.val (.lst 1 wordsV) []) := by kernel_rfl

def tellFields (vs : List V) : Option V := if vs = [.str namesB] then some (.lst 1 wordsV) else none

noncomputable def env1 : Env := env0.told 67 tellFields
theorem env1_ok : EnvOk Tryd.prog env1 := by
  refine env0_ok.told (fun vs v h => ?_) ⟨Tryd.f67, Tryd.func67, by kernel_rfl, by kernel_rfl⟩
  unfold tellFields at h
  split at h
  · rename_i e; subst e; cases h; exact ⟨by kernel_rfl, 150, fields_run⟩
  · cases h

theorem awake_run : callN env1 40 .own 14 [] [] = some (.val (.bool true) []) := by kernel_rfl

def tellAwake (vs : List V) : Option V := match vs with | [] => some (.bool true) | _ => none

noncomputable def env2 : Env := ((env1.told 14 tellAwake).told 41 tellItoa).told 104 tellAtoi
theorem env2_ok : EnvOk Tryd.prog env2 := by
  refine EnvOk.addLib (EnvOk.addLib (env1_ok.told (fun vs v h => ?_) ?_) (itoa_lib rfl) ⟨Tryd.f41, Tryd.func41, by kernel_rfl, by kernel_rfl⟩) (atoi_lib rfl) ⟨Tryd.f104, Tryd.func104, by kernel_rfl, by kernel_rfl⟩
  rotate_left
  · exact ⟨Tryd.f14, Tryd.func14, by kernel_rfl, by kernel_rfl⟩
  unfold tellAwake at h
  split at h
  · cases h; exact ⟨rfl, 40, awake_run⟩
  · cases h

end Go.Proofs.YtnefminojpandaaDoor
