/- The closed calls of the seat: the words; the law's own sample answers true. -/
import Derived.Test.YtmpgphjbeoboaaaDoorSbTold
import Derived.Test.YtmpgphjbeoboaaaDoorSbLexP
set_option linter.unusedVariables false
set_option linter.unusedSimpArgs false
namespace Go.Proofs.YtmpgphjbeoboaaaDoor
open Go.Sb
set_option maxRecDepth 100000

theorem words_run : callN envC 20 .own 42 [] [] = some (.val (.lst 1 (Lex.words.map V.str)) []) := by kernel_rfl
def tellWords (vs : List V) : Option V := match vs with | [] => some (.lst 1 (Lex.words.map V.str)) | _ => none
noncomputable def envD : Env := envC.told 42 tellWords
theorem envD_ok : EnvOk Tryd.prog envD := by
  refine envC_ok.told (fun vs v h => ?_) (lt_f Tryd.func42 (by kernel_rfl) (by kernel_rfl))
  unfold tellWords at h
  split at h
  · cases h; exact ⟨rfl, 20, words_run⟩
  · cases h

theorem awake_run : callN envD 60 .own 18 [] [] = some (.val (.bool true) []) := by kernel_rfl
def tellAwake (vs : List V) : Option V := match vs with | [] => some (.bool true) | _ => none
noncomputable def envQ : Env := envD.told 18 tellAwake
theorem envQ_ok : EnvOk Tryd.prog envQ := by
  refine envD_ok.told (fun vs v h => ?_) (lt_f Tryd.func18 (by kernel_rfl) (by kernel_rfl))
  unfold tellAwake at h
  split at h
  · cases h; exact ⟨rfl, 60, awake_run⟩
  · cases h
theorem awake_told (h : Heap) : Has envQ .own 18 [] h (.val (.bool true) h) := Has.told (E := envQ) (a := []) (p := tellAwake) rfl rfl rfl rfl
end Go.Proofs.YtmpgphjbeoboaaaDoor
