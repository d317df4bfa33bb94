/- bytealg.IndexByteString, which has no Go body. -/
import Derived.Test.YtkjhnpmgieplgaaGreatDoorSbSeat
import Derived.Laws.Externs
set_option linter.unusedVariables false
set_option linter.unusedSimpArgs false
namespace Go.Sb
set_option maxRecDepth 100000
/-- The place of the first such byte; -1: there is none. -/
def idxB (s : List UInt8) (c : UInt8) : Int := if c ∈ s then (s.idxOf c : Int) else -1

theorem getB (s : List UInt8) (i : Nat) : (⟨⟨s⟩⟩ : ByteArray)[i]! = s[i]! := by
  have hsz : (⟨⟨s⟩⟩ : ByteArray).size = s.length := by simp [ByteArray.size]
  by_cases h : i < s.length
  · rw [getElem!_pos _ i (by rw [hsz]; exact h), getElem!_pos s i h]; rfl
  · rw [getElem!_neg _ i (by rw [hsz]; exact h), getElem!_neg s i h]

theorem find_idx (s : List UInt8) (c : UInt8) : firstIdx ⟨⟨s⟩⟩ c = idxB s c := by
  unfold firstIdx
  have hsz : (⟨⟨s⟩⟩ : ByteArray).size = s.length := by simp [ByteArray.size]
  simp only [getB, hsz]
  unfold idxB
  split
  · rename_i i h
    rw [List.find?_range_eq_some] at h
    obtain ⟨h1, h2, h3⟩ := h
    have hi : i < s.length := by simpa using h2
    have hc : s[i] = c := by simpa [hi] using h1
    have hm : c ∈ s := by rw [← hc]; exact List.getElem_mem hi
    rw [if_pos hm]
    have hlt : s.idxOf c < s.length := List.idxOf_lt_length_of_mem hm
    have h4 : s[s.idxOf c] = c := List.getElem_idxOf hlt
    have h5 : ¬ s.idxOf c < i := fun hl => by
      have := h3 _ hl
      simp [hlt, h4] at this
    have h6 : ¬ i < s.idxOf c := fun hl => by
      have := List.not_of_lt_findIdx (p := (· == c)) (show i < s.findIdx (· == c) from hl)
      simp [hc] at this
    omega
  · rename_i h
    rw [List.find?_range_eq_none] at h
    rw [if_neg]
    intro hm
    have hlt : s.idxOf c < s.length := List.idxOf_lt_length_of_mem hm
    have := h _ hlt
    simp [hlt, List.getElem_idxOf hlt] at this

def idxV (vs : List V) : Option V := match vs with
  | [.str s, .int .u8 c] => some (.int .i64 (idxB s c.toNat.toUInt8))
  | _ => none

theorem extOk_idx {P : Program} {f : FuncId} {fn : Func} {e : Array Value → Sem Value} (hf : P.funcs[f]? = some fn) (hname : (fn.name == "runtime.NumGoroutine") = false) (hb : fn.body.isNone = true) (hn : Extern.findNext fn = none)
    (he : Extern.find fn = some e) (hs : e = Extern.BytealgIndexByte.indexByte) : ExtOk P f idxV := by
  intro c vs xs v hv h
  unfold idxV at h
  split at h
  · rename_i s b
    cases h
    obtain ⟨x, xs', rfl, h1, h2⟩ := hv.cons_left
    obtain ⟨y, ys', rfl, h3, h4⟩ := h2.cons_left
    have := h4.nil_left; subst this
    have hx := h1.str_inv; subst hx
    have hy := h3.int_inv; subst hy
    refine ⟨.int .i64 (idxB s b.toNat.toUInt8), ?_, .g (.int _ _)⟩
    rw [run_callFunc_extern hf hname hb hn he, hs, run_indexByte_string, find_idx]; rfl
  · cases h
end Go.Sb
