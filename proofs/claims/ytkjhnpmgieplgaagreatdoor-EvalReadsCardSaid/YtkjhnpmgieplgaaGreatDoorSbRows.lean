/- What the rows give to the evaluator: the library's tables; arguments. -/
import Derived.Test.YtkjhnpmgieplgaaGreatDoorSbAwake
import Derived.Test.YtkjhnpmgieplgaaGreatDoorSbShaped
import Derived.Lay
import Derived.Test.YtkjhnpmgieplgaaGreatDoorCards
import Derived.Test.YtkjhnpmgieplgaaGreatDoorTie
set_option linter.unusedVariables false
set_option linter.unusedSimpArgs false
namespace Go.Proofs.YtkjhnpmgieplgaaGreatDoor
open Go.Sb Go.ChangeShapes Go.WideShapes Go.ChangeAt Go.WideMaps Go.WideElems Go.RowKit
set_option maxRecDepth 100000

theorem own : ownKnob Tryz.prog.godebug = none := by kernel_rfl
theorem laidOut : laidOutB Tryz.prog = true := by kernel_rfl
theorem space_laid {H : Type} : (Rows.laid_strings_asciiSpace : DataW H) = .agg (Lib.asciiSpaceTab.map fun n => .lit (.int .u8 n)) := by rfl
theorem pow_laid {H : Type} : (Rows.laid_internal_strconv_uint64pow10 : DataW H) = .agg (Lib.pow10Tab.map fun n => .lit (.int .u64 n)) := by rfl
theorem err_laid {H : Type} : (Rows.laid_strconv_ErrSyntax : DataW H) = .iface "*errors.errorString" (.ptr (.agg [.lit (.string [105, 110, 118, 97, 108, 105, 100, 32, 115, 121, 110, 116, 97, 120])])) := rfl
theorem range_laid {H : Type} : (Rows.laid_strconv_ErrRange : DataW H) = .iface "*errors.errorString" (.ptr (.agg [.lit (.string [118, 97, 108, 117, 101, 32, 111, 117, 116, 32, 111, 102, 32, 114, 97, 110, 103, 101])])) := rfl

theorem laid_err {W : World} {n : String} {g : Nat} {d : DataW Unit} {l : List (String × DataW Unit)} {ps : List MemPlace} (h : DataW.LaidVars Tryz.prog W l ps)
    (hm : (n, .iface "*errors.errorString" (.ptr d)) ∈ l) (hg : Tryz.prog.globalNamed n = some g) (ht : (Tryz.prog.globals[g]?).map (·.type) = some 82) : GlOk (fun r => r < W.heap.size) W g errV := by
  obtain ⟨g', t', cs, fuel, p, k1, k2, k3, k4⟩ := laid_mem h hm
  rw [hg] at k1; cases k1
  rw [ht] at k2; cases k2
  obtain ⟨C, T, fz, hb, hC⟩ : ∃ C T fz, W.heap[g]? = some (.cells C T fz) ∧ C = cs := by
    have k3' := k3
    simp only [World.var?, hg, Option.bind_some] at k3'
    split at k3'
    · rename_i C T fz hb; exact ⟨C, T, fz, hb, by simpa using k3'⟩
    · cases k3'
  subst hC
  have hone : ∃ u v, C.toList = [.iface u v] := by
    cases fuel with
    | zero => simp [DataW.trod] at k4
    | succ fuel =>
      rw [DataW.trod.eq_def] at k4
      simp only [Tryz.underlying82] at k4
      split at k4
      all_goals first
        | (exfalso; rename_i h1 h2; cases h1; done)
        | (exfalso; rename_i h2; cases h2; done)
        | (exfalso; cases k4; done)
        | skip
      rename_i hC
      split at k4
      · rename_i e; cases e
      · rename_i nm e1 e2
        exact ⟨_, _, hC⟩
      · cases k4
  obtain ⟨u, v, hC⟩ := hone
  have hsz : C.size = 1 := by rw [← Array.length_toList, hC]; rfl
  have h0 : C[0]? = some (.iface u v) := by rw [← Array.getElem?_toList, hC]; rfl
  have hcell : W.cell? ⟨g, 0, none⟩ = some (.iface u v) := by rw [World.var?_cell hg k3 0]; exact h0
  refine ⟨.rop _ _ (fun _ => .iface u v) (fun j hj => ?_) (fun j w hw => ?_) (fun hne => (Array.getElem?_eq_some_iff.1 hb).1), (Array.getElem?_eq_some_iff.1 hb).1, C, T, fz, hb, hsz⟩
  · have : j = 0 := by simp [errV] at hj; omega
    subst this
    exact hcell
  · match j with
    | 0 =>
      cases hw
      exact .ifo _ _ _
    | j + 1 => simp [errV] at hw


theorem gl_of {W : World} {laid : List (String × DataW Unit)} {ps : List MemPlace} (hsh : W.ShapedOpen Tryz.prog) (h : DataW.LaidVars Tryz.prog W laid ps)
    (hm : ("strings.asciiSpace", Rows.laid_strings_asciiSpace) ∈ laid) (hm2 : ("internal/strconv.uint64pow10", Rows.laid_internal_strconv_uint64pow10) ∈ laid) (hm3 : ("strconv.ErrSyntax", Rows.laid_strconv_ErrSyntax) ∈ laid) (hm4 : ("strconv.ErrRange", Rows.laid_strconv_ErrRange) ∈ laid) :
    ∀ g cs, envQ.gl g = some cs → GlOk (fun r => r < W.heap.size) W g cs := by
  intro g cs hg
  have hg' : (bif Nat.beq g 8 then some spaceV else bif Nat.beq g 3 then some pow10V else bif Nat.beq g 0 then some errV else bif Nat.beq g 1 then some errV else bif Nat.beq g 2 then some [.ub .i64] else none) = some cs := hg
  simp only [cond_eq_ite] at hg'
  split at hg'
  · rename_i e; have e := Nat.eq_of_beq_eq_true e; subst e; cases hg'
    rw [space_laid] at hm
    exact laid_rop (ns := Lib.asciiSpaceTab) h hm (g := 8) (by kernel_rfl) (t := 197) (by kernel_rfl) Tryz.underlying197 Tryz.underlying5 (by kernel_rfl) (by kernel_rfl)
  split at hg'
  · rename_i e; have e := Nat.eq_of_beq_eq_true e; subst e; cases hg'
    rw [pow_laid] at hm2
    exact laid_rop (ns := Lib.pow10Tab) h hm2 (g := 3) (by kernel_rfl) (t := 186) (by kernel_rfl) Tryz.underlying186 Tryz.underlying163 (by kernel_rfl) (by kernel_rfl)
  split at hg'
  · rename_i e; have e := Nat.eq_of_beq_eq_true e; subst e; cases hg'
    rw [err_laid] at hm3
    exact laid_err h hm3 (by kernel_rfl) (by kernel_rfl)
  split at hg'
  · rename_i e; have e := Nat.eq_of_beq_eq_true e; subst e; cases hg'
    rw [range_laid] at hm4
    exact laid_err h hm4 (by kernel_rfl) (by kernel_rfl)
  split at hg'
  · rename_i e; have e := Nat.eq_of_beq_eq_true e; subst e; cases hg'
    exact ub_gl (zero := #[.int .i64 0]) (t := 3) hsh (of_decide_eq_true (by kernel_rfl)) (by kernel_rfl) rfl (by kernel_rfl) (by kernel_rfl) Tryz.underlying3
  · cases hg'

/-! Arguments -/
end Go.Proofs.YtkjhnpmgieplgaaGreatDoor
