/- A region whose order is drawn, an operation at a time. -/
import Derived.Test.YtnefminojpandaaDoorSbRunP
set_option linter.unusedVariables false
set_option linter.unusedSimpArgs false
namespace Go.Sb
/-- An operation that only reads. -/
theorem drawR {c d : Prop} [Decidable c] [Decidable d] {A B C : Prop} (h1 : ¬ c) (h2 : d) (h : B) : if c then A else if d then B else C := by
  rw [if_neg h1, if_pos h2]; exact h
/-- One that does not look at memory. -/
theorem drawZ {c d : Prop} [Decidable c] [Decidable d] {A B C : Prop} (h1 : ¬ c) (h2 : ¬ d) (h : C) : if c then A else if d then B else C := by
  rw [if_neg h1, if_neg h2]; exact h
/-- One that writes, behind all that has read. -/
theorem drawW {E : Env} {md : FuncId → Mode} {c : Prop} [Decidable c] {A : List Nat} {h : Heap} {acc : List (Nat × Op × List V × V)} {K B : Prop} (h1 : c) (h2 : acc.all (fun p => A.contains p.1) = true) (hk : K) : if c then accK E md A h acc K else B := by
  rw [if_pos h1]
  clear h1
  induction acc with
  | nil => exact hk
  | cons p ps ih =>
    simp only [List.all_cons, Bool.and_eq_true] at h2
    unfold accK
    rw [if_pos h2.1]
    exact ih h2.2
end Go.Sb
