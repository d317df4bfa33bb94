/- What a numeral's bytes come to, from the left. -/
import Derived.Test.YtkjhnpmgieplgaaGreatDoorSbNum
set_option linter.unusedVariables false
set_option linter.unusedSimpArgs false
namespace Go.Sb
open Go.Lib

def decPre (l : List UInt8) : Nat := l.foldl (fun a c => 10 * a + (c.toNat - 48)) 0
theorem decPre_snoc (l : List UInt8) (c : UInt8) : decPre (l ++ [c]) = 10 * decPre l + (c.toNat - 48) := by
  simp [decPre, List.foldl_append]
theorem decPre_dec (u : Nat) : decPre (decDigits u) = u := by
  induction u using Nat.strongRecOn with
  | _ u ih =>
    by_cases h : u < 10
    · rw [decDigits, dif_pos h]
      simp only [decPre, List.foldl_cons, List.foldl_nil, dig_toNat h]
      omega
    · rw [decDigits, dif_neg h, decPre_snoc, ih (u / 10) (by omega), dig_toNat (Nat.mod_lt u (by decide : 10 > 0))]
      omega
theorem foldl_ge : ∀ (r : List UInt8) (a : Nat), a ≤ r.foldl (fun a c => 10 * a + (c.toNat - 48)) a
  | [], a => Nat.le_refl a
  | c :: r, a => by
    have := foldl_ge r (10 * a + (c.toNat - 48))
    simp only [List.foldl_cons]
    omega
theorem decPre_take (l : List UInt8) (i : Nat) : decPre (l.take i) ≤ decPre l := by
  conv => rhs; rw [← List.take_append_drop i l]
  unfold decPre
  rw [List.foldl_append]
  exact foldl_ge _ _

theorem take_snoc {l : List UInt8} {i : Nat} {c : UInt8} (h : l[i]? = some c) : l.take (i + 1) = l.take i ++ [c] := by
  rw [List.take_add_one, h]; rfl

end Go.Sb
