/- What a numeral's bytes come to, from the left. -/
import Derived.Test.YtkjhnpmgieplgaaGreatDoorSbNum
set_option linter.unusedVariables false
set_option linter.unusedSimpArgs false
namespace Go.Sb
open Go.Lib

def decPre (l : List UInt8) : Nat := l.foldl (fun a c => 10 * a + (c.toNat - 48)) 0
theorem decPre_snoc (l : List UInt8) (c : UInt8) : decPre (l ++ [c]) = 10 * decPre l + (c.toNat - 48) := by
  simp [decPre, List.foldl_append]
theorem decPre_dec (u : Nat) : decPre (decDigits u) = u := by
  induction u using Nat.strongRecOn with
  | _ u ih =>
    by_cases h : u < 10
    · rw [decDigits, dif_pos h]
      simp only [decPre, List.foldl_cons, List.foldl_nil, dig_toNat h]
      omega
    · rw [decDigits, dif_neg h, decPre_snoc, ih (u / 10) (by omega), dig_toNat (Nat.mod_lt u (by decide : 10 > 0))]
      omega
theorem foldl_ge : ∀ (r : List UInt8) (a : Nat), a ≤ r.foldl (fun a c => 10 * a + (c.toNat - 48)) a
  | [], a => Nat.le_refl a
  | c :: r, a => by
    have := foldl_ge r (10 * a + (c.toNat - 48))
    simp only [List.foldl_cons]
    omega
theorem decPre_take (l : List UInt8) (i : Nat) : decPre (l.take i) ≤ decPre l := by
  conv => rhs; rw [← List.take_append_drop i l]
  unfold decPre
  rw [List.foldl_append]
  exact foldl_ge _ _

/-- The value of a numeral, or of its first bytes. -/
def sv : List UInt8 → Int
  | [] => 0
  | c :: r => if c = 45 then -(decPre r : Int) else (decPre (c :: r) : Int)

theorem take_snoc {l : List UInt8} {i : Nat} {c : UInt8} (h : l[i]? = some c) : l.take (i + 1) = l.take i ++ [c] := by
  rw [List.take_add_one, h]; rfl

theorem sv_itoa (m : Int) : sv (itoa m) = m := by
  unfold itoa
  split
  · simp only [sv, if_true, decPre_dec]; omega
  · rename_i hm
    have hb := dec_bytes m.toNat
    cases hd : decDigits m.toNat with
    | nil => exact absurd hd (dec_ne _)
    | cons c r =>
      have hc := hb c (by rw [hd]; exact List.mem_cons_self ..)
      have hne : c ≠ 45 := by rintro rfl; simp at hc
      simp only [sv, hne, if_false]
      rw [← hd, decPre_dec]; omega

/-- A step along a numeral. -/
theorem sv_step {m : Int} {s : List UInt8} (hs : s = itoa m) {i : Nat} {c : UInt8} (hc : s[i]? = some c) (hn : ¬ (i = 0 ∧ c = 45)) :
    (48 ≤ c.toNat ∧ c.toNat ≤ 57) ∧ (s.head? = some 45 → sv (s.take (i + 1)) = 10 * sv (s.take i) - (c.toNat - 48 : Nat) ∧ m ≤ sv (s.take (i + 1)) ∧ sv (s.take i) ≤ 0) ∧
    (s.head? ≠ some 45 → sv (s.take (i + 1)) = 10 * sv (s.take i) + (c.toNat - 48 : Nat) ∧ sv (s.take (i + 1)) ≤ m ∧ 0 ≤ sv (s.take i)) := by
  have hlt : i < s.length := (List.getElem?_eq_some_iff.1 hc).1
  unfold itoa at hs
  split at hs
  · rename_i hm
    have hb := dec_bytes m.natAbs
    have hv := decPre_dec m.natAbs
    generalize decDigits m.natAbs = D at hs hb hv
    subst hs
    cases i with
    | zero => simp at hc; exact absurd ⟨rfl, hc.symm⟩ hn
    | succ i =>
      simp only [List.getElem?_cons_succ] at hc
      have hcm := hb c (List.mem_of_getElem? hc)
      refine ⟨hcm, fun _ => ?_, fun h => absurd rfl h⟩
      have h1 := decPre_take D (i + 1)
      have h2 : decPre (D.take (i + 1)) = 10 * decPre (D.take i) + (c.toNat - 48) := by rw [take_snoc hc, decPre_snoc]
      simp only [List.take_succ_cons, sv, if_true]
      omega
  · rename_i hm
    have hb := dec_bytes m.toNat
    have hv := decPre_dec m.toNat
    generalize decDigits m.toNat = D at hs hb hv
    subst hs
    have hcm := hb c (List.mem_of_getElem? hc)
    have hh : s.head? ≠ some 45 := fun h => by
      have := hb 45 (List.mem_of_mem_head? h)
      simp at this
    refine ⟨hcm, fun h => absurd h hh, fun _ => ?_⟩
    have key : ∀ k, sv (s.take k) = (decPre (s.take k) : Int) := fun k => by
      cases hd : s.take k with
      | nil => rfl
      | cons x r =>
        have hx : x ∈ s := List.mem_of_mem_take (by rw [hd]; exact List.mem_cons_self ..)
        have := hb x hx
        have hne : x ≠ 45 := by rintro rfl; simp at this
        simp only [sv, hne, if_false]
    rw [key, key]
    have h1 := decPre_take s (i + 1)
    have h2 : decPre (s.take (i + 1)) = 10 * decPre (s.take i) + (c.toNat - 48) := by rw [take_snoc hc, decPre_snoc]
    omega
end Go.Sb
