/- Codes: what the reference asks of a code is what the program asks. -/
import Derived.Test.YtekmafoicobphaaGreatDoorSb10Chk7
import Derived.Test.YtekmafoicobphaaGreatDoorSbRv2
set_option linter.unusedVariables false
set_option linter.unusedSimpArgs false
namespace Go.Proofs.YtekmafoicobphaaGreatDoor
open Go.Sb
set_option maxRecDepth 100000
theorem none0 {l : Option (List Int)} {P : Int → Prop} (h : lenO l = 0) : ∀ n ∈ l.getD [], P n := by
 intro n hn
 unfold lenO at h
 rw [List.length_eq_zero_iff.1 h] at hn
 cases hn
theorem yeq {S len n : Int} : yaz S len n 0 ↔ n = 0 := by unfold yaz; simp
theorem fieldP1 {S len n : Int} : yaz S len n 1 ↔ slP S n 1 := by unfold yaz slP; simp
theorem fieldP2 {S len n : Int} : yaz S len n 2 ↔ (n = -1 ∨ slP S n 1) ∧ -1 ≤ S - 1 ∨ (n = -1 ∧ -1 ≤ S - 1) := by unfold yaz slP; simp; omega
theorem yin {S len n : Int} : yaz S len n 3 ↔ plP len n := by unfold yaz plP; simp; omega
theorem yio {S len n : Int} : yaz S len n 4 ↔ True := by unfold yaz; simp
theorem yrk (c : Cod) (f : Fnc) (x : Ins) : insB c f x = true ↔ (1 ≤ x.op ∧ x.op ≤ 14) ∧ yaz f.s (lenO f.cd) x.a (fA x.op) ∧ yaz f.s (lenO f.cd) x.b (fB x.op) ∧ yaz f.s (lenO f.cd) x.c (fC x.op) ∧ (fLo x.op ≤ (lenO x.l : Int) ∧ (lenO x.l : Int) ≤ fHi x.op) ∧ (fVa x.op = true ∨ (x.k = 0 ∧ x.n = 0 ∧ x.s = [])) ∧ yau x.k x.n x.s ∧ (∀ n ∈ x.l.getD [], yaz f.s (lenO f.cd) n (if fPl x.op = true then 3 else 1)) ∧ spB c f x = true := by
 unfold insB flB
 simp only [Bool.and_eq_true, Bool.or_eq_true, decide_eq_true_eq, Bool.not_eq_true', Bool.not_not, decide_eq_false_iff_not, Decidable.not_not, beq_iff_eq]
 constructor
 ·rintro ⟨⟨⟨⟨⟨⟨⟨⟨h1, h2⟩, h3⟩, h4⟩, h5⟩, h6⟩, h7⟩, h8⟩, h9⟩
  exact ⟨h1, h2, h3, h4, h5, h6.imp_right (fun q => ⟨q.1.1, q.1.2, q.2⟩), h7, h8, h9⟩
 ·rintro ⟨h1, h2, h3, h4, h5, h6, h7, h8, h9⟩
  exact ⟨⟨⟨⟨⟨⟨⟨⟨h1, h2⟩, h3⟩, h4⟩, h5⟩, h6.imp_right (fun q => ⟨⟨q.1, q.2.1⟩, q.2.2⟩)⟩, h7⟩, h8⟩, h9⟩
theorem valid0 : yau 0 0 [] := .inl ⟨rfl, rfl, rfl⟩
theorem ydv {k n : Int} {s : List UInt8} (h : k = 0 ∧ n = 0 ∧ s = []) : yau k n s := by
 obtain ⟨rfl, rfl, rfl⟩ := h; exact valid0
theorem yrl {c : Cod} {fn : Int} {n : Nat} (hp : ∀ g ∈ c.getD [], 0 ≤ g.p ∧ g.p ≤ 5) (h : yfb c fn n) : (n : Int) ≤ 5 := by
 obtain ⟨_, g, hg, hq⟩ := h
 have := hp g (List.mem_of_getElem? hg)
 omega
theorem yrm {c : Cod} {f : Fnc} {L : List Ins} {k : Nat} {x : Ins} (hS : 0 ≤ f.s ∧ f.s ≤ 200) (hp : ∀ g ∈ c.getD [], 0 ≤ g.p ∧ g.p ≤ 5) :
  (((lenO x.l : Int) ≤ 5 ∧ slsP f.s x.l ∧ askB c f x = true) ∧ ¬ (x.b = 15 ∧ 4 < armsN L k)) ↔ rAskP c f L k x := by
 unfold askB rAskP
 by_cases h5 : x.b = 5
 ·rw [if_pos h5, if_pos h5, decide_eq_true_eq]
  exact ⟨fun h => ⟨h.1.2.2, h.1.2.1⟩, fun h => ⟨⟨yrl hp h.1, h.2, h.1⟩, by omega⟩⟩
 rw [if_neg h5, if_neg h5]
 simp only [Bool.and_eq_true, Bool.not_eq_true', decide_eq_true_eq, decide_eq_false_iff_not]
 by_cases hb : 1 ≤ x.b ∧ x.b ≤ 21
 case neg =>
  rw [if_neg (by omega), if_neg (by omega), if_neg (by omega), if_neg (by omega), if_neg (by omega), if_neg (by omega)]
  exact ⟨fun h => absurd h.1.2.2.1.1.2 (by omega), fun h => absurd h.1 hb⟩
 have hone : lenO x.l = 1 → ∃ z, x.l.getD [] = [z] := fun h => by
  unfold lenO at h
  match hq : x.l.getD [], h with
  | [z], _ => exact ⟨z, rfl⟩
 by_cases h17 : x.b = 17
 ·rw [if_neg (by omega), if_neg (by omega), if_neg (by omega), if_pos h17]
  rw [h17, show kLo 17 = 0 from rfl, show kHi 17 = 1 from rfl, show kC 17 = 0 from rfl]
  constructor
  ·rintro ⟨⟨_, hs, ⟨⟨h1, _⟩, h2⟩, h3⟩, _⟩
   refine ⟨by omega, ?_⟩
   rcases Nat.lt_or_ge (lenO x.l) 1 with q | q
   ·exact .inl (by omega)
   ·have e1 : lenO x.l = 1 := by omega
    refine .inr ⟨e1, ?_⟩
    have hf : yaz f.s (lenO f.cd) (IntKind.i64.wrap ((x.l.getD []).headD 0 + 1)) 1 := Decidable.not_not.1 fun q => h1 ⟨rfl, e1, q⟩
    obtain ⟨z, hz⟩ := hone e1
    have := hs z (by rw [hz]; simp)
    rw [hz] at hf ⊢
    unfold slP at *
    simp only [List.headD_cons] at *
    rw [wrapS (by omega) (by omega)] at hf
    have := fieldP1.1 hf
    unfold slP at this
    omega
  ·rintro ⟨hc, h | ⟨h1, h2⟩⟩
   ·exact ⟨⟨by omega, none0 h, ⟨⟨fun q => by omega, by omega⟩, by omega⟩, by omega⟩, by omega⟩
   ·obtain ⟨z, hz⟩ := hone h1
    rw [hz] at h2
    simp only [List.headD_cons] at h2
    unfold slP at h2
    refine ⟨⟨by omega, ?_, ⟨⟨?_, by omega⟩, by omega⟩, by omega⟩, by omega⟩
    ·intro n hn
     rw [hz] at hn
     simp at hn; subst hn
     unfold slP; omega
    ·rintro ⟨_, _, q⟩
     refine q (fieldP1.2 ?_)
     rw [hz]
     simp only [List.headD_cons]
     rw [wrapS (by omega) (by omega)]
     unfold slP; omega
 by_cases h : x.b = 1
 ·rw [if_neg (by omega), if_neg (by omega), if_neg (by omega), if_neg (by omega), if_pos (by omega)]
  rw [h, show kLo 1 = 0 from rfl, show kHi 1 = 0 from rfl, show kC 1 = 0 from rfl]
  constructor
  ·rintro ⟨⟨_, hs, ⟨⟨_, _⟩, h2⟩, h3⟩, h4⟩
   exact ⟨by omega, by omega⟩
  ·rintro ⟨h1, h2⟩
   exact ⟨⟨by omega, none0 (by omega), ⟨⟨fun q => by omega, by omega⟩, by omega⟩, by omega⟩, by omega⟩
 have h1 : x.b ≠ 1 := h
 by_cases h : x.b = 2
 ·rw [if_neg (by omega), if_neg (by omega), if_neg (by omega), if_neg (by omega), if_neg (by omega), if_neg (by omega)]
  rw [h, show kLo 2 = 1 from rfl, show kHi 2 = 1 from rfl, show kC 2 = 0 from rfl]
  constructor
  ·rintro ⟨⟨_, hs, ⟨⟨_, _⟩, h2⟩, h3⟩, h4⟩
   exact ⟨by omega, by omega, by omega, hs⟩
  ·rintro ⟨h0, h1, h2, hs⟩
   exact ⟨⟨by omega, hs, ⟨⟨fun q => by omega, by omega⟩, by omega⟩, by omega⟩, by omega⟩
 have h2 : x.b ≠ 2 := h
 by_cases h : x.b = 3
 ·rw [if_neg (by omega), if_neg (by omega), if_neg (by omega), if_neg (by omega), if_neg (by omega), if_neg (by omega)]
  rw [h, show kLo 3 = 1 from rfl, show kHi 3 = 1 from rfl, show kC 3 = 0 from rfl]
  constructor
  ·rintro ⟨⟨_, hs, ⟨⟨_, _⟩, h2⟩, h3⟩, h4⟩
   exact ⟨by omega, by omega, by omega, hs⟩
  ·rintro ⟨h0, h1, h2, hs⟩
   exact ⟨⟨by omega, hs, ⟨⟨fun q => by omega, by omega⟩, by omega⟩, by omega⟩, by omega⟩
 have h3 : x.b ≠ 3 := h
 by_cases h : x.b = 4
 ·rw [if_neg (by omega), if_neg (by omega), if_neg (by omega), if_neg (by omega), if_pos (by omega)]
  rw [h, show kLo 4 = 0 from rfl, show kHi 4 = 0 from rfl, show kC 4 = 0 from rfl]
  constructor
  ·rintro ⟨⟨_, hs, ⟨⟨_, _⟩, h2⟩, h3⟩, h4⟩
   exact ⟨by omega, by omega⟩
  ·rintro ⟨h1, h2⟩
   exact ⟨⟨by omega, none0 (by omega), ⟨⟨fun q => by omega, by omega⟩, by omega⟩, by omega⟩, by omega⟩
 have h4 : x.b ≠ 4 := h
 by_cases h : x.b = 6
 ·rw [if_neg (by omega), if_neg (by omega), if_neg (by omega), if_neg (by omega), if_neg (by omega), if_neg (by omega)]
  rw [h, show kLo 6 = 1 from rfl, show kHi 6 = 1 from rfl, show kC 6 = 0 from rfl]
  constructor
  ·rintro ⟨⟨_, hs, ⟨⟨_, _⟩, h2⟩, h3⟩, h4⟩
   exact ⟨by omega, by omega, by omega, hs⟩
  ·rintro ⟨h0, h1, h2, hs⟩
   exact ⟨⟨by omega, hs, ⟨⟨fun q => by omega, by omega⟩, by omega⟩, by omega⟩, by omega⟩
 have h6 : x.b ≠ 6 := h
 by_cases h : x.b = 7
 ·rw [if_neg (by omega), if_neg (by omega), if_neg (by omega), if_neg (by omega), if_neg (by omega), if_neg (by omega)]
  rw [h, show kLo 7 = 1 from rfl, show kHi 7 = 1 from rfl, show kC 7 = 0 from rfl]
  constructor
  ·rintro ⟨⟨_, hs, ⟨⟨_, _⟩, h2⟩, h3⟩, h4⟩
   exact ⟨by omega, by omega, by omega, hs⟩
  ·rintro ⟨h0, h1, h2, hs⟩
   exact ⟨⟨by omega, hs, ⟨⟨fun q => by omega, by omega⟩, by omega⟩, by omega⟩, by omega⟩
 have h7 : x.b ≠ 7 := h
 by_cases h : x.b = 8
 ·rw [if_pos h]
  rw [h, show kLo 8 = 1 from rfl, show kHi 8 = 1 from rfl, show kC 8 = 2 from rfl]
  constructor
  ·rintro ⟨⟨_, hs, ⟨⟨_, _⟩, h2⟩, h3⟩, h4⟩
   exact ⟨by omega, by omega, hs⟩
  ·rintro ⟨h1, h2, hs⟩
   exact ⟨⟨by omega, hs, ⟨⟨fun q => by omega, by omega⟩, by omega⟩, by omega⟩, by omega⟩
 have h8 : x.b ≠ 8 := h
 by_cases h : x.b = 9
 ·rw [if_neg (by omega), if_neg (by omega), if_neg (by omega), if_neg (by omega), if_neg (by omega), if_pos h]
  rw [h, show kLo 9 = 2 from rfl, show kHi 9 = 2 from rfl, show kC 9 = 0 from rfl]
  constructor
  ·rintro ⟨⟨_, hs, ⟨⟨_, _⟩, h2⟩, h3⟩, h4⟩
   exact ⟨by omega, by omega, hs⟩
  ·rintro ⟨h1, h2, hs⟩
   exact ⟨⟨by omega, hs, ⟨⟨fun q => by omega, by omega⟩, by omega⟩, by omega⟩, by omega⟩
 have h9 : x.b ≠ 9 := h
 by_cases h : x.b = 10
 ·rw [if_neg (by omega), if_neg (by omega), if_neg (by omega), if_neg (by omega), if_neg (by omega), if_neg (by omega)]
  rw [h, show kLo 10 = 1 from rfl, show kHi 10 = 1 from rfl, show kC 10 = 0 from rfl]
  constructor
  ·rintro ⟨⟨_, hs, ⟨⟨_, _⟩, h2⟩, h3⟩, h4⟩
   exact ⟨by omega, by omega, by omega, hs⟩
  ·rintro ⟨h0, h1, h2, hs⟩
   exact ⟨⟨by omega, hs, ⟨⟨fun q => by omega, by omega⟩, by omega⟩, by omega⟩, by omega⟩
 have h10 : x.b ≠ 10 := h
 by_cases h : x.b = 11
 ·rw [if_neg (by omega), if_neg (by omega), if_neg (by omega), if_neg (by omega), if_neg (by omega), if_neg (by omega)]
  rw [h, show kLo 11 = 1 from rfl, show kHi 11 = 1 from rfl, show kC 11 = 0 from rfl]
  constructor
  ·rintro ⟨⟨_, hs, ⟨⟨_, _⟩, h2⟩, h3⟩, h4⟩
   exact ⟨by omega, by omega, by omega, hs⟩
  ·rintro ⟨h0, h1, h2, hs⟩
   exact ⟨⟨by omega, hs, ⟨⟨fun q => by omega, by omega⟩, by omega⟩, by omega⟩, by omega⟩
 have h11 : x.b ≠ 11 := h
 by_cases h : x.b = 12
 ·rw [if_neg (by omega), if_neg (by omega), if_neg (by omega), if_neg (by omega), if_neg (by omega), if_neg (by omega)]
  rw [h, show kLo 12 = 1 from rfl, show kHi 12 = 1 from rfl, show kC 12 = 0 from rfl]
  constructor
  ·rintro ⟨⟨_, hs, ⟨⟨_, _⟩, h2⟩, h3⟩, h4⟩
   exact ⟨by omega, by omega, by omega, hs⟩
  ·rintro ⟨h0, h1, h2, hs⟩
   exact ⟨⟨by omega, hs, ⟨⟨fun q => by omega, by omega⟩, by omega⟩, by omega⟩, by omega⟩
 have h12 : x.b ≠ 12 := h
 by_cases h : x.b = 13
 ·rw [if_neg (by omega), if_neg (by omega), if_neg (by omega), if_neg (by omega), if_neg (by omega), if_neg (by omega)]
  rw [h, show kLo 13 = 1 from rfl, show kHi 13 = 1 from rfl, show kC 13 = 0 from rfl]
  constructor
  ·rintro ⟨⟨_, hs, ⟨⟨_, _⟩, h2⟩, h3⟩, h4⟩
   exact ⟨by omega, by omega, by omega, hs⟩
  ·rintro ⟨h0, h1, h2, hs⟩
   exact ⟨⟨by omega, hs, ⟨⟨fun q => by omega, by omega⟩, by omega⟩, by omega⟩, by omega⟩
 have h13 : x.b ≠ 13 := h
 by_cases h : x.b = 14
 ·rw [if_neg (by omega), if_neg (by omega), if_neg (by omega), if_neg (by omega), if_neg (by omega), if_neg (by omega)]
  rw [h, show kLo 14 = 1 from rfl, show kHi 14 = 1 from rfl, show kC 14 = 0 from rfl]
  constructor
  ·rintro ⟨⟨_, hs, ⟨⟨_, _⟩, h2⟩, h3⟩, h4⟩
   exact ⟨by omega, by omega, by omega, hs⟩
  ·rintro ⟨h0, h1, h2, hs⟩
   exact ⟨⟨by omega, hs, ⟨⟨fun q => by omega, by omega⟩, by omega⟩, by omega⟩, by omega⟩
 have h14 : x.b ≠ 14 := h
 by_cases h : x.b = 15
 ·rw [if_neg (by omega), if_pos h]
  rw [h, show kLo 15 = 1 from rfl, show kHi 15 = 1 from rfl, show kC 15 = 1 from rfl]
  constructor
  ·rintro ⟨⟨_, hs, ⟨⟨_, _⟩, h2⟩, h3⟩, h4⟩
   exact ⟨by omega, by omega, hs, by omega⟩
  ·rintro ⟨h1, h2, hs, h3⟩
   exact ⟨⟨by omega, hs, ⟨⟨fun q => by omega, by omega⟩, by omega⟩, by omega⟩, by omega⟩
 have h15 : x.b ≠ 15 := h
 by_cases h : x.b = 16
 ·rw [if_neg (by omega), if_neg (by omega), if_pos h]
  rw [h, show kLo 16 = 0 from rfl, show kHi 16 = 1 from rfl, show kC 16 = 1 from rfl]
  constructor
  ·rintro ⟨⟨_, hs, ⟨⟨_, _⟩, h2⟩, h3⟩, h4⟩
   exact ⟨by omega, by omega, hs⟩
  ·rintro ⟨h1, h2, hs⟩
   exact ⟨⟨by omega, hs, ⟨⟨fun q => by omega, by omega⟩, by omega⟩, by omega⟩, by omega⟩
 have h16 : x.b ≠ 16 := h
 by_cases h : x.b = 18
 ·rw [if_neg (by omega), if_neg (by omega), if_neg (by omega), if_neg (by omega), if_pos (by omega)]
  rw [h, show kLo 18 = 0 from rfl, show kHi 18 = 0 from rfl, show kC 18 = 0 from rfl]
  constructor
  ·rintro ⟨⟨_, hs, ⟨⟨_, _⟩, h2⟩, h3⟩, h4⟩
   exact ⟨by omega, by omega⟩
  ·rintro ⟨h1, h2⟩
   exact ⟨⟨by omega, none0 (by omega), ⟨⟨fun q => by omega, by omega⟩, by omega⟩, by omega⟩, by omega⟩
 have h18 : x.b ≠ 18 := h
 by_cases h : x.b = 19
 ·rw [if_neg (by omega), if_neg (by omega), if_neg (by omega), if_neg (by omega), if_pos (by omega)]
  rw [h, show kLo 19 = 0 from rfl, show kHi 19 = 0 from rfl, show kC 19 = 0 from rfl]
  constructor
  ·rintro ⟨⟨_, hs, ⟨⟨_, _⟩, h2⟩, h3⟩, h4⟩
   exact ⟨by omega, by omega⟩
  ·rintro ⟨h1, h2⟩
   exact ⟨⟨by omega, none0 (by omega), ⟨⟨fun q => by omega, by omega⟩, by omega⟩, by omega⟩, by omega⟩
 have h19 : x.b ≠ 19 := h
 by_cases h : x.b = 20
 ·rw [if_neg (by omega), if_neg (by omega), if_neg (by omega), if_neg (by omega), if_neg (by omega), if_neg (by omega)]
  rw [h, show kLo 20 = 1 from rfl, show kHi 20 = 1 from rfl, show kC 20 = 0 from rfl]
  constructor
  ·rintro ⟨⟨_, hs, ⟨⟨_, _⟩, h2⟩, h3⟩, h4⟩
   exact ⟨by omega, by omega, by omega, hs⟩
  ·rintro ⟨h0, h1, h2, hs⟩
   exact ⟨⟨by omega, hs, ⟨⟨fun q => by omega, by omega⟩, by omega⟩, by omega⟩, by omega⟩
 have h20 : x.b ≠ 20 := h
 by_cases h : x.b = 21
 ·rw [if_neg (by omega), if_neg (by omega), if_neg (by omega), if_neg (by omega), if_neg (by omega), if_neg (by omega)]
  rw [h, show kLo 21 = 1 from rfl, show kHi 21 = 1 from rfl, show kC 21 = 0 from rfl]
  constructor
  ·rintro ⟨⟨_, hs, ⟨⟨_, _⟩, h2⟩, h3⟩, h4⟩
   exact ⟨by omega, by omega, by omega, hs⟩
  ·rintro ⟨h0, h1, h2, hs⟩
   exact ⟨⟨by omega, hs, ⟨⟨fun q => by omega, by omega⟩, by omega⟩, by omega⟩, by omega⟩
 have h21 : x.b ≠ 21 := h
 omega
theorem yrn {c : Cod} {f : Fnc} {L : List Ins} {k : Nat} {x : Ins} (hS : 0 ≤ f.s ∧ f.s ≤ 200) (hl : lenO f.cd ≤ 4000) (hp : ∀ g ∈ c.getD [], 0 ≤ g.p ∧ g.p ≤ 5) (hx : lenO x.l ≤ 2 ^ 50) :
  rowB c f L k x = true ↔ rInsP c f L k x := by
 have hrow : rowB c f L k x = true ↔ insB c f x = true ∧ ¬ (x.op = 10 ∧ x.b = 15 ∧ 4 < armsN L k) := by
  unfold rowB
  simp only [Bool.and_eq_true, Bool.not_eq_true', Bool.and_eq_false_iff, decide_eq_false_iff_not]
  constructor
  ·rintro ⟨h1, h2⟩; exact ⟨h1, fun q => by omega⟩
  ·rintro ⟨h1, h2⟩; exact ⟨h1, by omega⟩
 rw [hrow, yrk]
 have hor : ∀ n, yaz f.s (lenO f.cd) n 2 ↔ (n = -1 ∨ slP f.s n 1) := fun n => by rw [fieldP2]; unfold slP; omega
 by_cases h : x.op = 1
 ·have hsp : spB c f x = true ↔ True := by
   unfold spB
   rw [if_neg (by omega), if_neg (by omega), if_neg (by omega), if_neg (by omega), if_neg (by omega), if_neg (by omega)]
   simp
  have hR : rInsP c f L k x ↔ (x.op = 1 ∨ (x.k = 0 ∧ x.n = 0 ∧ x.s = [])) ∧ (slP f.s x.a 1 ∧ x.b = 0 ∧ x.c = 0 ∧ lenO x.l = 0 ∧ yau x.k x.n x.s) := by
   unfold rInsP
   rw [if_pos h]
  rw [hR, hsp]
  rw [h, show fA 1 = 1 from rfl, show fB 1 = 0 from rfl, show fC 1 = 0 from rfl, show fLo 1 = 0 from rfl, show fHi 1 = 0 from rfl, show fVa 1 = true from rfl, show fPl 1 = false from rfl]
  simp only [fieldP1, yeq, if_true, if_false, Bool.false_eq_true, reduceCtorEq, fieldP1]
  constructor
  ·rintro ⟨⟨_, ha, hb, hc, hlen, hz, hV, hL, hs⟩, hno⟩
   exact ⟨.inl (by simp), ha, hb, hc, by omega, hV⟩
  ·rintro ⟨_, ha, hb, hc, hn, hV⟩
   exact ⟨⟨by omega, ha, hb, hc, by omega, .inl (by simp), hV, none0 hn, trivial⟩, fun q => by omega⟩
 have n1 := h
 by_cases h : x.op = 2
 ·have hsp : spB c f x = true ↔ True := by
   unfold spB
   rw [if_neg (by omega), if_neg (by omega), if_neg (by omega), if_neg (by omega), if_neg (by omega), if_neg (by omega)]
   simp
  have hR : rInsP c f L k x ↔ (x.op = 1 ∨ (x.k = 0 ∧ x.n = 0 ∧ x.s = [])) ∧ (slP f.s x.a 1 ∧ slP f.s x.b 1 ∧ x.c = 0 ∧ lenO x.l = 0) := by
   unfold rInsP
   rw [if_neg (by omega), if_pos h]
  rw [hR, hsp]
  rw [h, show fA 2 = 1 from rfl, show fB 2 = 1 from rfl, show fC 2 = 0 from rfl, show fLo 2 = 0 from rfl, show fHi 2 = 0 from rfl, show fVa 2 = false from rfl, show fPl 2 = false from rfl]
  simp only [fieldP1, yeq, if_true, if_false, Bool.false_eq_true, reduceCtorEq, fieldP1]
  constructor
  ·rintro ⟨⟨_, ha, hb, hc, hlen, hz, hV, hL, hs⟩, hno⟩
   replace hz := hz.resolve_left (by simp)
   exact ⟨.inr hz, ha, hb, hc, by omega⟩
  ·rintro ⟨hz, ha, hb, hc, hn⟩
   replace hz := hz.resolve_left (by omega)
   exact ⟨⟨by omega, ha, hb, hc, by omega, .inr hz, ydv hz, none0 hn, trivial⟩, fun q => by omega⟩
 have n2 := h
 by_cases h : x.op = 3
 ·have hsp : spB c f x = true ↔ (5 ≤ x.b ∧ x.b ≤ 6) := by
   unfold spB
   rw [if_pos h]
   rw [decide_eq_true_eq]
  have hR : rInsP c f L k x ↔ (x.op = 1 ∨ (x.k = 0 ∧ x.n = 0 ∧ x.s = [])) ∧ (slP f.s x.a 1 ∧ (5 ≤ x.b ∧ x.b ≤ 6) ∧ slP f.s x.c 1 ∧ lenO x.l = 0) := by
   unfold rInsP
   rw [if_neg (by omega), if_neg (by omega), if_pos h]
  rw [hR, hsp]
  rw [h, show fA 3 = 1 from rfl, show fB 3 = 4 from rfl, show fC 3 = 1 from rfl, show fLo 3 = 0 from rfl, show fHi 3 = 0 from rfl, show fVa 3 = false from rfl, show fPl 3 = false from rfl]
  simp only [fieldP1, yio, if_true, if_false, Bool.false_eq_true, reduceCtorEq, fieldP1]
  constructor
  ·rintro ⟨⟨_, ha, hb, hc, hlen, hz, hV, hL, hs⟩, hno⟩
   replace hz := hz.resolve_left (by simp)
   exact ⟨.inr hz, ha, hs, hc, by omega⟩
  ·rintro ⟨hz, ha, hs, hc, hn⟩
   replace hz := hz.resolve_left (by omega)
   exact ⟨⟨by omega, ha, trivial, hc, by omega, .inr hz, ydv hz, none0 hn, hs⟩, fun q => by omega⟩
 have n3 := h
 by_cases h : x.op = 4
 ·have hsp : spB c f x = true ↔ (9 ≤ x.b ∧ x.b ≤ 19) := by
   unfold spB
   rw [if_neg (by omega), if_pos h]
   rw [decide_eq_true_eq]
  have hR : rInsP c f L k x ↔ (x.op = 1 ∨ (x.k = 0 ∧ x.n = 0 ∧ x.s = [])) ∧ (slP f.s x.a 1 ∧ (9 ≤ x.b ∧ x.b ≤ 19) ∧ slP f.s x.c 1 ∧ lenO x.l = 1 ∧ slsP f.s x.l) := by
   unfold rInsP
   rw [if_neg (by omega), if_neg (by omega), if_neg (by omega), if_pos h]
  rw [hR, hsp]
  rw [h, show fA 4 = 1 from rfl, show fB 4 = 4 from rfl, show fC 4 = 1 from rfl, show fLo 4 = 1 from rfl, show fHi 4 = 1 from rfl, show fVa 4 = false from rfl, show fPl 4 = false from rfl]
  simp only [fieldP1, yio, if_true, if_false, Bool.false_eq_true, reduceCtorEq, fieldP1]
  constructor
  ·rintro ⟨⟨_, ha, hb, hc, hlen, hz, hV, hL, hs⟩, hno⟩
   replace hz := hz.resolve_left (by simp)
   exact ⟨.inr hz, ha, hs, hc, by omega, hL⟩
  ·rintro ⟨hz, ha, hs, hc, hn, hL⟩
   replace hz := hz.resolve_left (by omega)
   exact ⟨⟨by omega, ha, trivial, hc, by omega, .inr hz, ydv hz, hL, hs⟩, fun q => by omega⟩
 have n4 := h
 by_cases h : x.op = 5
 ·have hsp : spB c f x = true ↔ True := by
   unfold spB
   rw [if_neg (by omega), if_neg (by omega), if_neg (by omega), if_neg (by omega), if_neg (by omega), if_neg (by omega)]
   simp
  have hR : rInsP c f L k x ↔ (x.op = 1 ∨ (x.k = 0 ∧ x.n = 0 ∧ x.s = [])) ∧ (plP (lenO f.cd) x.a ∧ x.b = 0 ∧ x.c = 0 ∧ lenO x.l = 0) := by
   unfold rInsP
   rw [if_neg (by omega), if_neg (by omega), if_neg (by omega), if_neg (by omega), if_pos h]
  rw [hR, hsp]
  rw [h, show fA 5 = 3 from rfl, show fB 5 = 0 from rfl, show fC 5 = 0 from rfl, show fLo 5 = 0 from rfl, show fHi 5 = 0 from rfl, show fVa 5 = false from rfl, show fPl 5 = false from rfl]
  simp only [yin, yeq, if_true, if_false, Bool.false_eq_true, reduceCtorEq, fieldP1]
  constructor
  ·rintro ⟨⟨_, ha, hb, hc, hlen, hz, hV, hL, hs⟩, hno⟩
   replace hz := hz.resolve_left (by simp)
   exact ⟨.inr hz, ha, hb, hc, by omega⟩
  ·rintro ⟨hz, ha, hb, hc, hn⟩
   replace hz := hz.resolve_left (by omega)
   exact ⟨⟨by omega, ha, hb, hc, by omega, .inr hz, ydv hz, none0 hn, trivial⟩, fun q => by omega⟩
 have n5 := h
 by_cases h : x.op = 6
 ·have hsp : spB c f x = true ↔ True := by
   unfold spB
   rw [if_neg (by omega), if_neg (by omega), if_neg (by omega), if_neg (by omega), if_neg (by omega), if_neg (by omega)]
   simp
  have hR : rInsP c f L k x ↔ (x.op = 1 ∨ (x.k = 0 ∧ x.n = 0 ∧ x.s = [])) ∧ (slP f.s x.a 1 ∧ plP (lenO f.cd) x.b ∧ x.c = 0 ∧ lenO x.l = 0) := by
   unfold rInsP
   rw [if_neg (by omega), if_neg (by omega), if_neg (by omega), if_neg (by omega), if_neg (by omega), if_pos (by omega)]
  rw [hR, hsp]
  rw [h, show fA 6 = 1 from rfl, show fB 6 = 3 from rfl, show fC 6 = 0 from rfl, show fLo 6 = 0 from rfl, show fHi 6 = 0 from rfl, show fVa 6 = false from rfl, show fPl 6 = false from rfl]
  simp only [fieldP1, yin, yeq, if_true, if_false, Bool.false_eq_true, reduceCtorEq, fieldP1]
  constructor
  ·rintro ⟨⟨_, ha, hb, hc, hlen, hz, hV, hL, hs⟩, hno⟩
   replace hz := hz.resolve_left (by simp)
   exact ⟨.inr hz, ha, hb, hc, by omega⟩
  ·rintro ⟨hz, ha, hb, hc, hn⟩
   replace hz := hz.resolve_left (by omega)
   exact ⟨⟨by omega, ha, hb, hc, by omega, .inr hz, ydv hz, none0 hn, trivial⟩, fun q => by omega⟩
 have n6 := h
 by_cases h : x.op = 7
 ·have hsp : spB c f x = true ↔ yfb c x.b (lenO x.l) := by
   unfold spB
   rw [if_neg (by omega), if_neg (by omega), if_pos h]
   rw [decide_eq_true_eq]
  have hR : rInsP c f L k x ↔ (x.op = 1 ∨ (x.k = 0 ∧ x.n = 0 ∧ x.s = [])) ∧ ((x.a = -1 ∨ slP f.s x.a 1) ∧ fitP c f.s x.b x.l ∧ x.c = 0) := by
   unfold rInsP
   rw [if_neg (by omega), if_neg (by omega), if_neg (by omega), if_neg (by omega), if_neg (by omega), if_neg (by omega), if_pos h]
  rw [hR, hsp]
  rw [h, show fA 7 = 2 from rfl, show fB 7 = 4 from rfl, show fC 7 = 0 from rfl, show fLo 7 = 0 from rfl, show fHi 7 = 5 from rfl, show fVa 7 = false from rfl, show fPl 7 = false from rfl]
  simp only [hor, yio, yeq, if_true, if_false, Bool.false_eq_true, reduceCtorEq, fieldP1]
  constructor
  ·rintro ⟨⟨_, ha, hb, hc, hlen, hz, hV, hL, hs⟩, hno⟩
   replace hz := hz.resolve_left (by simp)
   exact ⟨.inr hz, ha, ⟨hs, hL⟩, hc⟩
  ·rintro ⟨hz, ha, ⟨hs, hL⟩, hc⟩
   replace hz := hz.resolve_left (by omega)
   exact ⟨⟨by omega, ha, trivial, hc, ⟨by omega, yrl hp hs⟩, .inr hz, ydv hz, hL, hs⟩, fun q => by omega⟩
 have n7 := h
 by_cases h : x.op = 8
 ·have hsp : spB c f x = true ↔ True := by
   unfold spB
   rw [if_neg (by omega), if_neg (by omega), if_neg (by omega), if_neg (by omega), if_neg (by omega), if_neg (by omega)]
   simp
  have hR : rInsP c f L k x ↔ (x.op = 1 ∨ (x.k = 0 ∧ x.n = 0 ∧ x.s = [])) ∧ ((x.a = -1 ∨ slP f.s x.a 1) ∧ x.b = 0 ∧ x.c = 0 ∧ lenO x.l = 0) := by
   unfold rInsP
   rw [if_neg (by omega), if_neg (by omega), if_neg (by omega), if_neg (by omega), if_neg (by omega), if_neg (by omega), if_neg (by omega), if_pos h]
  rw [hR, hsp]
  rw [h, show fA 8 = 2 from rfl, show fB 8 = 0 from rfl, show fC 8 = 0 from rfl, show fLo 8 = 0 from rfl, show fHi 8 = 0 from rfl, show fVa 8 = false from rfl, show fPl 8 = false from rfl]
  simp only [hor, yeq, if_true, if_false, Bool.false_eq_true, reduceCtorEq, fieldP1]
  constructor
  ·rintro ⟨⟨_, ha, hb, hc, hlen, hz, hV, hL, hs⟩, hno⟩
   replace hz := hz.resolve_left (by simp)
   exact ⟨.inr hz, ha, hb, hc, by omega⟩
  ·rintro ⟨hz, ha, hb, hc, hn⟩
   replace hz := hz.resolve_left (by omega)
   exact ⟨⟨by omega, ha, hb, hc, by omega, .inr hz, ydv hz, none0 hn, trivial⟩, fun q => by omega⟩
 have n8 := h
 by_cases h : x.op = 9
 ·have hsp : spB c f x = true ↔ True := by
   unfold spB
   rw [if_neg (by omega), if_neg (by omega), if_neg (by omega), if_neg (by omega), if_neg (by omega), if_neg (by omega)]
   simp
  have hR : rInsP c f L k x ↔ (x.op = 1 ∨ (x.k = 0 ∧ x.n = 0 ∧ x.s = [])) ∧ (slP f.s x.a 1 ∧ x.b = 0 ∧ x.c = 0 ∧ lenO x.l = 0) := by
   unfold rInsP
   rw [if_neg (by omega), if_neg (by omega), if_neg (by omega), if_neg (by omega), if_neg (by omega), if_neg (by omega), if_neg (by omega), if_neg (by omega), if_pos h]
  rw [hR, hsp]
  rw [h, show fA 9 = 1 from rfl, show fB 9 = 0 from rfl, show fC 9 = 0 from rfl, show fLo 9 = 0 from rfl, show fHi 9 = 0 from rfl, show fVa 9 = false from rfl, show fPl 9 = false from rfl]
  simp only [fieldP1, yeq, if_true, if_false, Bool.false_eq_true, reduceCtorEq, fieldP1]
  constructor
  ·rintro ⟨⟨_, ha, hb, hc, hlen, hz, hV, hL, hs⟩, hno⟩
   replace hz := hz.resolve_left (by simp)
   exact ⟨.inr hz, ha, hb, hc, by omega⟩
  ·rintro ⟨hz, ha, hb, hc, hn⟩
   replace hz := hz.resolve_left (by omega)
   exact ⟨⟨by omega, ha, hb, hc, by omega, .inr hz, ydv hz, none0 hn, trivial⟩, fun q => by omega⟩
 have n9 := h
 by_cases h : x.op = 10
 ·have hsp : spB c f x = true ↔ askB c f x = true := by
   unfold spB
   rw [if_neg (by omega), if_neg (by omega), if_neg (by omega), if_pos h]
  have hR : rInsP c f L k x ↔ (x.op = 1 ∨ (x.k = 0 ∧ x.n = 0 ∧ x.s = [])) ∧ ((x.a = -1 ∨ slP f.s x.a 1) ∧ rAskP c f L k x) := by
   unfold rInsP
   rw [if_neg (by omega), if_neg (by omega), if_neg (by omega), if_neg (by omega), if_neg (by omega), if_neg (by omega), if_neg (by omega), if_neg (by omega), if_neg (by omega), if_pos h]
  rw [hR, hsp]
  rw [h, show fA 10 = 2 from rfl, show fB 10 = 4 from rfl, show fC 10 = 4 from rfl, show fLo 10 = 0 from rfl, show fHi 10 = 5 from rfl, show fVa 10 = false from rfl, show fPl 10 = false from rfl]
  simp only [hor, yio, if_true, if_false, Bool.false_eq_true, reduceCtorEq, fieldP1]
  constructor
  ·rintro ⟨⟨_, ha, hb, hc, hlen, hz, hV, hL, hs⟩, hno⟩
   replace hz := hz.resolve_left (by simp)
   exact ⟨.inr hz, ha, (yrm hS hp).1 ⟨⟨hlen.2, hL, hs⟩, fun q => hno ⟨trivial, q⟩⟩⟩
  ·rintro ⟨hz, ha, hr⟩
   replace hz := hz.resolve_left (by omega)
   obtain ⟨⟨q1, q2, q3⟩, q4⟩ := (yrm hS hp).2 hr
   exact ⟨⟨by omega, ha, trivial, trivial, ⟨by omega, q1⟩, .inr hz, ydv hz, q2, q3⟩, fun q => q4 q.2⟩
 have n10 := h
 by_cases h : x.op = 11
 ·have hsp : spB c f x = true ↔ ((x.a = 2 ∧ (lenO x.l : Int) = 2) ∨ ((x.a = 1 ∨ x.a = 3) ∧ (lenO x.l : Int) = 1)) := by
   unfold spB
   rw [if_neg (by omega), if_neg (by omega), if_neg (by omega), if_neg (by omega), if_pos h]
   rw [decide_eq_true_eq]
  have hR : rInsP c f L k x ↔ (x.op = 1 ∨ (x.k = 0 ∧ x.n = 0 ∧ x.s = [])) ∧ ((1 ≤ x.a ∧ x.a ≤ 3) ∧ x.b = 0 ∧ x.c = 0 ∧ lenO x.l = (if x.a = 2 then 2 else 1) ∧ slsP f.s x.l) := by
   unfold rInsP
   rw [if_neg (by omega), if_neg (by omega), if_neg (by omega), if_neg (by omega), if_neg (by omega), if_neg (by omega), if_neg (by omega), if_neg (by omega), if_neg (by omega), if_neg (by omega), if_pos h]
  rw [hR, hsp]
  rw [h, show fA 11 = 4 from rfl, show fB 11 = 0 from rfl, show fC 11 = 0 from rfl, show fLo 11 = 1 from rfl, show fHi 11 = 2 from rfl, show fVa 11 = false from rfl, show fPl 11 = false from rfl]
  simp only [yio, yeq, if_true, if_false, Bool.false_eq_true, reduceCtorEq, fieldP1]
  constructor
  ·rintro ⟨⟨_, ha, hb, hc, hlen, hz, hV, hL, hs⟩, hno⟩
   replace hz := hz.resolve_left (by simp)
   exact ⟨.inr hz, by omega, hb, hc, by split <;> omega, hL⟩
  ·rintro ⟨hz, ha, hb, hc, hn, hL⟩
   replace hz := hz.resolve_left (by omega)
   have hn2 : (x.a = 2 ∧ (lenO x.l : Int) = 2) ∨ ((x.a = 1 ∨ x.a = 3) ∧ (lenO x.l : Int) = 1) := by split at hn <;> omega
   exact ⟨⟨by omega, trivial, hb, hc, by omega, .inr hz, ydv hz, hL, hn2⟩, fun q => by omega⟩
 have n11 := h
 by_cases h : x.op = 12
 ·have hsp : spB c f x = true ↔ True := by
   unfold spB
   rw [if_neg (by omega), if_neg (by omega), if_neg (by omega), if_neg (by omega), if_neg (by omega), if_neg (by omega)]
   simp
  have hR : rInsP c f L k x ↔ (x.op = 1 ∨ (x.k = 0 ∧ x.n = 0 ∧ x.s = [])) ∧ (plsP (lenO f.cd) x.l ∧ slP f.s x.a 1 ∧ x.b = 0 ∧ x.c = 0 ∧ lenO x.l ≠ 0) := by
   unfold rInsP
   rw [if_neg (by omega), if_neg (by omega), if_neg (by omega), if_neg (by omega), if_neg (by omega), if_neg (by omega), if_neg (by omega), if_neg (by omega), if_neg (by omega), if_neg (by omega), if_neg (by omega), if_pos h]
  rw [hR, hsp]
  rw [h, show fA 12 = 1 from rfl, show fB 12 = 0 from rfl, show fC 12 = 0 from rfl, show fLo 12 = 1 from rfl, show fHi 12 = 9223372036854775807 from rfl, show fVa 12 = false from rfl, show fPl 12 = true from rfl]
  simp only [fieldP1, yeq, if_true, if_false, Bool.false_eq_true, reduceCtorEq, yin]
  constructor
  ·rintro ⟨⟨_, ha, hb, hc, hlen, hz, hV, hL, hs⟩, hno⟩
   replace hz := hz.resolve_left (by simp)
   exact ⟨.inr hz, hL, ha, hb, hc, by omega⟩
  ·rintro ⟨hz, hL, ha, hb, hc, hn⟩
   replace hz := hz.resolve_left (by omega)
   exact ⟨⟨by omega, ha, hb, hc, ⟨by omega, by omega⟩, .inr hz, ydv hz, hL, trivial⟩, fun q => by omega⟩
 have n12 := h
 by_cases h : x.op = 13
 ·have hsp : spB c f x = true ↔ True := by
   unfold spB
   rw [if_neg (by omega), if_neg (by omega), if_neg (by omega), if_neg (by omega), if_neg (by omega), if_neg (by omega)]
   simp
  have hR : rInsP c f L k x ↔ (x.op = 1 ∨ (x.k = 0 ∧ x.n = 0 ∧ x.s = [])) ∧ (slP f.s x.a 1 ∧ plP (lenO f.cd) x.b ∧ x.c = 0 ∧ lenO x.l = 0) := by
   unfold rInsP
   rw [if_neg (by omega), if_neg (by omega), if_neg (by omega), if_neg (by omega), if_neg (by omega), if_pos (by omega)]
  rw [hR, hsp]
  rw [h, show fA 13 = 1 from rfl, show fB 13 = 3 from rfl, show fC 13 = 0 from rfl, show fLo 13 = 0 from rfl, show fHi 13 = 0 from rfl, show fVa 13 = false from rfl, show fPl 13 = false from rfl]
  simp only [fieldP1, yin, yeq, if_true, if_false, Bool.false_eq_true, reduceCtorEq, fieldP1]
  constructor
  ·rintro ⟨⟨_, ha, hb, hc, hlen, hz, hV, hL, hs⟩, hno⟩
   replace hz := hz.resolve_left (by simp)
   exact ⟨.inr hz, ha, hb, hc, by omega⟩
  ·rintro ⟨hz, ha, hb, hc, hn⟩
   replace hz := hz.resolve_left (by omega)
   exact ⟨⟨by omega, ha, hb, hc, by omega, .inr hz, ydv hz, none0 hn, trivial⟩, fun q => by omega⟩
 have n13 := h
 by_cases h : x.op = 14
 ·have hsp : spB c f x = true ↔ yaz f.s (lenO f.cd) (IntKind.i64.wrap (x.a + 1)) 1 := by
   unfold spB
   rw [if_neg (by omega), if_neg (by omega), if_neg (by omega), if_neg (by omega), if_neg (by omega), if_pos h]
   rw [decide_eq_true_eq]
  have hR : rInsP c f L k x ↔ (x.op = 1 ∨ (x.k = 0 ∧ x.n = 0 ∧ x.s = [])) ∧ (x.op = 14 ∧ slP f.s x.a 2 ∧ x.b = 0 ∧ x.c = 0 ∧ lenO x.l = 0) := by
   unfold rInsP
   rw [if_neg (by omega), if_neg (by omega), if_neg (by omega), if_neg (by omega), if_neg (by omega), if_neg (by omega), if_neg (by omega), if_neg (by omega), if_neg (by omega), if_neg (by omega), if_neg (by omega), if_neg (by omega)]
  rw [hR, hsp]
  rw [h, show fA 14 = 1 from rfl, show fB 14 = 0 from rfl, show fC 14 = 0 from rfl, show fLo 14 = 0 from rfl, show fHi 14 = 0 from rfl, show fVa 14 = false from rfl, show fPl 14 = false from rfl]
  simp only [fieldP1, yeq, if_true, if_false, Bool.false_eq_true, reduceCtorEq, fieldP1]
  constructor
  ·rintro ⟨⟨_, ha, hb, hc, hlen, hz, hV, hL, hs⟩, hno⟩
   replace hz := hz.resolve_left (by simp)
   refine ⟨.inr hz, trivial, ?_, hb, hc, by omega⟩
   unfold slP at *
   rw [wrapS (by omega) (by omega)] at hs
   omega
  ·rintro ⟨hz, _, ha, hb, hc, hn⟩
   replace hz := hz.resolve_left (by omega)
   unfold slP at ha ⊢
   refine ⟨⟨by omega, by omega, hb, hc, by omega, .inr hz, ydv hz, none0 hn, ?_⟩, fun q => by omega⟩
   rw [wrapS (by omega) (by omega)]
   omega
 have n14 := h
 unfold rInsP
 refine ⟨fun h => absurd h.1.1 (by omega), fun h => ?_⟩
 rw [if_neg (by omega), if_neg (by omega), if_neg (by omega), if_neg (by omega), if_neg (by omega), if_neg (by omega), if_neg (by omega), if_neg (by omega), if_neg (by omega), if_neg (by omega), if_neg (by omega), if_neg (by omega)] at h
 exact absurd h.2.1 (by omega)
theorem yro {f : Fnc} {g : Grd} (hS : 0 ≤ f.s ∧ f.s ≤ 200) (hl : lenO f.cd ≤ 4000) : grB f g = true ↔ rGrdP f g := by
 unfold grB rGrdP
 have e2 : IntKind.i64.wrap ((lenO f.cd : Int) - 1) = (lenO f.cd : Int) - 1 := wrapS (by omega) (by omega)
 rw [e2]
 simp only [Bool.and_eq_true, decide_eq_true_eq, yin, fieldP1]
 unfold plP slP
 constructor
 ·rintro ⟨⟨⟨⟨h1, h2⟩, h3⟩, h4⟩, h5⟩
  rw [wrapS (by omega) (by omega)] at h2 h5
  omega
 ·rintro ⟨h1, h2, h3, h4, h5⟩
  rw [wrapS (by omega) (by omega), wrapS (by omega) (by omega)]
  omega
theorem yrp {op : Int} (h : 1 ≤ op ∧ op ≤ 14) : fGo op = false ↔ loneP op := by
 have e : op = 1 ∨ op = 2 ∨ op = 3 ∨ op = 4 ∨ op = 5 ∨ op = 6 ∨ op = 7 ∨ op = 8 ∨ op = 9 ∨ op = 10 ∨ op = 11 ∨ op = 12 ∨ op = 13 ∨ op = 14 := by omega
 unfold loneP
 rcases e with e | e | e | e | e | e | e | e | e | e | e | e | e | e <;> subst e <;> decide
theorem yky {c : Cod} {f : Fnc} {L : List Ins} : ∀ n, cdB c f L n = true ↔ ∀ i x, i < n → L[i]? = some x → rowB c f L i x = true
 | 0 => ⟨fun _ i x h => absurd h (by omega), fun _ => rfl⟩
 | n + 1 => by
  rw [cdB, Bool.and_eq_true, yky n]
  constructor
  ·rintro ⟨h1, h2⟩ i x hi hx
   by_cases e : i = n
   ·subst e; rw [hx] at h2; exact h2
   ·exact h1 i x (by omega) hx
  ·intro h
   refine ⟨fun i x hi hx => h i x (by omega) hx, ?_⟩
   cases hq : L[n]? with
   | none => rfl
   | some x => exact h n x (by omega) hq
theorem yrq {c : Cod} {L : List Fnc} : ∀ n, chkB c L n = true ↔ ∀ i f, i < n → L[i]? = some f → (∀ x ∈ L.take i, x.nm ≠ f.nm) ∧ fnB c f = true
 | 0 => ⟨fun _ i x h => absurd h (by omega), fun _ => rfl⟩
 | n + 1 => by
  have one : ∀ (i : Nat) (f : Fnc), (!(!((L.take i).all (fun x => (!decide (x.nm = f.nm))))) && fnB c f) = true ↔ ((∀ x ∈ L.take i, x.nm ≠ f.nm) ∧ fnB c f = true) := fun i f => by
   rw [Bool.not_not, Bool.and_eq_true, List.all_eq_true]
   simp
  rw [chkB, Bool.and_eq_true, yrq n]
  constructor
  ·rintro ⟨h1, h2⟩ i x hi hx
   by_cases e : i = n
   ·subst e; rw [hx] at h2; exact (one _ _).1 h2
   ·exact h1 i x (by omega) hx
  ·intro h
   refine ⟨fun i x hi hx => h i x (by omega) hx, ?_⟩
   cases hq : L[n]? with
   | none => rfl
   | some x => exact (one _ _).2 (h n x (by omega) hq)
theorem mem_lt {α : Type} {l : Option (List α)} {i : Nat} {x : α} (h : (l.getD [])[i]? = some x) : i < lenO l := (List.getElem?_eq_some_iff.1 h).1
theorem ywy {c : Cod} (hok : CodOk c) : ydu c = true ↔ ygk c := by
 unfold ydu ygk
 rw [Bool.and_eq_true, decide_eq_true_eq, yrq]
 constructor
 ·rintro ⟨h1, h2⟩
  have hfn : ∀ f ∈ c.getD [], fnB c f = true := fun f hf => by
   obtain ⟨i, hi⟩ := List.mem_iff_getElem?.1 hf
   exact (h2 i f (mem_lt hi) hi).2
  have hp : ∀ g ∈ c.getD [], 0 ≤ g.p ∧ g.p ≤ 5 := fun g hg => by
   have := hfn g hg
   unfold fnB at this
   simp only [Bool.and_eq_true, decide_eq_true_eq] at this
   exact this.1.1.1.1.1.2
  have hbody : ∀ f ∈ c.getD [], bodyP c f ∧ headP f := fun f hf => by
   have h := hfn f hf
   unfold fnB at h
   simp only [Bool.and_eq_true, decide_eq_true_eq, Bool.not_eq_true', decide_eq_false_iff_not] at h
   obtain ⟨⟨⟨⟨⟨⟨hn, hpp⟩, hs⟩, hl⟩, hg⟩, hcd⟩, hgo, hgs⟩ := h
   have hS : 0 ≤ f.s ∧ f.s ≤ 200 := by omega
   have hx := (hok.2 f hf).2.2
   have hins : ∀ k x, (f.cd.getD [])[k]? = some x → rInsP c f (f.cd.getD []) k x := fun k x hk =>
    (yrn hS (by omega) hp (hx x (List.mem_of_getElem? hk)).1).1 ((yky _).1 hcd k x (mem_lt hk) hk)
   refine ⟨⟨hins, fun g hg => (yro hS (by omega)).1 (List.all_eq_true.1 hgs g hg)⟩, hn, hpp, hs, by omega, by omega, ?_⟩
   have hlt : lenO f.cd - 1 < (f.cd.getD []).length := by unfold lenO at *; omega
   refine ⟨_, List.getElem?_eq_getElem hlt, ?_⟩
   have hr := (yky _).1 hcd _ _ (by omega) (List.getElem?_eq_getElem hlt)
   unfold rowB at hr
   rw [Bool.and_eq_true, yrk] at hr
   refine (yrp hr.1.1).1 ?_
   unfold ykx at hgo
   rw [show (f.cd.getD []).length - 1 = lenO f.cd - 1 from rfl, List.getElem?_eq_getElem hlt] at hgo
   exact hgo
  refine ⟨by omega, fun i f hi => ⟨(hbody f (List.mem_of_getElem? hi)).2, (h2 i f (mem_lt hi) hi).1⟩, fun f hf => (hbody f hf).1⟩
 ·rintro ⟨h1, h2, h3⟩
  have hp : ∀ g ∈ c.getD [], 0 ≤ g.p ∧ g.p ≤ 5 := fun g hg => by
   obtain ⟨i, hi⟩ := List.mem_iff_getElem?.1 hg
   exact (h2 i g hi).1.2.1
  refine ⟨by omega, fun i f _ hi => ⟨(h2 i f hi).2, ?_⟩⟩
  obtain ⟨hn, hpp, hs, hl, hg, z, hz, hlone⟩ := (h2 i f hi).1
  have hf := List.mem_of_getElem? hi
  obtain ⟨hI, hG⟩ := h3 f hf
  have hS : 0 ≤ f.s ∧ f.s ≤ 200 := by omega
  have hx := (hok.2 f hf).2.2
  unfold fnB
  simp only [Bool.and_eq_true, decide_eq_true_eq, Bool.not_eq_true', decide_eq_false_iff_not]
  refine ⟨⟨⟨⟨⟨⟨hn, hpp⟩, hs⟩, by omega⟩, by omega⟩, (yky _).2 fun k x _ hk => (yrn hS hl.2 hp (hx x (List.mem_of_getElem? hk)).1).2 (hI k x hk)⟩, ?_, List.all_eq_true.2 fun g hg => (yro hS hl.2).2 (hG g hg)⟩
  unfold ykx
  rw [show (f.cd.getD []).length - 1 = lenO f.cd - 1 from rfl, hz]
  refine (yrp ?_).2 hlone
  unfold loneP at hlone
  omega
end Go.Proofs.YtekmafoicobphaaGreatDoor
