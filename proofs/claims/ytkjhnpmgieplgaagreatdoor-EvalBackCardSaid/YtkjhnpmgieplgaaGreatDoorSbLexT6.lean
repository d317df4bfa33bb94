/- Plain words about tokens: blanks, numerals, quotes, the token at a place, all tokens. -/
import Derived.Test.YtkjhnpmgieplgaaGreatDoorSbLexP
import Derived.Test.YtkjhnpmgieplgaaGreatDoorSbNum
import Derived.Test.YtkjhnpmgieplgaaGreatDoorSbNum2
set_option linter.unusedVariables false
set_option linter.unusedSimpArgs false
namespace Go.Lex
open Go.Lib Go.Sb

def blankB (c : UInt8) : Bool := decide (c = 32 ∨ c = 9 ∨ c = 10 ∨ c = 13)
/-- Behind blanks and comments ('true': within a comment). -/
def skipS : Bool → List UInt8 → List UInt8
  | _, [] => []
  | false, c :: r => if blankB c then skipS false r else if c = 35 then skipS true r else c :: r
  | true, c :: r => if c = 10 then skipS false r else skipS true r

theorem skip_len : ∀ (m : Bool) (l : List UInt8), (skipS m l).length ≤ l.length
  | _, [] => by simp [skipS]
  | false, c :: r => by
    simp only [skipS]
    have h1 := skip_len false r
    have h2 := skip_len true r
    split
    · simp; omega
    · split
      · simp; omega
      · simp
  | true, c :: r => by
    simp only [skipS]
    have h1 := skip_len false r
    have h2 := skip_len true r
    split <;> (simp; omega)
theorem skip_drop : ∀ (m : Bool) (l : List UInt8), skipS m l = l.drop (l.length - (skipS m l).length)
  | _, [] => by simp [skipS]
  | m, c :: r => by
    have key : ∀ m', skipS m (c :: r) = skipS m' r → skipS m (c :: r) = (c :: r).drop ((c :: r).length - (skipS m (c :: r)).length) := fun m' h => by
      rw [h, List.length_cons]
      have h1 := skip_len m' r
      rw [show r.length + 1 - (skipS m' r).length = (r.length - (skipS m' r).length) + 1 from by omega, List.drop_succ_cons]
      exact skip_drop m' r
    cases m with
    | false =>
      by_cases h1 : blankB c = true
      · exact key false (by simp only [skipS]; rw [if_pos h1])
      · by_cases h2 : c = 35
        · exact key true (by simp only [skipS]; rw [if_neg h1, if_pos h2])
        · have : skipS false (c :: r) = c :: r := by simp only [skipS]; rw [if_neg h1, if_neg h2]
          rw [this]; simp
    | true =>
      by_cases h1 : c = 10
      · exact key false (by simp only [skipS]; rw [if_pos h1])
      · exact key true (by simp only [skipS]; rw [if_neg h1])
/-- Where blanks and comments end. -/
def skipN (u : List UInt8) (i : Nat) : Nat := u.length - (skipS false (u.drop i)).length
theorem skipN_drop {u : List UInt8} {i : Nat} (hi : i ≤ u.length) : skipS false (u.drop i) = u.drop (skipN u i) := by
  have h1 := skip_drop false (u.drop i)
  have h2 := skip_len false (u.drop i)
  rw [List.length_drop] at h1 h2
  rw [h1, List.drop_drop]
  congr 1
  unfold skipN; omega
theorem skipN_le (u : List UInt8) (i : Nat) : skipN u i ≤ u.length := by unfold skipN; omega
theorem skipN_ge {u : List UInt8} {i : Nat} (hi : i ≤ u.length) : i ≤ skipN u i := by
  have h2 := skip_len false (u.drop i)
  rw [List.length_drop] at h2
  unfold skipN; omega
theorem skipN_of {u : List UInt8} {i j : Nat} (hj : j ≤ u.length) (h : skipS false (u.drop i) = u.drop j) : skipN u i = j := by
  unfold skipN; rw [h, List.length_drop]; omega

/-! Numerals -/
def isNumeral (s : List UInt8) : Bool := !s.isEmpty && s.all digit && (decide (s.length ≤ 1) || decide (s.head? ≠ some 48)) && decide (decPre s ≤ 1000000000000)

theorem dig_of {c : UInt8} (h : digit c = true) : 48 ≤ c.toNat ∧ c.toNat ≤ 57 := by simpa [digit] using h
theorem byte_of {c : UInt8} (h : digit c = true) : UInt8.ofNat (48 + (c.toNat - 48)) = c := by
  have := dig_of h
  apply UInt8.toNat_inj.1
  rw [show 48 + (c.toNat - 48) = c.toNat from by omega]; simp

theorem snoc_cases {α : Type} (l : List α) : l = [] ∨ ∃ r c, l = r ++ [c] := by
  rcases List.eq_nil_or_concat l with h | ⟨r, c, h⟩
  · exact .inl h
  · exact .inr ⟨r, c, by simpa using h⟩

/-- Digits without a needless 0 ahead are the number's. -/
theorem dec_canon : ∀ (n : Nat) (s : List UInt8), s.length = n → s ≠ [] → s.all digit = true → (s.length ≤ 1 ∨ s.head? ≠ some 48) → decDigits (decPre s) = s ∧ (s.head? ≠ some 48 → 1 ≤ decPre s)
  | 0, s, h, hne, _, _ => absurd (List.length_eq_zero_iff.1 h) hne
  | n + 1, s, h, hne, hd, h0 => by
    rcases snoc_cases s with rfl | ⟨r, c, rfl⟩
    · exact absurd rfl hne
    have hc : digit c = true := List.all_eq_true.1 hd c (by simp)
    have hdg := dig_of hc
    rw [decPre_snoc]
    by_cases hr : r = []
    · subst hr
      have e : decPre ([] : List UInt8) = 0 := rfl
      rw [e]
      refine ⟨?_, fun h48 => ?_⟩
      · rw [decDigits, dif_pos (by omega)]
        simp only [Nat.mul_zero, Nat.zero_add, List.nil_append]
        rw [byte_of hc]
      · have : c ≠ 48 := fun q => h48 (by simp [q])
        have : c.toNat ≠ 48 := fun q => this (UInt8.toNat_inj.1 q)
        omega
    · have hh : (r ++ [c]).head? = r.head? := by cases r with | nil => exact absurd rfl hr | cons a t => rfl
      have hrl : 1 ≤ r.length := by cases r with | nil => exact absurd rfl hr | cons a t => simp
      have h48 : r.head? ≠ some 48 := by
        rcases h0 with q | q
        · simp at q; exact absurd q hr
        · rw [hh] at q; exact q
      obtain ⟨k1, k2⟩ := dec_canon n r (by simp at h; omega) hr (List.all_eq_true.2 fun x hx => List.all_eq_true.1 hd x (by simp [hx])) (.inr h48)
      have h1 := k2 h48
      refine ⟨?_, fun _ => by omega⟩
      rw [decDigits, dif_neg (by omega)]
      rw [show (10 * decPre r + (c.toNat - 48)) / 10 = decPre r from by omega, show (10 * decPre r + (c.toNat - 48)) % 10 = c.toNat - 48 from by omega, k1, byte_of hc]

theorem dec_head : ∀ (u : Nat), 1 ≤ u → (decDigits u).head? ≠ some 48 := by
  intro u
  induction u using Nat.strongRecOn with
  | _ u ih =>
    intro h
    rw [decDigits]
    split
    · intro q
      simp only [List.head?_cons, Option.some.injEq] at q
      have := dig_toNat (d := u) (by omega)
      rw [q] at this
      have e : (48 : UInt8).toNat = 48 := rfl
      omega
    · have := ih (u / 10) (by omega) (by omega)
      have hne := dec_ne (u / 10)
      cases hd : decDigits (u / 10) with
      | nil => exact absurd hd hne
      | cons a t => rw [hd] at this; simpa using this

theorem itoa_pos {n : Int} (h : 0 ≤ n) : itoa n = decDigits n.toNat := by unfold itoa; rw [if_neg (by omega)]

/-- What the program asks of a numeral. -/
theorem numeral_iff (s : List UInt8) : isNumeral s = true ↔ ∃ v : Int, atoiAll s = .ok v ∧ itoa v = s ∧ 0 ≤ v ∧ v ≤ 1000000000000 := by
  constructor
  · intro h
    simp only [isNumeral, Bool.and_eq_true, Bool.not_eq_true', Bool.or_eq_true, decide_eq_true_eq] at h
    obtain ⟨⟨⟨h1, h2⟩, h3⟩, h4⟩ := h
    have hne : s ≠ [] := by intro q; subst q; simp at h1
    obtain ⟨k1, _⟩ := dec_canon s.length s rfl hne h2 h3
    have hi : itoa ((decPre s : Nat) : Int) = s := by rw [itoa_pos (by omega)]; simpa using k1
    refine ⟨decPre s, ?_, hi, by omega, by omega⟩
    have := atoi_itoa ((decPre s : Nat) : Int) (by omega) (by omega)
    rw [hi] at this; exact this
  · rintro ⟨v, _, h2, h3, h4⟩
    rw [itoa_pos h3] at h2
    simp only [isNumeral, Bool.and_eq_true, Bool.not_eq_true', Bool.or_eq_true, decide_eq_true_eq]
    have hp := decPre_dec v.toNat
    rw [h2] at hp
    refine ⟨⟨⟨?_, ?_⟩, ?_⟩, by omega⟩
    · have := dec_ne v.toNat
      rw [h2] at this
      cases s with
      | nil => exact absurd rfl this
      | cons a t => rfl
    · rw [List.all_eq_true]
      intro c hc
      have := dec_bytes v.toNat c (by rw [h2]; exact hc)
      simp [digit]; omega
    · by_cases hv : 1 ≤ v.toNat
      · have := dec_head _ hv
        rw [h2] at this; exact .inr this
      · have e : v.toNat = 0 := by omega
        rw [e] at h2
        rw [← h2]
        left
        rw [decDigits, dif_pos (by decide)]; simp

/-! Quotes: what stands behind the first sign -/
def quoteL : List UInt8 → Option (List UInt8 × Nat)
  | [] => none
  | [c] => if c = 34 then some ([], 1) else none
  | c :: d :: t =>
    if c = 34 then some ([], 1)
    else if c = 92 then (if d = 34 ∨ d = 92 then (quoteL t).map (fun p => (d :: p.1, p.2 + 2)) else none)
    else (quoteL (d :: t)).map (fun p => (c :: p.1, p.2 + 1))

/-- The token with which bytes begin: its kind, its text, its size. -/
def tokL (l : List UInt8) : Option (Int × List UInt8 × Nat) := match l with
  | [] => none
  | c :: r =>
    if letter c = true then
      (if isWord (l.takeWhile fun c => letter c || digit c) = true then some (5, l.takeWhile (fun c => letter c || digit c), (l.takeWhile fun c => letter c || digit c).length)
       else if isName (l.takeWhile fun c => letter c || digit c) = true then some (1, l.takeWhile (fun c => letter c || digit c), (l.takeWhile fun c => letter c || digit c).length) else none)
    else if digit c = true then (if isNumeral (l.takeWhile digit) = true then some (2, l.takeWhile digit, (l.takeWhile digit).length) else none)
    else if c = 34 then (match quoteL r with
      | some p => if isText p.1 = true then some (3, p.1, p.2 + 1) else none
      | none => none)
    else if 2 ≤ l.length ∧ isSign (l.take 2) = true then some (4, l.take 2, 2)
    else if isSign (l.take 1) = true then some (4, l.take 1, 1) else none

/-- The tokens from a place on, as cells; and the place where there is none. -/
def toksL (u : List UInt8) : Nat → Nat → List (Int × List UInt8 × Int) × Option Nat
  | 0, _ => ([], none)
  | k + 1, i =>
    if skipN u i < u.length then (match tokL (u.drop (skipN u i)) with
      | some p => ((p.1, p.2.1, (skipN u i : Int)) :: (toksL u k (skipN u i + p.2.2)).1, (toksL u k (skipN u i + p.2.2)).2)
      | none => ([], some (skipN u i)))
    else ([], none)

/-! A step at a time -/
theorem drop_cons {u : List UInt8} {j : Nat} {c : UInt8} (hc : u[j]? = some c) : u.drop j = c :: u.drop (j + 1) := by
  obtain ⟨h1, h2⟩ := List.getElem?_eq_some_iff.1 hc
  rw [List.drop_eq_getElem_cons h1, h2]
theorem skip_blank {u : List UInt8} {j : Nat} {c : UInt8} (hc : u[j]? = some c) (h : blankB c = true) : skipS false (u.drop j) = skipS false (u.drop (j + 1)) := by
  rw [drop_cons hc]; simp only [skipS]; rw [if_pos h]
theorem skip_hash {u : List UInt8} {j : Nat} (hc : u[j]? = some 35) : skipS false (u.drop j) = skipS true (u.drop (j + 1)) := by
  rw [drop_cons hc]; simp only [skipS]; rw [if_neg (by decide), if_pos trivial]
theorem skip_com {u : List UInt8} {j : Nat} {c : UInt8} (hc : u[j]? = some c) (h : c ≠ 10) : skipS true (u.drop j) = skipS true (u.drop (j + 1)) := by
  rw [drop_cons hc]; simp only [skipS]; rw [if_neg h]
theorem skip_lf {u : List UInt8} {j : Nat} (hc : u[j]? = some 10) : skipS true (u.drop j) = skipS false (u.drop j) := by
  rw [drop_cons hc]; simp only [skipS]; rw [if_pos trivial, if_pos (by decide)]
theorem skip_stop {u : List UInt8} {j : Nat} {c : UInt8} (hc : u[j]? = some c) (h1 : blankB c = false) (h2 : c ≠ 35) : skipS false (u.drop j) = u.drop j := by
  rw [drop_cons hc]; simp only [skipS]; rw [if_neg (by simp [h1]), if_neg h2]
theorem skip_end {u : List UInt8} {j : Nat} (h : u.length ≤ j) (m : Bool) : skipS m (u.drop j) = u.drop j := by
  rw [List.drop_eq_nil_of_le h]; cases m <;> rfl

/-- Where a run of such bytes ends. -/
def runE (p : UInt8 → Bool) (u : List UInt8) (i : Nat) : Nat := i + ((u.drop i).takeWhile p).length
theorem runE_up {p : UInt8 → Bool} {u : List UInt8} {j : Nat} {c : UInt8} (hc : u[j]? = some c) (h : p c = true) : runE p u (j + 1) = runE p u j := by
  unfold runE; rw [drop_cons hc, List.takeWhile_cons, if_pos h, List.length_cons]; omega
theorem runE_stop {p : UInt8 → Bool} {u : List UInt8} {j : Nat} {c : UInt8} (hc : u[j]? = some c) (h : p c = false) : runE p u j = j := by
  unfold runE; rw [drop_cons hc, List.takeWhile_cons, if_neg (by simp [h])]; rfl
theorem runE_end {p : UInt8 → Bool} {u : List UInt8} {j : Nat} (h : u.length ≤ j) : runE p u j = j := by
  unfold runE; rw [List.drop_eq_nil_of_le h]; rfl
theorem takeWhile_take {p : UInt8 → Bool} : ∀ (l : List UInt8), l.takeWhile p = l.take (l.takeWhile p).length
  | [] => rfl
  | c :: r => by
    rw [List.takeWhile_cons]
    split
    · rw [List.length_cons, List.take_succ_cons, ← takeWhile_take r]
    · rfl
theorem takeWhile_le {p : UInt8 → Bool} : ∀ (l : List UInt8), (l.takeWhile p).length ≤ l.length
  | [] => by simp
  | c :: r => by
    rw [List.takeWhile_cons]
    have := takeWhile_le (p := p) r
    split
    · simp; omega
    · simp
theorem runE_text (p : UInt8 → Bool) (u : List UInt8) (i : Nat) : (u.take (runE p u i)).drop i = (u.drop i).takeWhile p := by
  rw [List.drop_take, show runE p u i - i = ((u.drop i).takeWhile p).length from by unfold runE; omega, ← takeWhile_take]
theorem runE_le {p : UInt8 → Bool} {u : List UInt8} {i : Nat} (hi : i ≤ u.length) : runE p u i ≤ u.length := by
  have := takeWhile_le (p := p) (u.drop i)
  rw [List.length_drop] at this
  unfold runE; omega
theorem runE_ge (p : UInt8 → Bool) (u : List UInt8) (i : Nat) : i ≤ runE p u i := by unfold runE; omega

/-- Letters too, or digits alone. -/
def runB (b : Bool) (c : UInt8) : Bool := digit c || (b && letter c)
theorem runB_true : runB true = fun c => letter c || digit c := by funext c; simp [runB, Bool.or_comm]
theorem runB_false : runB false = digit := by funext c; simp [runB]

/-! Quotes, a step at a time -/
theorem quote_end {u : List UInt8} {j : Nat} (h : u.length ≤ j) : quoteL (u.drop j) = none := by rw [List.drop_eq_nil_of_le h]; rfl
theorem quote_close {u : List UInt8} {j : Nat} (hc : u[j]? = some 34) : quoteL (u.drop j) = some ([], 1) := by
  rw [drop_cons hc]
  cases u.drop (j + 1) <;> simp [quoteL]
theorem quote_plain {u : List UInt8} {j : Nat} {c : UInt8} (hc : u[j]? = some c) (h1 : c ≠ 34) (h2 : c ≠ 92) : quoteL (u.drop j) = (quoteL (u.drop (j + 1))).map (fun p => (c :: p.1, p.2 + 1)) := by
  rw [drop_cons hc]
  cases u.drop (j + 1) <;> simp [quoteL, h1, h2]
theorem quote_esc {u : List UInt8} {j : Nat} {d : UInt8} (hc : u[j]? = some 92) (hd : u[j + 1]? = some d) (h : d = 34 ∨ d = 92) : quoteL (u.drop j) = (quoteL (u.drop (j + 2))).map (fun p => (d :: p.1, p.2 + 2)) := by
  rw [drop_cons hc, drop_cons hd]
  simp only [quoteL]
  rw [if_neg (by decide), if_pos trivial, if_pos h]
theorem quote_bad {u : List UInt8} {j : Nat} (hc : u[j]? = some 92) (h : ∀ d, u[j + 1]? = some d → d ≠ 34 ∧ d ≠ 92) : quoteL (u.drop j) = none := by
  rw [drop_cons hc]
  cases hd : u[j + 1]? with
  | none => rw [List.drop_eq_nil_of_le (List.getElem?_eq_none_iff.1 hd)]; rfl
  | some d =>
    rw [drop_cons hd]
    simp only [quoteL]
    rw [if_neg (by decide), if_pos trivial, if_neg (by have := h d hd; rintro (q | q); exact this.1 q; exact this.2 q)]
theorem quote_len : ∀ (n : Nat) (l : List UInt8) (p : List UInt8 × Nat), l.length ≤ n → quoteL l = some p → p.1.length + 1 ≤ p.2 ∧ p.2 ≤ l.length
  | _, [], p, hl, h => by cases h
  | n, [c], p, hl, h => by
    simp only [quoteL] at h
    split at h
    · cases h; simp
    · cases h
  | 0, c :: d :: t, p, hl, h => by simp at hl
  | n + 1, c :: d :: t, p, hl, h => by
    simp only [quoteL] at h
    split at h
    · cases h; simp
    · split at h
      · split at h
        · obtain ⟨q, hq, rfl⟩ := Option.map_eq_some_iff.1 h
          have := quote_len n t q (by simp at hl; omega) hq
          simp; omega
        · cases h
      · obtain ⟨q, hq, rfl⟩ := Option.map_eq_some_iff.1 h
        have := quote_len n (d :: t) q (by simp at hl ⊢; omega) hq
        simp at this ⊢; omega
end Go.Lex

/- Plain words about tokens: the token at a place, case by case. -/

namespace Go.Lex
open Go.Lib Go.Sb

variable {u : List UInt8} {i : Nat} {c : UInt8}
theorem tok_word (hc : u[i]? = some c) (hl : letter c = true) (hw : isWord ((u.take (runE (runB true) u i)).drop i) = true) : tokL (u.drop i) = some (5, (u.take (runE (runB true) u i)).drop i, runE (runB true) u i - i) := by
  rw [runE_text, runB_true] at hw ⊢
  rw [drop_cons hc] at hw ⊢
  simp only [tokL]
  rw [if_pos hl, if_pos hw]
  unfold runE; rw [drop_cons hc, Nat.add_sub_cancel_left]
theorem tok_name (hc : u[i]? = some c) (hl : letter c = true) (hw : isWord ((u.take (runE (runB true) u i)).drop i) = false) (hn : isName ((u.take (runE (runB true) u i)).drop i) = true) : tokL (u.drop i) = some (1, (u.take (runE (runB true) u i)).drop i, runE (runB true) u i - i) := by
  rw [runE_text, runB_true] at hw hn ⊢
  rw [drop_cons hc] at hw hn ⊢
  simp only [tokL]
  rw [if_pos hl, if_neg (by simp [hw]), if_pos hn]
  unfold runE; rw [drop_cons hc, Nat.add_sub_cancel_left]
theorem tok_noname (hc : u[i]? = some c) (hl : letter c = true) (hw : isWord ((u.take (runE (runB true) u i)).drop i) = false) (hn : isName ((u.take (runE (runB true) u i)).drop i) = false) : tokL (u.drop i) = none := by
  rw [runE_text, runB_true] at hw hn
  rw [drop_cons hc] at hw hn ⊢
  simp only [tokL]
  rw [if_pos hl, if_neg (by simp [hw]), if_neg (by simp [hn])]
theorem tok_num (hc : u[i]? = some c) (hl : letter c = false) (hd : digit c = true) (hn : isNumeral ((u.take (runE (runB false) u i)).drop i) = true) : tokL (u.drop i) = some (2, (u.take (runE (runB false) u i)).drop i, runE (runB false) u i - i) := by
  rw [runE_text, runB_false] at hn ⊢
  rw [drop_cons hc] at hn ⊢
  simp only [tokL]
  rw [if_neg (by simp [hl]), if_pos hd, if_pos hn]
  unfold runE; rw [drop_cons hc, Nat.add_sub_cancel_left]
theorem tok_nonum (hc : u[i]? = some c) (hl : letter c = false) (hd : digit c = true) (hn : isNumeral ((u.take (runE (runB false) u i)).drop i) = false) : tokL (u.drop i) = none := by
  rw [runE_text, runB_false] at hn
  rw [drop_cons hc] at hn ⊢
  simp only [tokL]
  rw [if_neg (by simp [hl]), if_pos hd, if_neg (by simp [hn])]
theorem tok_quote {p : List UInt8 × Nat} (hc : u[i]? = some 34) (hq : quoteL (u.drop (i + 1)) = some p) (ht : isText p.1 = true) : tokL (u.drop i) = some (3, p.1, p.2 + 1) := by
  rw [drop_cons hc]
  simp only [tokL, hq]
  rw [if_neg (by decide), if_neg (by decide), if_pos trivial, if_pos ht]
theorem tok_noquote (hc : u[i]? = some 34) (hq : quoteL (u.drop (i + 1)) = none) : tokL (u.drop i) = none := by
  rw [drop_cons hc]
  simp only [tokL, hq]
  rw [if_neg (by decide), if_neg (by decide), if_pos trivial]
theorem tok_notext {p : List UInt8 × Nat} (hc : u[i]? = some 34) (hq : quoteL (u.drop (i + 1)) = some p) (ht : isText p.1 = false) : tokL (u.drop i) = none := by
  rw [drop_cons hc]
  simp only [tokL, hq]
  rw [if_neg (by decide), if_neg (by decide), if_pos trivial, if_neg (by simp [ht])]
theorem tok_sign2 (hc : u[i]? = some c) (hl : letter c = false) (hd : digit c = false) (h34 : c ≠ 34) (h2 : i + 2 ≤ u.length) (hs : isSign ((u.take (i + 2)).drop i) = true) : tokL (u.drop i) = some (4, (u.take (i + 2)).drop i, 2) := by
  have e : (u.take (i + 2)).drop i = (u.drop i).take 2 := by rw [List.drop_take, Nat.add_sub_cancel_left]
  have l : 2 ≤ (u.drop i).length := by rw [List.length_drop]; omega
  rw [e] at hs ⊢
  rw [drop_cons hc] at hs l ⊢
  simp only [tokL]
  rw [if_neg (by simp [hl]), if_neg (by simp [hd]), if_neg h34, if_pos ⟨l, hs⟩]
theorem tok_sign1 (hc : u[i]? = some c) (hl : letter c = false) (hd : digit c = false) (h34 : c ≠ 34) (h2 : ¬ (i + 2 ≤ u.length ∧ isSign ((u.take (i + 2)).drop i) = true)) : tokL (u.drop i) = if isSign ((u.take (i + 1)).drop i) = true then some (4, (u.take (i + 1)).drop i, 1) else none := by
  have e : (u.take (i + 2)).drop i = (u.drop i).take 2 := by rw [List.drop_take, Nat.add_sub_cancel_left]
  have e1 : (u.take (i + 1)).drop i = (u.drop i).take 1 := by rw [List.drop_take, Nat.add_sub_cancel_left]
  have l : 2 ≤ (u.drop i).length → i + 2 ≤ u.length := by rw [List.length_drop]; omega
  rw [e] at h2
  rw [e1]
  rw [drop_cons hc] at h2 l ⊢
  simp only [tokL]
  rw [if_neg (by simp [hl]), if_neg (by simp [hd]), if_neg h34, if_neg (fun q => h2 ⟨l q.1, q.2⟩)]
theorem tok_len {p : Int × List UInt8 × Nat} (h : tokL (u.drop i) = some p) : 1 ≤ p.2.2 ∧ i + p.2.2 ≤ u.length ∧ p.2.1.length ≤ u.length := by
  have hd : (u.drop i).length = u.length - i := by simp
  have tw : ∀ (q : UInt8 → Bool), ((u.drop i).takeWhile q).length ≤ (u.drop i).length := fun q => takeWhile_le _
  cases hr : u[i]? with
  | none => rw [List.drop_eq_nil_of_le (List.getElem?_eq_none_iff.1 hr)] at h; cases h
  | some c =>
    have hi := (List.getElem?_eq_some_iff.1 hr).1
    rw [drop_cons hr] at h hd tw
    have tw1 := tw (fun c => letter c || digit c)
    have tw2 := tw digit
    rw [hd] at tw1 tw2
    simp only [tokL] at h
    split at h
    · rename_i hl
      have h1 : 1 ≤ ((c :: u.drop (i + 1)).takeWhile fun c => letter c || digit c).length := by rw [List.takeWhile_cons, if_pos (by simp [hl])]; simp
      split at h
      · cases h; dsimp only; exact ⟨h1, by omega, by omega⟩
      · split at h
        · cases h; dsimp only; exact ⟨h1, by omega, by omega⟩
        · cases h
    · split at h
      · rename_i hl
        have h1 : 1 ≤ ((c :: u.drop (i + 1)).takeWhile digit).length := by rw [List.takeWhile_cons, if_pos hl]; simp
        split at h
        · cases h; dsimp only; exact ⟨h1, by omega, by omega⟩
        · cases h
      · split at h
        · split at h
          · rename_i p hq
            have := quote_len _ _ p (Nat.le_refl _) hq
            rw [List.length_drop] at this
            split at h
            · cases h; exact ⟨by show 1 ≤ p.2 + 1; omega, by show i + (p.2 + 1) ≤ _; omega, by show p.1.length ≤ _; omega⟩
            · cases h
          · cases h
        · split at h
          · rename_i hq
            cases h; dsimp only
            refine ⟨by omega, by omega, ?_⟩
            have : ((c :: u.drop (i + 1)).take 2).length ≤ 2 := by rw [List.length_take]; omega
            show ((c :: u.drop (i + 1)).take 2).length ≤ _; omega
          · split at h
            · cases h; dsimp only
              refine ⟨by omega, by omega, ?_⟩
              have : ((c :: u.drop (i + 1)).take 1).length ≤ 1 := by rw [List.length_take]; omega
              show ((c :: u.drop (i + 1)).take 1).length ≤ _; omega
            · cases h
end Go.Lex
namespace Go.Lex
theorem toks_tok {u : List UInt8} {j k : Nat} {p : Int × List UInt8 × Nat} (h : skipN u j < u.length) (ht : tokL (u.drop (skipN u j)) = some p) : toksL u (k + 1) j = ((p.1, p.2.1, (skipN u j : Int)) :: (toksL u k (skipN u j + p.2.2)).1, (toksL u k (skipN u j + p.2.2)).2) := by
  simp only [toksL]; rw [if_pos h, ht]
theorem toks_bad {u : List UInt8} {j k : Nat} (h : skipN u j < u.length) (ht : tokL (u.drop (skipN u j)) = none) : toksL u (k + 1) j = ([], some (skipN u j)) := by
  simp only [toksL]; rw [if_pos h, ht]
theorem toks_end {u : List UInt8} {j k : Nat} (h : u.length ≤ skipN u j) : toksL u (k + 1) j = ([], none) := by
  simp only [toksL]; rw [if_neg (by omega)]
end Go.Lex

/- Plain words about tokens: what a text after the source changes. -/

namespace Go.Lex
open Go.Lib Go.Sb

theorem takeWhile_app {q : UInt8 → Bool} {d : UInt8} (hd : q d = false) (y : List UInt8) : ∀ l : List UInt8, (l ++ d :: y).takeWhile q = l.takeWhile q
  | [] => by simp [List.takeWhile_cons, hd]
  | c :: r => by
    rw [List.cons_append, List.takeWhile_cons, List.takeWhile_cons, takeWhile_app hd y r]
theorem quote_app (z : List UInt8) : ∀ (n : Nat) (r : List UInt8) (p : List UInt8 × Nat), r.length ≤ n → quoteL r = some p → quoteL (r ++ z) = some p
  | _, [], p, _, h => by cases h
  | _, [c], p, _, h => by
    simp only [quoteL] at h
    split at h
    · rename_i hc; cases h
      subst hc
      cases z <;> simp [quoteL]
    · cases h
  | 0, c :: d :: t, p, hl, h => by simp at hl
  | n + 1, c :: d :: t, p, hl, h => by
    simp only [List.length_cons] at hl
    simp only [quoteL, List.cons_append] at h ⊢
    split at h
    · rename_i hc; rw [if_pos hc]; exact h
    · rename_i hc; rw [if_neg hc]
      split at h
      · rename_i h9; rw [if_pos h9]
        split at h
        · rename_i hd; rw [if_pos hd]
          obtain ⟨q, hq, rfl⟩ := Option.map_eq_some_iff.1 h
          rw [quote_app z n t q (by omega) hq]; rfl
        · cases h
      · rename_i h9; rw [if_neg h9]
        obtain ⟨q, hq, rfl⟩ := Option.map_eq_some_iff.1 h
        have := quote_app z n (d :: t) q (by simp only [List.length_cons]; omega) hq
        rw [List.cons_append] at this
        rw [this]; rfl
/-- A byte that ends a token. -/
def endB (d : UInt8) : Prop := letter d = false ∧ digit d = false ∧ ∀ c, isSign [c, d] = false
theorem endB_hash : endB 35 := ⟨by decide, by decide, fun c => by simp [isSign, signs]⟩
theorem endB_lf : endB 10 := ⟨by decide, by decide, fun c => by simp [isSign, signs]⟩
theorem tok_app {d : UInt8} (hd : endB d) (y : List UInt8) : ∀ {l : List UInt8} {p : Int × List UInt8 × Nat}, tokL l = some p → tokL (l ++ d :: y) = some p
  | [], p, h => by cases h
  | c :: r, p, h => by
    have t1 := takeWhile_app (q := fun c => letter c || digit c) (d := d) (by simp [hd.1, hd.2.1]) y (c :: r)
    have t2 := takeWhile_app (q := digit) (d := d) hd.2.1 y (c :: r)
    rw [List.cons_append] at t1 t2 ⊢
    simp only [tokL] at h ⊢
    rw [t1, t2]
    split at h
    · rename_i hl; rw [if_pos hl]; exact h
    · rename_i hl; rw [if_neg hl]
      split at h
      · rename_i hg; rw [if_pos hg]; exact h
      · rename_i hg; rw [if_neg hg]
        split at h
        · rename_i h34; rw [if_pos h34]
          split at h
          · rename_i q hq
            rw [quote_app (d :: y) r.length r q (Nat.le_refl _) hq]; exact h
          · cases h
        · rename_i h34; rw [if_neg h34]
          cases r with
          | nil =>
            rw [if_neg (by simp)] at h
            rw [List.nil_append, if_neg (fun q => by have := hd.2.2 c; simp only [List.take_succ_cons, List.take_zero] at q; rw [q.2] at this; cases this)]
            exact h
          | cons e t =>
            by_cases q : isSign [c, e] = true
            · rw [if_pos (⟨by simp, q⟩ : 2 ≤ (c :: e :: t).length ∧ isSign ((c :: e :: t).take 2) = true)] at h
              rw [if_pos (⟨by simp, q⟩ : 2 ≤ (c :: (e :: t ++ d :: y)).length ∧ isSign ((c :: (e :: t ++ d :: y)).take 2) = true)]; exact h
            · rw [if_neg (fun w => q w.2 : ¬ (2 ≤ (c :: e :: t).length ∧ isSign ((c :: e :: t).take 2) = true))] at h
              rw [if_neg (fun w => q w.2 : ¬ (2 ≤ (c :: (e :: t ++ d :: y)).length ∧ isSign ((c :: (e :: t ++ d :: y)).take 2) = true))]; exact h

/-- What is skipped on either side of the end. -/
theorem skip_app {x : List UInt8} (h1 : skipS true x = []) (h2 : skipS false x = []) : ∀ (m : Bool) (l : List UInt8), (skipS m l ≠ [] → skipS m (l ++ x) = skipS m l ++ x) ∧ (skipS m l = [] → skipS m (l ++ x) = [])
  | true, [] => ⟨fun q => absurd rfl q, fun _ => h1⟩
  | false, [] => ⟨fun q => absurd rfl q, fun _ => h2⟩
  | false, c :: r => by
    have a := skip_app h1 h2 false r
    have b := skip_app h1 h2 true r
    rw [List.cons_append]
    simp only [skipS]
    split
    · exact a
    · split
      · exact b
      · exact ⟨fun _ => rfl, fun q => by cases q⟩
  | true, c :: r => by
    have a := skip_app h1 h2 false r
    have b := skip_app h1 h2 true r
    rw [List.cons_append]
    simp only [skipS]
    split
    · exact a
    · exact b
theorem skip_comment : ∀ (y : List UInt8), 10 ∉ y → skipS true (y ++ [10]) = []
  | [], _ => rfl
  | c :: r, h => by
    rw [List.cons_append]
    simp only [skipS]
    rw [if_neg (fun e => h (by simp [e]))]
    exact skip_comment r (fun q => h (List.mem_cons_of_mem _ q))
theorem skipN_app_lt {u x : List UInt8} {j : Nat} (h1 : skipS true x = []) (h2 : skipS false x = []) (hj : j ≤ u.length) (hs : skipN u j < u.length) : skipN (u ++ x) j = skipN u j := by
  have hd : (u ++ x).drop j = u.drop j ++ x := by rw [List.drop_append_of_le_length hj]
  have k := skipN_drop hj
  have hne : skipS false (u.drop j) ≠ [] := by
    rw [k]; intro q; have := congrArg List.length q; simp at this; omega
  refine skipN_of (by simp; omega) ?_
  rw [hd, (skip_app h1 h2 false _).1 hne, k, List.drop_append_of_le_length (by omega)]
theorem skipN_app_ge {u x : List UInt8} {j : Nat} (h1 : skipS true x = []) (h2 : skipS false x = []) (hj : j ≤ u.length) (hs : u.length ≤ skipN u j) : skipN (u ++ x) j = (u ++ x).length := by
  have hd : (u ++ x).drop j = u.drop j ++ x := by rw [List.drop_append_of_le_length hj]
  have k := skipN_drop hj
  rw [List.drop_eq_nil_of_le hs] at k
  unfold skipN
  rw [hd, (skip_app h1 h2 false _).2 k]; rfl
/-- Tokens stay as they are when blanks or a comment follow the source. -/
theorem toks_app {u : List UInt8} {d : UInt8} {y : List UInt8} (hd : endB d) (h1 : skipS true (d :: y) = []) (h2 : skipS false (d :: y) = []) : ∀ (k k' j : Nat) (ts : List (Int × List UInt8 × Int)), u.length < k + j → (u ++ d :: y).length < k' + j → j ≤ u.length → toksL u k j = (ts, none) → toksL (u ++ d :: y) k' j = (ts, none)
  | 0, _, j, ts, hk, _, hj, _ => by omega
  | k + 1, 0, j, ts, _, hk', hj, _ => by simp at hk'; omega
  | k + 1, k' + 1, j, ts, hk, hk', hj, h => by
    have hle := skipN_ge hj
    by_cases hs : skipN u j < u.length
    · have e := skipN_app_lt h1 h2 hj hs
      cases ht : tokL (u.drop (skipN u j)) with
      | none => rw [toks_bad hs ht] at h; cases h
      | some p =>
        have hp := tok_len ht
        rw [toks_tok hs ht] at h
        have ht2 : tokL ((u ++ d :: y).drop (skipN (u ++ d :: y) j)) = some p := by
          rw [e, List.drop_append_of_le_length (by omega)]; exact tok_app hd y ht
        rw [toks_tok (by rw [e]; simp; omega) ht2, e]
        simp only [Prod.mk.injEq] at h
        have ih := toks_app hd h1 h2 k k' (skipN u j + p.2.2) (toksL u k (skipN u j + p.2.2)).1 (by omega) (by simp only [List.length_append, List.length_cons] at hk' ⊢; omega) (by omega) (Prod.ext rfl h.2)
        rw [ih]; exact Prod.ext h.1 rfl
    · rw [toks_end (by omega)] at h
      have e := skipN_app_ge h1 h2 hj (by omega)
      rw [toks_end (by omega)]; exact h
end Go.Lex

/- Plain words about tokens: two sources with a line feed between. -/

namespace Go.Lex
open Go.Lib Go.Sb

/-- A quote that is not closed ahead of a line feed has it in its text. -/
theorem quote_lf (z : List UInt8) : ∀ (n : Nat) (r : List UInt8) (p : List UInt8 × Nat), r.length ≤ n → quoteL r = none → quoteL (r ++ 10 :: z) = some p → (10 : UInt8) ∈ p.1 := by
  have base : ∀ p, quoteL (10 :: z) = some p → (10 : UInt8) ∈ p.1 := fun p h => by
    cases z with
    | nil => simp [quoteL] at h
    | cons d t =>
      simp only [quoteL] at h
      rw [if_neg (by decide), if_neg (by decide)] at h
      obtain ⟨q, _, rfl⟩ := Option.map_eq_some_iff.1 h
      simp
  intro n
  induction n with
  | zero =>
    intro r p hl _ h
    cases r with
    | nil => exact base p h
    | cons c r => simp at hl
  | succ n ih =>
    intro r p hl hn h
    match r, hl, hn, h with
    | [], _, _, h => exact base p h
    | [c], _, hn, h =>
      simp only [quoteL] at hn
      have hc : c ≠ 34 := fun e => by rw [if_pos e] at hn; cases hn
      simp only [List.cons_append, List.nil_append, quoteL] at h
      rw [if_neg hc] at h
      split at h
      · rw [if_neg (by decide)] at h; cases h
      · obtain ⟨q, hq, rfl⟩ := Option.map_eq_some_iff.1 h
        exact List.mem_cons_of_mem _ (base q hq)
    | c :: d :: t, hl, hn, h =>
      simp only [List.length_cons] at hl
      simp only [List.cons_append, quoteL] at hn h
      split at hn
      · cases hn
      · rename_i hc
        rw [if_neg hc] at h
        split at hn
        · rename_i h9
          rw [if_pos h9] at h
          split at hn
          · rename_i hd
            rw [if_pos hd] at h
            obtain ⟨q, hq, rfl⟩ := Option.map_eq_some_iff.1 h
            exact List.mem_cons_of_mem _ (ih t q (by omega) (by simpa using hn) hq)
          · rename_i hd
            rw [if_neg hd] at h; cases h
        · rename_i h9
          rw [if_neg h9] at h
          obtain ⟨q, hq, rfl⟩ := Option.map_eq_some_iff.1 h
          exact List.mem_cons_of_mem _ (ih (d :: t) q (by simp only [List.length_cons]; omega) (by simpa using hn) (by rw [List.cons_append]; exact hq))
/-- What is no token stays none ahead of a line feed. -/
theorem tok_none_lf (z : List UInt8) : ∀ {l : List UInt8}, l ≠ [] → tokL l = none → tokL (l ++ 10 :: z) = none
  | [], h, _ => absurd rfl h
  | c :: r, _, h => by
    have t1 := takeWhile_app (q := fun c => letter c || digit c) (d := 10) (by decide) z (c :: r)
    have t2 := takeWhile_app (q := digit) (d := 10) (by decide) z (c :: r)
    rw [List.cons_append] at t1 t2 ⊢
    simp only [tokL] at h ⊢
    rw [t1, t2]
    split at h
    · rename_i hl; rw [if_pos hl]; exact h
    · rename_i hl; rw [if_neg hl]
      split at h
      · rename_i hg; rw [if_pos hg]; exact h
      · rename_i hg; rw [if_neg hg]
        split at h
        · rename_i h34; rw [if_pos h34]
          split at h
          · rename_i q hq
            rw [quote_app (10 :: z) r.length r q (Nat.le_refl _) hq]; exact h
          · rename_i hq
            cases hv : quoteL (r ++ 10 :: z) with
            | none => rfl
            | some p =>
              have := quote_lf z r.length r p (Nat.le_refl _) hq hv
              show (if isText p.1 = true then _ else none) = none
              rw [if_neg (fun e => by
                simp only [isText, Bool.and_eq_true, List.all_eq_true] at e
                exact absurd (e.1 10 this) (by decide))]
        · rename_i h34; rw [if_neg h34]
          cases r with
          | nil =>
            rw [if_neg (by simp)] at h
            rw [List.nil_append, if_neg (fun q => by have := endB_lf.2.2 c; simp only [List.take_succ_cons, List.take_zero] at q; rw [q.2] at this; cases this)]
            exact h
          | cons e t =>
            by_cases q : isSign [c, e] = true
            · rw [if_pos (⟨by simp, q⟩ : 2 ≤ (c :: e :: t).length ∧ isSign ((c :: e :: t).take 2) = true)] at h; cases h
            · rw [if_neg (fun w => q w.2 : ¬ (2 ≤ (c :: e :: t).length ∧ isSign ((c :: e :: t).take 2) = true))] at h
              rw [if_neg (fun w => q w.2 : ¬ (2 ≤ (c :: (e :: t ++ 10 :: z)).length ∧ isSign ((c :: (e :: t ++ 10 :: z)).take 2) = true))]; exact h
/-- What is skipped, with a line feed and more behind. -/
theorem skip_lf_app (w : List UInt8) : ∀ (m : Bool) (l : List UInt8), (skipS m l ≠ [] → skipS m (l ++ 10 :: w) = skipS m l ++ 10 :: w) ∧ (skipS m l = [] → skipS m (l ++ 10 :: w) = skipS false w)
  | true, [] => ⟨fun q => absurd rfl q, fun _ => by simp only [List.nil_append, skipS]; rw [if_pos trivial]⟩
  | false, [] => ⟨fun q => absurd rfl q, fun _ => by simp only [List.nil_append, skipS]; rw [if_pos (by decide)]⟩
  | false, c :: r => by
    have a := skip_lf_app w false r
    have b := skip_lf_app w true r
    rw [List.cons_append]
    simp only [skipS]
    split
    · exact a
    · split
      · exact b
      · exact ⟨fun _ => rfl, fun q => by cases q⟩
  | true, c :: r => by
    have a := skip_lf_app w false r
    have b := skip_lf_app w true r
    rw [List.cons_append]
    simp only [skipS]
    split
    · exact a
    · exact b
theorem skipN_lf_lt {u w : List UInt8} {j : Nat} (hj : j ≤ u.length) (hs : skipN u j < u.length) : skipN (u ++ 10 :: w) j = skipN u j := by
  have hd : (u ++ 10 :: w).drop j = u.drop j ++ 10 :: w := by rw [List.drop_append_of_le_length hj]
  have k := skipN_drop hj
  have hne : skipS false (u.drop j) ≠ [] := by
    rw [k]; intro q; have := congrArg List.length q; simp at this; omega
  refine skipN_of (by simp; omega) ?_
  rw [hd, (skip_lf_app w false _).1 hne, k, List.drop_append_of_le_length (by omega)]
theorem skipN_lf_ge {u w : List UInt8} {j : Nat} (hj : j ≤ u.length) (hs : u.length ≤ skipN u j) : skipN (u ++ 10 :: w) j = u.length + 1 + skipN w 0 := by
  have hd : (u ++ 10 :: w).drop j = u.drop j ++ 10 :: w := by rw [List.drop_append_of_le_length hj]
  have k := skipN_drop hj
  rw [List.drop_eq_nil_of_le hs] at k
  have h := skip_len false w
  unfold skipN
  rw [hd, (skip_lf_app w false _).2 k, List.drop_zero]
  simp only [List.length_append, List.length_cons]; omega
/-- Places moved on. -/
def moved (n : Nat) (r : List (Int × List UInt8 × Int) × Option Nat) : List (Int × List UInt8 × Int) × Option Nat := (r.1.map fun t => (t.1, t.2.1, t.2.2 + n), r.2.map fun a => n + a)
theorem skipN_shift {q w : List UInt8} {j : Nat} (hj : j ≤ w.length) : skipN (q ++ w) (q.length + j) = q.length + skipN w j := by
  have hd : (q ++ w).drop (q.length + j) = w.drop j := by rw [← List.drop_drop, List.drop_left]
  unfold skipN
  rw [hd]
  have := skip_len false (w.drop j)
  rw [List.length_drop] at this
  simp only [List.length_append]; omega
theorem toks_shift {q w : List UInt8} : ∀ (k k' j : Nat), w.length < k + j → w.length < k' + j → j ≤ w.length → toksL (q ++ w) k' (q.length + j) = moved q.length (toksL w k j)
  | 0, _, j, h, _, hj => by omega
  | k + 1, 0, j, _, h, hj => by omega
  | k + 1, k' + 1, j, h, h', hj => by
    have e := skipN_shift (q := q) hj
    have hle := skipN_ge hj
    have hd : (q ++ w).drop (q.length + skipN w j) = w.drop (skipN w j) := by rw [← List.drop_drop, List.drop_left]
    by_cases hs : skipN w j < w.length
    · cases ht : tokL (w.drop (skipN w j)) with
      | none =>
        rw [toks_bad hs ht, toks_bad (by rw [e]; simp; omega) (by rw [e, hd]; exact ht), e]; rfl
      | some p =>
        have hp := tok_len ht
        rw [toks_tok hs ht, toks_tok (by rw [e]; simp; omega) (by rw [e, hd]; exact ht), e]
        have ih := toks_shift (q := q) (w := w) k k' (skipN w j + p.2.2) (by omega) (by omega) (by omega)
        rw [← Nat.add_assoc] at ih
        rw [ih]
        simp only [moved, List.map_cons]
        congr 2
        show (p.1, p.2.1, ((q.length + skipN w j : Nat) : Int)) = (p.1, p.2.1, (skipN w j : Int) + (q.length : Int))
        rw [show ((q.length + skipN w j : Nat) : Int) = (skipN w j : Int) + (q.length : Int) from by omega]
    · rw [toks_end (u := w) (j := j) (by omega), toks_end (u := q ++ w) (by rw [e]; simp; omega)]; rfl
/-- The tokens of two sources with a line feed between them. -/
theorem toks_parts {u w : List UInt8} : ∀ (k k' j : Nat), u.length < k + j → (u ++ 10 :: w).length < k' + j → j ≤ u.length →
    toksL (u ++ 10 :: w) k' j = match toksL u k j with
      | (ts, some a) => (ts, some a)
      | (ts, none) => (ts ++ (moved (u.length + 1) (toksL w (w.length + 1) 0)).1, (moved (u.length + 1) (toksL w (w.length + 1) 0)).2)
  | 0, _, j, h, _, hj => by omega
  | k + 1, 0, j, _, h, hj => by simp at h; omega
  | k + 1, k' + 1, j, h, h', hj => by
    have hle := skipN_ge hj
    by_cases hs : skipN u j < u.length
    · have e := skipN_lf_lt (w := w) hj hs
      have hd : (u ++ 10 :: w).drop (skipN u j) = u.drop (skipN u j) ++ 10 :: w := by rw [List.drop_append_of_le_length (by omega)]
      cases ht : tokL (u.drop (skipN u j)) with
      | none =>
        have hne : u.drop (skipN u j) ≠ [] := fun q => by have := congrArg List.length q; simp at this; omega
        rw [toks_bad hs ht, toks_bad (by rw [e]; simp; omega) (by rw [e, hd]; exact tok_none_lf w hne ht), e]
      | some p =>
        have hp := tok_len ht
        rw [toks_tok hs ht, toks_tok (by rw [e]; simp; omega) (by rw [e, hd]; exact tok_app endB_lf w ht), e]
        have ih := toks_parts (u := u) (w := w) k k' (skipN u j + p.2.2) (by omega) (by simp only [List.length_append, List.length_cons] at h' ⊢; omega) (by omega)
        rw [ih]
        cases hT : toksL u k (skipN u j + p.2.2) with
        | mk ts o => cases o <;> rfl
    · have e := skipN_lf_ge (w := w) hj (by omega)
      rw [toks_end (u := u) (j := j) (by omega)]
      have sh := toks_shift (q := u ++ [10]) (w := w) (w.length + 1) (k' + 1) 0 (by omega) (by simp only [List.length_append, List.length_cons] at h'; omega) (by omega)
      rw [List.append_assoc, Nat.add_zero] at sh
      have el : (u ++ [10]).length = u.length + 1 := by simp
      rw [el] at sh
      show toksL (u ++ 10 :: w) (k' + 1) j = ([] ++ (moved (u.length + 1) (toksL w (w.length + 1) 0)).1, (moved (u.length + 1) (toksL w (w.length + 1) 0)).2)
      rw [List.nil_append]
      refine Eq.trans ?_ sh
      have e2 : skipN (u ++ 10 :: w) (u.length + 1) = u.length + 1 + skipN w 0 := by
        have := skipN_shift (q := u ++ [10]) (w := w) (j := 0) (by omega)
        rw [List.append_assoc, Nat.add_zero, el] at this; exact this
      show toksL (u ++ 10 :: w) (k' + 1) j = toksL (u ++ 10 :: w) (k' + 1) (u.length + 1)
      simp only [toksL]; rw [e, e2]
end Go.Lex

/- Plain words about tokens: the text of a token stands in the source, at its place. -/

namespace Go.Lex
open Go.Lib Go.Sb

/-- What kind of text a token of a kind may have. -/
def tokOk (k : Int) (t : List UInt8) : Prop :=
  (k = 1 ∧ isName t = true) ∨ (k = 2 ∧ isNumeral t = true) ∨ (k = 3 ∧ isText t = true) ∨ (k = 4 ∧ isSign t = true) ∨ (k = 5 ∧ isWord t = true)
/-- How a token stands in a source. -/
def shown (k : Int) (t : List UInt8) : List UInt8 := if k = 3 then quote t else t

theorem shown_same {k : Int} {t : List UInt8} (h : k ≠ 3) : shown k t = t := by unfold shown; rw [if_neg h]
theorem quote_stands : ∀ (n : Nat) (l : List UInt8) (p : List UInt8 × Nat), l.length ≤ n → quoteL l = some p → (∀ c ∈ p.1, True) → l.take p.2 = p.1.flatMap esc ++ [34] ∧ (p.1.flatMap esc).length + 1 = p.2
  | _, [], p, hl, h, _ => by cases h
  | n, [c], p, hl, h, _ => by
    simp only [quoteL] at h
    split at h
    · rename_i hc; cases h; subst hc; simp
    · cases h
  | 0, c :: d :: t, p, hl, h, _ => by simp at hl
  | n + 1, c :: d :: t, p, hl, h, _ => by
    simp only [quoteL] at h
    split at h
    · rename_i hc; cases h; subst hc; simp
    · rename_i hc
      split at h
      · rename_i h92
        split at h
        · rename_i hd
          obtain ⟨q, hq, rfl⟩ := Option.map_eq_some_iff.1 h
          obtain ⟨a, b⟩ := quote_stands n t q (by simp at hl; omega) hq (fun _ _ => trivial)
          have he : esc d = [92, d] := by unfold esc; rw [if_pos hd]
          subst h92
          refine ⟨?_, ?_⟩
          · rw [List.flatMap_cons, he]
            show List.take (q.2 + 2) (92 :: d :: t) = _
            rw [List.take_succ_cons, List.take_succ_cons, a]; rfl
          · rw [List.flatMap_cons, he]; simp only [List.length_append, List.length_cons, List.length_nil]; omega
        · cases h
      · rename_i h92
        obtain ⟨q, hq, rfl⟩ := Option.map_eq_some_iff.1 h
        obtain ⟨a, b⟩ := quote_stands n (d :: t) q (by simp at hl ⊢; omega) hq (fun _ _ => trivial)
        have he : esc c = [c] := by unfold esc; rw [if_neg (by rintro (q | q); exact hc q; exact h92 q)]
        refine ⟨?_, ?_⟩
        · rw [List.flatMap_cons, he]
          show List.take (q.2 + 1) (c :: d :: t) = _
          rw [List.take_succ_cons, a]; rfl
        · rw [List.flatMap_cons, he]; simp only [List.length_append, List.length_cons, List.length_nil]; omega

/-- A token is a good one, and stands at its place. -/
theorem tok_stands : ∀ {l : List UInt8} {p : Int × List UInt8 × Nat}, tokL l = some p → tokOk p.1 p.2.1 ∧ l.take p.2.2 = shown p.1 p.2.1 ∧ (shown p.1 p.2.1).length = p.2.2
  | [], p, h => by cases h
  | c :: r, p, h => by
    have tw : ∀ q : UInt8 → Bool, (c :: r).take ((c :: r).takeWhile q).length = (c :: r).takeWhile q := fun q => (takeWhile_take _).symm
    simp only [tokL] at h
    split at h
    · split at h
      · rename_i hw
        cases h
        exact ⟨.inr (.inr (.inr (.inr ⟨rfl, hw⟩))), (tw _).trans (shown_same (k := 5) (by decide)).symm, congrArg List.length (shown_same (k := 5) (by decide))⟩
      · split at h
        · rename_i hw
          cases h
          exact ⟨.inl ⟨rfl, hw⟩, (tw _).trans (shown_same (k := 1) (by decide)).symm, congrArg List.length (shown_same (k := 1) (by decide))⟩
        · cases h
    · split at h
      · split at h
        · rename_i hw
          cases h
          exact ⟨.inr (.inl ⟨rfl, hw⟩), (tw _).trans (shown_same (k := 2) (by decide)).symm, congrArg List.length (shown_same (k := 2) (by decide))⟩
        · cases h
      · split at h
        · rename_i hc
          split at h
          · rename_i q hq
            split at h
            · rename_i ht
              cases h
              obtain ⟨a, b⟩ := quote_stands _ r q (Nat.le_refl _) hq (fun _ _ => trivial)
              subst hc
              refine ⟨.inr (.inr (.inl ⟨rfl, ht⟩)), ?_, ?_⟩
              · unfold shown quote; rw [if_pos rfl]
                show List.take (q.2 + 1) (34 :: r) = _
                rw [List.take_succ_cons, a]
              · unfold shown quote; rw [if_pos rfl]
                simp only [List.length_append, List.length_cons, List.length_nil]; omega
            · cases h
          · cases h
        · split at h
          · rename_i hq
            cases h
            refine ⟨.inr (.inr (.inr (.inl ⟨rfl, hq.2⟩))), (shown_same (k := 4) (by decide)).symm, ?_⟩
            refine (congrArg List.length (shown_same (k := 4) (by decide))).trans ?_; rw [List.length_take]
            have := hq.1
            show min 2 _ = 2; omega
          · split at h
            · rename_i hq
              cases h
              refine ⟨.inr (.inr (.inr (.inl ⟨rfl, hq⟩))), (shown_same (k := 4) (by decide)).symm, ?_⟩
              refine (congrArg List.length (shown_same (k := 4) (by decide))).trans ?_; rw [List.length_take]; simp
            · cases h

/-- One step within blanks and comments. -/
theorem skip_step {u : List UInt8} {k j : Nat} {c : UInt8} {m : Bool} (hk : k < j) (hc : u[k]? = some c) (h : skipS m (u.drop k) = u.drop j) (hj : j ≤ u.length) :
    (m = true ∧ c ≠ 10 ∧ skipS true (u.drop (k + 1)) = u.drop j) ∨ (m = true ∧ c = 10 ∧ skipS false (u.drop (k + 1)) = u.drop j) ∨ (m = false ∧ c = 35 ∧ skipS true (u.drop (k + 1)) = u.drop j) ∨ (m = false ∧ c ≠ 35 ∧ blankB c = true ∧ skipS false (u.drop (k + 1)) = u.drop j) := by
  rw [drop_cons hc] at h
  cases m with
  | true =>
    simp only [skipS] at h
    by_cases e : c = 10
    · rw [if_pos e] at h; exact .inr (.inl ⟨rfl, e, h⟩)
    · rw [if_neg e] at h; exact .inl ⟨rfl, e, h⟩
  | false =>
    simp only [skipS] at h
    by_cases b : blankB c = true
    · rw [if_pos b] at h
      exact .inr (.inr (.inr ⟨rfl, fun e => by subst e; revert b; decide, b, h⟩))
    · rw [if_neg b] at h
      by_cases e : c = 35
      · rw [if_pos e] at h; exact .inr (.inr (.inl ⟨rfl, e, h⟩))
      · rw [if_neg e] at h
        have := congrArg List.length h
        simp only [List.length_cons, List.length_drop] at this
        have := (List.getElem?_eq_some_iff.1 hc).1
        omega
/-- Behind a comment that does not end nothing stands. -/
theorem skip_true_end {u : List UInt8} {j : Nat} (h : skipS true (u.drop j) = u.drop j) : u.length ≤ j := by
  by_cases e : u.length ≤ j
  · exact e
  · obtain ⟨c, hc⟩ : ∃ c, u[j]? = some c := ⟨_, List.getElem?_eq_getElem (by omega)⟩
    rw [drop_cons hc] at h
    have h1 := skip_len false (u.drop (j + 1))
    have h2 := skip_len true (u.drop (j + 1))
    simp only [skipS] at h
    split at h
    · rw [h] at h1; simp at h1; omega
    · rw [h] at h2; simp at h2; omega

theorem tok_short {l : List UInt8} {p : Int × List UInt8 × Nat} (h : tokL l = some p) : (shown p.1 p.2.1).length ≤ l.length := by
  obtain ⟨_, h2, h3⟩ := tok_stands h
  have := congrArg List.length h2
  rw [List.length_take] at this
  omega
/-- Where a list of tokens stands: from a place on. -/
def standsAt (u : List UInt8) (L : List (Int × List UInt8 × Int)) (i j : Nat) : Prop :=
  ∃ n ts, u.length < n + j ∧ toksL u n j = (ts, none) ∧ L.drop i = ts ++ [(6, [], (u.length : Int))]
/-- A token of the list, and what stands ahead of it. -/
theorem stands_step {u : List UInt8} {L : List (Int × List UInt8 × Int)} {i j : Nat} (hj : j ≤ u.length) (hi : i < L.length) (h : standsAt u L i j) :
    ∃ (k : Int) (t : List UInt8) (q : Nat), L[i]? = some (k, t, (q : Int)) ∧ j ≤ q ∧ q ≤ u.length ∧ skipS false (u.drop j) = u.drop q ∧ q + (shown k t).length ≤ u.length ∧ (u.drop q).take (shown k t).length = shown k t ∧
      (tokOk k t ∨ (k = 6 ∧ t = [])) ∧ (k = 6 ↔ i + 1 = L.length) ∧ t.length ≤ u.length ∧ (i + 1 < L.length → q < u.length) ∧ (i + 1 = L.length → q = u.length) ∧ (i + 1 < L.length → standsAt u L (i + 1) (q + (shown k t).length)) := by
  obtain ⟨n, ts, hn, ht, hL⟩ := h
  have hlen := congrArg List.length hL
  rw [List.length_drop, List.length_append] at hlen
  simp only [List.length_cons, List.length_nil] at hlen
  have hdrop : skipS false (u.drop j) = u.drop (skipN u j) := skipN_drop hj
  have hle := skipN_le u j
  have hge := skipN_ge hj
  have hget : L[i]? = (L.drop i)[0]? := by rw [List.getElem?_drop]; rfl
  cases n with
  | zero => omega
  | succ n =>
    by_cases hs : skipN u j < u.length
    · cases hk : tokL (u.drop (skipN u j)) with
      | none => rw [toks_bad hs hk] at ht; cases ht
      | some p =>
        rw [toks_tok hs hk] at ht
        obtain ⟨h1, h2⟩ := Prod.mk.inj ht
        obtain ⟨s1, s2, s3⟩ := tok_stands hk
        have s4 := tok_len hk
        rw [← h1, List.cons_append] at hL
        rw [← h1, List.length_cons] at hlen
        have hk6 : p.1 ≠ 6 := fun e => by
          rcases s1 with ⟨q, _⟩ | ⟨q, _⟩ | ⟨q, _⟩ | ⟨q, _⟩ | ⟨q, _⟩ <;> rw [e] at q <;> exact absurd q (by decide)
        refine ⟨p.1, p.2.1, skipN u j, by rw [hget, hL]; rfl, hge, hle, hdrop, by rw [s3]; exact s4.2.1, by rw [s3]; exact s2, .inl s1, ⟨fun e => absurd e hk6, fun e => by omega⟩, s4.2.2, fun _ => hs, fun e => by omega, fun _ => ?_⟩
        rw [s3]
        refine ⟨n, (toksL u n (skipN u j + p.2.2)).1, by omega, ?_, ?_⟩
        · rw [← h2]
        · rw [← List.drop_drop, hL]; rfl
    · rw [toks_end (by omega)] at ht
      obtain ⟨h1, _⟩ := Prod.mk.inj ht
      subst h1
      simp only [List.length_nil] at hlen
      refine ⟨6, [], u.length, by rw [hget, hL]; rfl, hj, Nat.le_refl _, by rw [hdrop, List.drop_eq_nil_of_le (by omega), List.drop_eq_nil_of_le (Nat.le_refl _)], ?_, ?_, .inr ⟨rfl, rfl⟩, ⟨fun _ => by omega, fun _ => rfl⟩, by simp, fun e => by omega, fun _ => rfl, fun e => by omega⟩
      · rw [shown_same (by decide)]; simp
      · rw [shown_same (by decide)]; rfl
end Go.Lex

/- Plain words about tokens: the texts of tokens, joined by blanks, have these tokens. -/

namespace Go.Lex
open Go.Lib Go.Sb

/-- The texts of tokens, with blanks between them. -/
def joinT : List (Int × List UInt8 × Int) → List UInt8
  | [] => []
  | [t] => shown t.1 t.2.1
  | t :: ts => shown t.1 t.2.1 ++ 32 :: joinT ts

/-- Behind a token: nothing, or a blank. -/
def endT (r : List UInt8) : Prop := r = [] ∨ ∃ q, r = 32 :: q

theorem takeWhile_end {p : UInt8 → Bool} (h32 : p 32 = false) {r : List UInt8} (hr : endT r) : ∀ t : List UInt8, t.all p = true → (t ++ r).takeWhile p = t
  | [], _ => by
    rcases hr with rfl | ⟨q, rfl⟩
    · rfl
    · rw [List.nil_append, List.takeWhile_cons, if_neg (by simp [h32])]
  | c :: t, h => by
    simp only [List.all_cons, Bool.and_eq_true] at h
    rw [List.cons_append, List.takeWhile_cons, if_pos h.1, takeWhile_end h32 hr t h.2]

theorem quote_step {c : UInt8} {l : List UInt8} (hl : l ≠ []) (h1 : c ≠ 34) (h2 : c ≠ 92) : quoteL (c :: l) = (quoteL l).map (fun p => (c :: p.1, p.2 + 1)) := by
  cases l with
  | nil => exact absurd rfl hl
  | cons d t => simp [quoteL, h1, h2]
theorem quote_close' (r : List UInt8) : quoteL (34 :: r) = some ([], 1) := by cases r <;> simp [quoteL]
theorem quote_of (r : List UInt8) : ∀ t : List UInt8, quoteL (t.flatMap esc ++ 34 :: r) = some (t, (t.flatMap esc).length + 1)
  | [] => by rw [List.flatMap_nil, List.nil_append, quote_close']; rfl
  | c :: t => by
    have ih := quote_of r t
    rw [List.flatMap_cons]
    by_cases h : c = 34 ∨ c = 92
    · have he : esc c = [92, c] := by unfold esc; rw [if_pos h]
      rw [he]
      show quoteL (92 :: c :: (t.flatMap esc ++ 34 :: r)) = _
      simp only [quoteL]
      rw [if_neg (by decide), if_pos trivial, if_pos h, ih]
      simp only [Option.map_some, List.length_append, List.length_cons, List.length_nil]
      congr 2; omega
    · have he : esc c = [c] := by unfold esc; rw [if_neg h]
      rw [he]
      show quoteL (c :: (t.flatMap esc ++ 34 :: r)) = _
      rw [quote_step (by simp) (fun q => h (.inl q)) (fun q => h (.inr q)), ih]
      simp only [Option.map_some, List.length_append, List.length_cons, List.length_nil]
      congr 2; omega

theorem dig_letter {c : UInt8} (h : digit c = true) : letter c = false := by
  have := dig_of h
  simp [letter]; omega
theorem run_cons {t : List UInt8} (h : isRun t = true) : ∃ c r, t = c :: r ∧ letter c = true ∧ t.all (fun c => letter c || digit c) = true := by
  cases t with
  | nil => cases h
  | cons c r =>
    simp only [isRun, Bool.and_eq_true] at h
    exact ⟨c, r, rfl, h.1, by simp only [List.all_cons, h.1, h.2]; rfl⟩
theorem word_run {t : List UInt8} (h : isWord t = true) : isRun t = true := by
  have hm : t ∈ words := by simpa [isWord] using h
  have := List.all_eq_true.1 words_run t hm
  simp only [Bool.and_eq_true] at this
  exact this.1.1
/-- What begins a token's text. -/
def startB (c : UInt8) : Prop := blankB c = false ∧ c ≠ 35
theorem letter_start {c : UInt8} (h : letter c = true) : startB c := by
  simp only [letter, Bool.and_eq_true, decide_eq_true_eq] at h
  have ne : ∀ d : UInt8, d.toNat < 97 → c ≠ d := fun d hd q => by subst q; omega
  refine ⟨?_, ne 35 (by decide)⟩
  simp only [blankB, decide_eq_false_iff_not]
  rintro (q | q | q | q)
  · exact ne 32 (by decide) q
  · exact ne 9 (by decide) q
  · exact ne 10 (by decide) q
  · exact ne 13 (by decide) q
theorem digit_start {c : UInt8} (h : digit c = true) : startB c := by
  have h := dig_of h
  have ne : ∀ d : UInt8, d.toNat < 48 → c ≠ d := fun d hd q => by subst q; omega
  refine ⟨?_, ne 35 (by decide)⟩
  simp only [blankB, decide_eq_false_iff_not]
  rintro (q | q | q | q)
  · exact ne 32 (by decide) q
  · exact ne 9 (by decide) q
  · exact ne 10 (by decide) q
  · exact ne 13 (by decide) q

/-- A token's text, with a blank or nothing behind it, is this token. -/
theorem tok_of {k : Int} {t r : List UInt8} (ht : tokOk k t) (hr : endT r) : tokL (shown k t ++ r) = some (k, t, (shown k t).length) ∧ ∃ c q, shown k t = c :: q ∧ startB c := by
  rcases ht with ⟨rfl, h⟩ | ⟨rfl, h⟩ | ⟨rfl, h⟩ | ⟨rfl, h⟩ | ⟨rfl, h⟩
  · rw [shown_same (by decide)]
    have hn := h
    simp only [isName, Bool.and_eq_true, Bool.not_eq_true'] at hn
    obtain ⟨c, q, rfl, hl, hall⟩ := run_cons hn.1.1
    have tw := takeWhile_end (p := fun c => letter c || digit c) (by decide) hr (c :: q) hall
    refine ⟨?_, c, q, rfl, letter_start hl⟩
    rw [List.cons_append] at tw ⊢
    simp only [tokL]
    rw [tw, if_pos hl, if_neg (by simp [hn.2]), if_pos h]
  · rw [shown_same (by decide)]
    have hn := h
    simp only [isNumeral, Bool.and_eq_true, Bool.not_eq_true'] at hn
    cases t with
    | nil => simp at hn
    | cons c q =>
      have hd : digit c = true := by have := hn.1.1.2; simp only [List.all_cons, Bool.and_eq_true] at this; exact this.1
      have tw := takeWhile_end (p := digit) (by decide) hr (c :: q) hn.1.1.2
      refine ⟨?_, c, q, rfl, digit_start hd⟩
      rw [List.cons_append] at tw ⊢
      simp only [tokL]
      rw [tw, if_neg (by simp [dig_letter hd]), if_pos hd, if_pos h]
  · have hs : shown 3 t = 34 :: (t.flatMap esc ++ [34]) := by unfold shown quote; rw [if_pos rfl]
    rw [hs]
    refine ⟨?_, 34, _, rfl, by decide, by decide⟩
    show tokL (34 :: ((t.flatMap esc ++ [34]) ++ r)) = _
    have hq := quote_of r t
    rw [List.append_assoc, List.singleton_append]
    simp only [tokL, hq]
    rw [if_neg (by decide), if_neg (by decide), if_pos trivial, if_pos h]
    simp only [List.length_cons, List.length_append, List.length_nil]
  · rw [shown_same (by decide)]
    have hm : t ∈ signs := by simpa [isSign] using h
    rcases hr with rfl | ⟨q, rfl⟩
    · rw [List.append_nil]
      have : ∀ t ∈ signs, tokL t = some (4, t, t.length) ∧ (∃ c q, t = c :: q ∧ startB c) := by
        have key : signs.all (fun t => decide (tokL t = some (4, t, t.length)) && (match t with | [] => false | c :: _ => !blankB c && decide (c ≠ 35))) = true := by decide +kernel
        intro t ht
        have := List.all_eq_true.1 key t ht
        simp only [Bool.and_eq_true, decide_eq_true_eq] at this
        refine ⟨this.1, ?_⟩
        cases t with
        | nil => exact absurd this.2 (by simp)
        | cons c q => have h2 := this.2; simp only [Bool.and_eq_true, Bool.not_eq_true', decide_eq_true_eq] at h2; exact ⟨c, q, rfl, h2.1, h2.2⟩
      exact this t hm
    · have two : ∀ t ∈ signs, ∀ q, tokL (t ++ 32 :: q) = some (4, t, t.length) ∧ (∃ c q, t = c :: q ∧ startB c) := by
        have key : signs.all (fun t => match t with
          | [c] => !letter c && !digit c && decide (c ≠ 34) && !isSign [c, 32] && !blankB c && decide (c ≠ 35)
          | [c, d] => !letter c && !digit c && decide (c ≠ 34) && isSign [c, d] && !blankB c && decide (c ≠ 35)
          | _ => false) = true := by decide +kernel
        intro t ht q
        have hk := List.all_eq_true.1 key t ht
        have hs : isSign t = true := by simpa [isSign] using ht
        match t, hk, hs with
        | [c], hk, hs =>
          simp only [Bool.and_eq_true, Bool.not_eq_true', decide_eq_true_eq] at hk
          refine ⟨?_, c, [], rfl, hk.1.2, hk.2⟩
          simp only [List.cons_append, List.nil_append, tokL]
          rw [if_neg (by simp [hk.1.1.1.1.1]), if_neg (by simp [hk.1.1.1.1.2]), if_neg hk.1.1.1.2, if_neg (fun w => by have := w.2; simp only [List.take_succ_cons, List.take_zero] at this; rw [hk.1.1.2] at this; cases this), if_pos (by simpa using hs)]
          rfl
        | [c, d], hk, hs =>
          simp only [Bool.and_eq_true, Bool.not_eq_true', decide_eq_true_eq] at hk
          refine ⟨?_, c, [d], rfl, hk.1.2, hk.2⟩
          simp only [List.cons_append, List.nil_append, tokL]
          rw [if_neg (by simp [hk.1.1.1.1.1]), if_neg (by simp [hk.1.1.1.1.2]), if_neg hk.1.1.1.2, if_pos ⟨by simp, by simpa using hk.1.1.2⟩]
          rfl
        | [], hk, _ => cases hk
        | _ :: _ :: _ :: _, hk, _ => cases hk
      exact two t hm q
  · rw [shown_same (by decide)]
    obtain ⟨c, q, rfl, hl, hall⟩ := run_cons (word_run h)
    have tw := takeWhile_end (p := fun c => letter c || digit c) (by decide) hr (c :: q) hall
    refine ⟨?_, c, q, rfl, letter_start hl⟩
    rw [List.cons_append] at tw ⊢
    simp only [tokL]
    rw [tw, if_pos hl, if_pos h]

theorem joinT_cons (t : Int × List UInt8 × Int) (ts : List (Int × List UInt8 × Int)) : ∃ R, joinT (t :: ts) = shown t.1 t.2.1 ++ R ∧ endT R ∧ (R = joinT ts ∨ R = 32 :: joinT ts) := by
  cases ts with
  | nil => exact ⟨[], by simp [joinT], .inl rfl, .inl rfl⟩
  | cons a l => exact ⟨32 :: joinT (a :: l), rfl, .inr ⟨_, rfl⟩, .inr rfl⟩
/-- The tokens of the tokens' texts joined by blanks: the same kinds and texts. -/
theorem toks_join (u : List UInt8) : ∀ (ts : List (Int × List UInt8 × Int)) (n j : Nat), (∀ t ∈ ts, tokOk t.1 t.2.1) → (u.drop j = joinT ts ∨ u.drop j = 32 :: joinT ts) → j ≤ u.length → u.length < n + j →
    ∃ L, toksL u n j = (L, none) ∧ L.map (fun t => (t.1, t.2.1)) = ts.map (fun t => (t.1, t.2.1))
  | [], 0, j, _, _, hj, hn => by omega
  | [], n + 1, j, _, hd, hj, hn => by
    have hs : skipS false (u.drop j) = [] := by
      rcases hd with h | h
      · rw [h]; rfl
      · rw [h]; simp only [joinT, skipS]; rw [if_pos (by decide)]
    have : u.length ≤ skipN u j := by unfold skipN; rw [hs]; simp
    exact ⟨[], toks_end this, rfl⟩
  | t :: ts, 0, j, _, _, hj, hn => by omega
  | t :: ts, n + 1, j, hok, hd, hj, hn => by
    obtain ⟨R, hR, hRe, hRj⟩ := joinT_cons t ts
    obtain ⟨htok, c, q, hcq, hc1, hc2⟩ := tok_of (hok t (by simp)) hRe
    obtain ⟨j', hj1, hj2, hdj, hsk⟩ : ∃ j', j ≤ j' ∧ j' ≤ u.length ∧ u.drop j' = shown t.1 t.2.1 ++ R ∧ skipS false (u.drop j) = u.drop j' := by
      have stop : ∀ i, u.drop i = shown t.1 t.2.1 ++ R → skipS false (u.drop i) = u.drop i := fun i hi => by
        rw [hi, hcq, List.cons_append]
        simp only [skipS]
        rw [if_neg (by simp [hc1]), if_neg hc2]
      rcases hd with h | h
      · rw [hR] at h
        exact ⟨j, Nat.le_refl _, hj, h, stop j h⟩
      · have h1 : u.drop (j + 1) = shown t.1 t.2.1 ++ R := by
          rw [← List.drop_drop, h, ← hR]; rfl
        have hlen : j + 1 ≤ u.length := by
          have := congrArg List.length h
          simp only [List.length_drop, List.length_cons] at this
          omega
        refine ⟨j + 1, by omega, hlen, h1, ?_⟩
        rw [h]
        simp only [skipS]
        rw [if_pos (by decide), show joinT (t :: ts) = u.drop (j + 1) from by rw [h1, hR]]
        exact stop (j + 1) h1
    have hskip : skipN u j = j' := skipN_of hj2 hsk
    have hne : 1 ≤ (shown t.1 t.2.1).length := by rw [hcq]; simp
    have hlen : j' + (shown t.1 t.2.1).length ≤ u.length := by
      have := congrArg List.length hdj
      simp only [List.length_drop, List.length_append] at this
      omega
    have hdn : u.drop (j' + (shown t.1 t.2.1).length) = R := by
      rw [← List.drop_drop, hdj, List.drop_left]
    obtain ⟨L, hL1, hL2⟩ := toks_join u ts n (j' + (shown t.1 t.2.1).length) (fun x hx => hok x (by simp [hx])) (by rw [hdn]; exact hRj) hlen (by omega)
    have htk : tokL (u.drop (skipN u j)) = some (t.1, t.2.1, (shown t.1 t.2.1).length) := by rw [hskip, hdj]; exact htok
    refine ⟨(t.1, t.2.1, (j' : Int)) :: L, ?_, ?_⟩
    · rw [toks_tok (by rw [hskip]; omega) htk, hskip]
      simp only [hL1]
    · simp only [List.map_cons, hL2]
/-- Tokens are good ones. -/
theorem toks_ok (u : List UInt8) : ∀ (n j : Nat), ∀ t ∈ (toksL u n j).1, tokOk t.1 t.2.1
  | 0, _, t, h => by simp [toksL] at h
  | n + 1, j, t, h => by
    by_cases hs : skipN u j < u.length
    · cases ht : tokL (u.drop (skipN u j)) with
      | none => rw [toks_bad hs ht] at h; cases h
      | some p =>
        rw [toks_tok hs ht] at h
        rcases List.mem_cons.1 h with q | q
        · subst q; exact (tok_stands ht).1
        · exact toks_ok u n _ t q
    · rw [toks_end (by omega)] at h; cases h
theorem toks_back {u : List UInt8} {n : Nat} {ts : List (Int × List UInt8 × Int)} (h : toksL u n 0 = (ts, none)) : ∃ L, toksL (joinT ts) ((joinT ts).length + 1) 0 = (L, none) ∧ L.map (fun t => (t.1, t.2.1)) = ts.map (fun t => (t.1, t.2.1)) :=
  toks_join (joinT ts) ts _ 0 (fun t ht => toks_ok u n 0 t (by rw [h]; exact ht)) (.inl rfl) (by omega) (by omega)
/-- Joining looks at kinds and texts alone. -/
theorem joinT_congr : ∀ {a b : List (Int × List UInt8 × Int)}, a.map (fun t => (t.1, t.2.1)) = b.map (fun t => (t.1, t.2.1)) → joinT a = joinT b
  | [], [], _ => rfl
  | [], _ :: _, h => by cases h
  | _ :: _, [], h => by cases h
  | x :: a, y :: b, h => by
    simp only [List.map_cons, List.cons.injEq, Prod.mk.injEq] at h
    obtain ⟨⟨h1, h2⟩, h3⟩ := h
    have ih := joinT_congr h3
    cases a with
    | nil =>
      cases b with
      | nil => simp only [joinT]; rw [h1, h2]
      | cons z b => cases h3
    | cons w a =>
      cases b with
      | nil => cases h3
      | cons z b =>
        show shown x.1 x.2.1 ++ 32 :: joinT (w :: a) = shown y.1 y.2.1 ++ 32 :: joinT (z :: b)
        rw [h1, h2, ih]
end Go.Lex
