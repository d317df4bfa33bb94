/- Plain words about tokens: blanks, numerals, quotes, the token at a place, all tokens. -/
import Derived.Test.YtkjhnpmgieplgaaGreatDoorSbLexP
import Derived.Test.YtkjhnpmgieplgaaGreatDoorSbNum
import Derived.Test.YtkjhnpmgieplgaaGreatDoorSbNum2
set_option linter.unusedVariables false
set_option linter.unusedSimpArgs false
namespace Go.Lex
open Go.Lib Go.Sb

def blankB (c : UInt8) : Bool := decide (c = 32 ∨ c = 9 ∨ c = 10 ∨ c = 13)
/-- Behind blanks and comments ('true': within a comment). -/
def skipS : Bool → List UInt8 → List UInt8
  | _, [] => []
  | false, c :: r => if blankB c then skipS false r else if c = 35 then skipS true r else c :: r
  | true, c :: r => if c = 10 then skipS false r else skipS true r

theorem skip_len : ∀ (m : Bool) (l : List UInt8), (skipS m l).length ≤ l.length
  | _, [] => by simp [skipS]
  | false, c :: r => by
    simp only [skipS]
    have h1 := skip_len false r
    have h2 := skip_len true r
    split
    · simp; omega
    · split
      · simp; omega
      · simp
  | true, c :: r => by
    simp only [skipS]
    have h1 := skip_len false r
    have h2 := skip_len true r
    split <;> (simp; omega)
/-- Where blanks and comments end. -/
def skipN (u : List UInt8) (i : Nat) : Nat := u.length - (skipS false (u.drop i)).length
theorem skipN_le (u : List UInt8) (i : Nat) : skipN u i ≤ u.length := by unfold skipN; omega
theorem skipN_ge {u : List UInt8} {i : Nat} (hi : i ≤ u.length) : i ≤ skipN u i := by
  have h2 := skip_len false (u.drop i)
  rw [List.length_drop] at h2
  unfold skipN; omega
theorem skipN_of {u : List UInt8} {i j : Nat} (hj : j ≤ u.length) (h : skipS false (u.drop i) = u.drop j) : skipN u i = j := by
  unfold skipN; rw [h, List.length_drop]; omega

/-! Numerals -/
def isNumeral (s : List UInt8) : Bool := !s.isEmpty && s.all digit && (decide (s.length ≤ 1) || decide (s.head? ≠ some 48)) && decide (decPre s ≤ 1000000000000)

theorem dig_of {c : UInt8} (h : digit c = true) : 48 ≤ c.toNat ∧ c.toNat ≤ 57 := by simpa [digit] using h
theorem byte_of {c : UInt8} (h : digit c = true) : UInt8.ofNat (48 + (c.toNat - 48)) = c := by
  have := dig_of h
  apply UInt8.toNat_inj.1
  rw [show 48 + (c.toNat - 48) = c.toNat from by omega]; simp

theorem snoc_cases {α : Type} (l : List α) : l = [] ∨ ∃ r c, l = r ++ [c] := by
  rcases List.eq_nil_or_concat l with h | ⟨r, c, h⟩
  · exact .inl h
  · exact .inr ⟨r, c, by simpa using h⟩

/-- Digits without a needless 0 ahead are the number's. -/
theorem dec_canon : ∀ (n : Nat) (s : List UInt8), s.length = n → s ≠ [] → s.all digit = true → (s.length ≤ 1 ∨ s.head? ≠ some 48) → decDigits (decPre s) = s ∧ (s.head? ≠ some 48 → 1 ≤ decPre s)
  | 0, s, h, hne, _, _ => absurd (List.length_eq_zero_iff.1 h) hne
  | n + 1, s, h, hne, hd, h0 => by
    rcases snoc_cases s with rfl | ⟨r, c, rfl⟩
    · exact absurd rfl hne
    have hc : digit c = true := List.all_eq_true.1 hd c (by simp)
    have hdg := dig_of hc
    rw [decPre_snoc]
    by_cases hr : r = []
    · subst hr
      have e : decPre ([] : List UInt8) = 0 := rfl
      rw [e]
      refine ⟨?_, fun h48 => ?_⟩
      · rw [decDigits, dif_pos (by omega)]
        simp only [Nat.mul_zero, Nat.zero_add, List.nil_append]
        rw [byte_of hc]
      · have : c ≠ 48 := fun q => h48 (by simp [q])
        have : c.toNat ≠ 48 := fun q => this (UInt8.toNat_inj.1 q)
        omega
    · have hh : (r ++ [c]).head? = r.head? := by cases r with | nil => exact absurd rfl hr | cons a t => rfl
      have hrl : 1 ≤ r.length := by cases r with | nil => exact absurd rfl hr | cons a t => simp
      have h48 : r.head? ≠ some 48 := by
        rcases h0 with q | q
        · simp at q; exact absurd q hr
        · rw [hh] at q; exact q
      obtain ⟨k1, k2⟩ := dec_canon n r (by simp at h; omega) hr (List.all_eq_true.2 fun x hx => List.all_eq_true.1 hd x (by simp [hx])) (.inr h48)
      have h1 := k2 h48
      refine ⟨?_, fun _ => by omega⟩
      rw [decDigits, dif_neg (by omega)]
      rw [show (10 * decPre r + (c.toNat - 48)) / 10 = decPre r from by omega, show (10 * decPre r + (c.toNat - 48)) % 10 = c.toNat - 48 from by omega, k1, byte_of hc]

theorem dec_head : ∀ (u : Nat), 1 ≤ u → (decDigits u).head? ≠ some 48 := by
  intro u
  induction u using Nat.strongRecOn with
  | _ u ih =>
    intro h
    rw [decDigits]
    split
    · intro q
      simp only [List.head?_cons, Option.some.injEq] at q
      have := dig_toNat (d := u) (by omega)
      rw [q] at this
      have e : (48 : UInt8).toNat = 48 := rfl
      omega
    · have := ih (u / 10) (by omega) (by omega)
      have hne := dec_ne (u / 10)
      cases hd : decDigits (u / 10) with
      | nil => exact absurd hd hne
      | cons a t => rw [hd] at this; simpa using this

theorem itoa_pos {n : Int} (h : 0 ≤ n) : itoa n = decDigits n.toNat := by unfold itoa; rw [if_neg (by omega)]

/-- What the program asks of a numeral. -/
theorem numeral_iff (s : List UInt8) : isNumeral s = true ↔ ∃ v : Int, atoiAll s = .ok v ∧ itoa v = s ∧ 0 ≤ v ∧ v ≤ 1000000000000 := by
  constructor
  · intro h
    simp only [isNumeral, Bool.and_eq_true, Bool.not_eq_true', Bool.or_eq_true, decide_eq_true_eq] at h
    obtain ⟨⟨⟨h1, h2⟩, h3⟩, h4⟩ := h
    have hne : s ≠ [] := by intro q; subst q; simp at h1
    obtain ⟨k1, _⟩ := dec_canon s.length s rfl hne h2 h3
    have hi : itoa ((decPre s : Nat) : Int) = s := by rw [itoa_pos (by omega)]; simpa using k1
    refine ⟨decPre s, ?_, hi, by omega, by omega⟩
    have := atoi_itoa ((decPre s : Nat) : Int) (by omega) (by omega)
    rw [hi] at this; exact this
  · rintro ⟨v, _, h2, h3, h4⟩
    rw [itoa_pos h3] at h2
    simp only [isNumeral, Bool.and_eq_true, Bool.not_eq_true', Bool.or_eq_true, decide_eq_true_eq]
    have hp := decPre_dec v.toNat
    rw [h2] at hp
    refine ⟨⟨⟨?_, ?_⟩, ?_⟩, by omega⟩
    · have := dec_ne v.toNat
      rw [h2] at this
      cases s with
      | nil => exact absurd rfl this
      | cons a t => rfl
    · rw [List.all_eq_true]
      intro c hc
      have := dec_bytes v.toNat c (by rw [h2]; exact hc)
      simp [digit]; omega
    · by_cases hv : 1 ≤ v.toNat
      · have := dec_head _ hv
        rw [h2] at this; exact .inr this
      · have e : v.toNat = 0 := by omega
        rw [e] at h2
        rw [← h2]
        left
        rw [decDigits, dif_pos (by decide)]; simp

/-! Quotes: what stands behind the first sign -/
def quoteL : List UInt8 → Option (List UInt8 × Nat)
  | [] => none
  | [c] => if c = 34 then some ([], 1) else none
  | c :: d :: t =>
    if c = 34 then some ([], 1)
    else if c = 92 then (if d = 34 ∨ d = 92 then (quoteL t).map (fun p => (d :: p.1, p.2 + 2)) else none)
    else (quoteL (d :: t)).map (fun p => (c :: p.1, p.2 + 1))

/-- The token with which bytes begin: its kind, its text, its size. -/
def tokL (l : List UInt8) : Option (Int × List UInt8 × Nat) := match l with
  | [] => none
  | c :: r =>
    if letter c = true then
      (if isWord (l.takeWhile fun c => letter c || digit c) = true then some (5, l.takeWhile (fun c => letter c || digit c), (l.takeWhile fun c => letter c || digit c).length)
       else if isName (l.takeWhile fun c => letter c || digit c) = true then some (1, l.takeWhile (fun c => letter c || digit c), (l.takeWhile fun c => letter c || digit c).length) else none)
    else if digit c = true then (if isNumeral (l.takeWhile digit) = true then some (2, l.takeWhile digit, (l.takeWhile digit).length) else none)
    else if c = 34 then (match quoteL r with
      | some p => if isText p.1 = true then some (3, p.1, p.2 + 1) else none
      | none => none)
    else if 2 ≤ l.length ∧ isSign (l.take 2) = true then some (4, l.take 2, 2)
    else if isSign (l.take 1) = true then some (4, l.take 1, 1) else none

/-- The tokens from a place on, as cells; and the place where there is none. -/
def toksL (u : List UInt8) : Nat → Nat → List (Int × List UInt8 × Int) × Option Nat
  | 0, _ => ([], none)
  | k + 1, i =>
    if skipN u i < u.length then (match tokL (u.drop (skipN u i)) with
      | some p => ((p.1, p.2.1, (skipN u i : Int)) :: (toksL u k (skipN u i + p.2.2)).1, (toksL u k (skipN u i + p.2.2)).2)
      | none => ([], some (skipN u i)))
    else ([], none)

/-! A step at a time -/
theorem drop_cons {u : List UInt8} {j : Nat} {c : UInt8} (hc : u[j]? = some c) : u.drop j = c :: u.drop (j + 1) := by
  obtain ⟨h1, h2⟩ := List.getElem?_eq_some_iff.1 hc
  rw [List.drop_eq_getElem_cons h1, h2]
theorem skip_blank {u : List UInt8} {j : Nat} {c : UInt8} (hc : u[j]? = some c) (h : blankB c = true) : skipS false (u.drop j) = skipS false (u.drop (j + 1)) := by
  rw [drop_cons hc]; simp only [skipS]; rw [if_pos h]
theorem skip_hash {u : List UInt8} {j : Nat} (hc : u[j]? = some 35) : skipS false (u.drop j) = skipS true (u.drop (j + 1)) := by
  rw [drop_cons hc]; simp only [skipS]; rw [if_neg (by decide), if_pos trivial]
theorem skip_com {u : List UInt8} {j : Nat} {c : UInt8} (hc : u[j]? = some c) (h : c ≠ 10) : skipS true (u.drop j) = skipS true (u.drop (j + 1)) := by
  rw [drop_cons hc]; simp only [skipS]; rw [if_neg h]
theorem skip_lf {u : List UInt8} {j : Nat} (hc : u[j]? = some 10) : skipS true (u.drop j) = skipS false (u.drop j) := by
  rw [drop_cons hc]; simp only [skipS]; rw [if_pos trivial, if_pos (by decide)]
theorem skip_stop {u : List UInt8} {j : Nat} {c : UInt8} (hc : u[j]? = some c) (h1 : blankB c = false) (h2 : c ≠ 35) : skipS false (u.drop j) = u.drop j := by
  rw [drop_cons hc]; simp only [skipS]; rw [if_neg (by simp [h1]), if_neg h2]
theorem skip_end {u : List UInt8} {j : Nat} (h : u.length ≤ j) (m : Bool) : skipS m (u.drop j) = u.drop j := by
  rw [List.drop_eq_nil_of_le h]; cases m <;> rfl

/-- Where a run of such bytes ends. -/
def runE (p : UInt8 → Bool) (u : List UInt8) (i : Nat) : Nat := i + ((u.drop i).takeWhile p).length
theorem runE_up {p : UInt8 → Bool} {u : List UInt8} {j : Nat} {c : UInt8} (hc : u[j]? = some c) (h : p c = true) : runE p u (j + 1) = runE p u j := by
  unfold runE; rw [drop_cons hc, List.takeWhile_cons, if_pos h, List.length_cons]; omega
theorem runE_stop {p : UInt8 → Bool} {u : List UInt8} {j : Nat} {c : UInt8} (hc : u[j]? = some c) (h : p c = false) : runE p u j = j := by
  unfold runE; rw [drop_cons hc, List.takeWhile_cons, if_neg (by simp [h])]; rfl
theorem runE_end {p : UInt8 → Bool} {u : List UInt8} {j : Nat} (h : u.length ≤ j) : runE p u j = j := by
  unfold runE; rw [List.drop_eq_nil_of_le h]; rfl
theorem takeWhile_take {p : UInt8 → Bool} : ∀ (l : List UInt8), l.takeWhile p = l.take (l.takeWhile p).length
  | [] => rfl
  | c :: r => by
    rw [List.takeWhile_cons]
    split
    · rw [List.length_cons, List.take_succ_cons, ← takeWhile_take r]
    · rfl
theorem takeWhile_le {p : UInt8 → Bool} : ∀ (l : List UInt8), (l.takeWhile p).length ≤ l.length
  | [] => by simp
  | c :: r => by
    rw [List.takeWhile_cons]
    have := takeWhile_le (p := p) r
    split
    · simp; omega
    · simp
theorem runE_text (p : UInt8 → Bool) (u : List UInt8) (i : Nat) : (u.take (runE p u i)).drop i = (u.drop i).takeWhile p := by
  rw [List.drop_take, show runE p u i - i = ((u.drop i).takeWhile p).length from by unfold runE; omega, ← takeWhile_take]
theorem runE_le {p : UInt8 → Bool} {u : List UInt8} {i : Nat} (hi : i ≤ u.length) : runE p u i ≤ u.length := by
  have := takeWhile_le (p := p) (u.drop i)
  rw [List.length_drop] at this
  unfold runE; omega
theorem runE_ge (p : UInt8 → Bool) (u : List UInt8) (i : Nat) : i ≤ runE p u i := by unfold runE; omega

/-- Letters too, or digits alone. -/
def runB (b : Bool) (c : UInt8) : Bool := digit c || (b && letter c)
theorem runB_true : runB true = fun c => letter c || digit c := by funext c; simp [runB, Bool.or_comm]
theorem runB_false : runB false = digit := by funext c; simp [runB]

/-! Quotes, a step at a time -/
theorem quote_end {u : List UInt8} {j : Nat} (h : u.length ≤ j) : quoteL (u.drop j) = none := by rw [List.drop_eq_nil_of_le h]; rfl
theorem quote_close {u : List UInt8} {j : Nat} (hc : u[j]? = some 34) : quoteL (u.drop j) = some ([], 1) := by
  rw [drop_cons hc]
  cases u.drop (j + 1) <;> simp [quoteL]
theorem quote_plain {u : List UInt8} {j : Nat} {c : UInt8} (hc : u[j]? = some c) (h1 : c ≠ 34) (h2 : c ≠ 92) : quoteL (u.drop j) = (quoteL (u.drop (j + 1))).map (fun p => (c :: p.1, p.2 + 1)) := by
  rw [drop_cons hc]
  cases u.drop (j + 1) <;> simp [quoteL, h1, h2]
theorem quote_esc {u : List UInt8} {j : Nat} {d : UInt8} (hc : u[j]? = some 92) (hd : u[j + 1]? = some d) (h : d = 34 ∨ d = 92) : quoteL (u.drop j) = (quoteL (u.drop (j + 2))).map (fun p => (d :: p.1, p.2 + 2)) := by
  rw [drop_cons hc, drop_cons hd]
  simp only [quoteL]
  rw [if_neg (by decide), if_pos trivial, if_pos h]
theorem quote_bad {u : List UInt8} {j : Nat} (hc : u[j]? = some 92) (h : ∀ d, u[j + 1]? = some d → d ≠ 34 ∧ d ≠ 92) : quoteL (u.drop j) = none := by
  rw [drop_cons hc]
  cases hd : u[j + 1]? with
  | none => rw [List.drop_eq_nil_of_le (List.getElem?_eq_none_iff.1 hd)]; rfl
  | some d =>
    rw [drop_cons hd]
    simp only [quoteL]
    rw [if_neg (by decide), if_pos trivial, if_neg (by have := h d hd; rintro (q | q); exact this.1 q; exact this.2 q)]
theorem quote_len : ∀ (n : Nat) (l : List UInt8) (p : List UInt8 × Nat), l.length ≤ n → quoteL l = some p → p.1.length + 1 ≤ p.2 ∧ p.2 ≤ l.length
  | _, [], p, hl, h => by cases h
  | n, [c], p, hl, h => by
    simp only [quoteL] at h
    split at h
    · cases h; simp
    · cases h
  | 0, c :: d :: t, p, hl, h => by simp at hl
  | n + 1, c :: d :: t, p, hl, h => by
    simp only [quoteL] at h
    split at h
    · cases h; simp
    · split at h
      · split at h
        · obtain ⟨q, hq, rfl⟩ := Option.map_eq_some_iff.1 h
          have := quote_len n t q (by simp at hl; omega) hq
          simp; omega
        · cases h
      · obtain ⟨q, hq, rfl⟩ := Option.map_eq_some_iff.1 h
        have := quote_len n (d :: t) q (by simp at hl ⊢; omega) hq
        simp at this ⊢; omega
end Go.Lex

/- Plain words about tokens: the token at a place, case by case. -/

namespace Go.Lex
open Go.Lib Go.Sb

variable {u : List UInt8} {i : Nat} {c : UInt8}
theorem tok_word (hc : u[i]? = some c) (hl : letter c = true) (hw : isWord ((u.take (runE (runB true) u i)).drop i) = true) : tokL (u.drop i) = some (5, (u.take (runE (runB true) u i)).drop i, runE (runB true) u i - i) := by
  rw [runE_text, runB_true] at hw ⊢
  rw [drop_cons hc] at hw ⊢
  simp only [tokL]
  rw [if_pos hl, if_pos hw]
  unfold runE; rw [drop_cons hc, Nat.add_sub_cancel_left]
theorem tok_name (hc : u[i]? = some c) (hl : letter c = true) (hw : isWord ((u.take (runE (runB true) u i)).drop i) = false) (hn : isName ((u.take (runE (runB true) u i)).drop i) = true) : tokL (u.drop i) = some (1, (u.take (runE (runB true) u i)).drop i, runE (runB true) u i - i) := by
  rw [runE_text, runB_true] at hw hn ⊢
  rw [drop_cons hc] at hw hn ⊢
  simp only [tokL]
  rw [if_pos hl, if_neg (by simp [hw]), if_pos hn]
  unfold runE; rw [drop_cons hc, Nat.add_sub_cancel_left]
theorem tok_noname (hc : u[i]? = some c) (hl : letter c = true) (hw : isWord ((u.take (runE (runB true) u i)).drop i) = false) (hn : isName ((u.take (runE (runB true) u i)).drop i) = false) : tokL (u.drop i) = none := by
  rw [runE_text, runB_true] at hw hn
  rw [drop_cons hc] at hw hn ⊢
  simp only [tokL]
  rw [if_pos hl, if_neg (by simp [hw]), if_neg (by simp [hn])]
theorem tok_num (hc : u[i]? = some c) (hl : letter c = false) (hd : digit c = true) (hn : isNumeral ((u.take (runE (runB false) u i)).drop i) = true) : tokL (u.drop i) = some (2, (u.take (runE (runB false) u i)).drop i, runE (runB false) u i - i) := by
  rw [runE_text, runB_false] at hn ⊢
  rw [drop_cons hc] at hn ⊢
  simp only [tokL]
  rw [if_neg (by simp [hl]), if_pos hd, if_pos hn]
  unfold runE; rw [drop_cons hc, Nat.add_sub_cancel_left]
theorem tok_nonum (hc : u[i]? = some c) (hl : letter c = false) (hd : digit c = true) (hn : isNumeral ((u.take (runE (runB false) u i)).drop i) = false) : tokL (u.drop i) = none := by
  rw [runE_text, runB_false] at hn
  rw [drop_cons hc] at hn ⊢
  simp only [tokL]
  rw [if_neg (by simp [hl]), if_pos hd, if_neg (by simp [hn])]
theorem tok_quote {p : List UInt8 × Nat} (hc : u[i]? = some 34) (hq : quoteL (u.drop (i + 1)) = some p) (ht : isText p.1 = true) : tokL (u.drop i) = some (3, p.1, p.2 + 1) := by
  rw [drop_cons hc]
  simp only [tokL, hq]
  rw [if_neg (by decide), if_neg (by decide), if_pos trivial, if_pos ht]
theorem tok_noquote (hc : u[i]? = some 34) (hq : quoteL (u.drop (i + 1)) = none) : tokL (u.drop i) = none := by
  rw [drop_cons hc]
  simp only [tokL, hq]
  rw [if_neg (by decide), if_neg (by decide), if_pos trivial]
theorem tok_notext {p : List UInt8 × Nat} (hc : u[i]? = some 34) (hq : quoteL (u.drop (i + 1)) = some p) (ht : isText p.1 = false) : tokL (u.drop i) = none := by
  rw [drop_cons hc]
  simp only [tokL, hq]
  rw [if_neg (by decide), if_neg (by decide), if_pos trivial, if_neg (by simp [ht])]
theorem tok_sign2 (hc : u[i]? = some c) (hl : letter c = false) (hd : digit c = false) (h34 : c ≠ 34) (h2 : i + 2 ≤ u.length) (hs : isSign ((u.take (i + 2)).drop i) = true) : tokL (u.drop i) = some (4, (u.take (i + 2)).drop i, 2) := by
  have e : (u.take (i + 2)).drop i = (u.drop i).take 2 := by rw [List.drop_take, Nat.add_sub_cancel_left]
  have l : 2 ≤ (u.drop i).length := by rw [List.length_drop]; omega
  rw [e] at hs ⊢
  rw [drop_cons hc] at hs l ⊢
  simp only [tokL]
  rw [if_neg (by simp [hl]), if_neg (by simp [hd]), if_neg h34, if_pos ⟨l, hs⟩]
theorem tok_sign1 (hc : u[i]? = some c) (hl : letter c = false) (hd : digit c = false) (h34 : c ≠ 34) (h2 : ¬ (i + 2 ≤ u.length ∧ isSign ((u.take (i + 2)).drop i) = true)) : tokL (u.drop i) = if isSign ((u.take (i + 1)).drop i) = true then some (4, (u.take (i + 1)).drop i, 1) else none := by
  have e : (u.take (i + 2)).drop i = (u.drop i).take 2 := by rw [List.drop_take, Nat.add_sub_cancel_left]
  have e1 : (u.take (i + 1)).drop i = (u.drop i).take 1 := by rw [List.drop_take, Nat.add_sub_cancel_left]
  have l : 2 ≤ (u.drop i).length → i + 2 ≤ u.length := by rw [List.length_drop]; omega
  rw [e] at h2
  rw [e1]
  rw [drop_cons hc] at h2 l ⊢
  simp only [tokL]
  rw [if_neg (by simp [hl]), if_neg (by simp [hd]), if_neg h34, if_neg (fun q => h2 ⟨l q.1, q.2⟩)]
theorem tok_len {p : Int × List UInt8 × Nat} (h : tokL (u.drop i) = some p) : 1 ≤ p.2.2 ∧ i + p.2.2 ≤ u.length ∧ p.2.1.length ≤ u.length := by
  have hd : (u.drop i).length = u.length - i := by simp
  have tw : ∀ (q : UInt8 → Bool), ((u.drop i).takeWhile q).length ≤ (u.drop i).length := fun q => takeWhile_le _
  cases hr : u[i]? with
  | none => rw [List.drop_eq_nil_of_le (List.getElem?_eq_none_iff.1 hr)] at h; cases h
  | some c =>
    have hi := (List.getElem?_eq_some_iff.1 hr).1
    rw [drop_cons hr] at h hd tw
    have tw1 := tw (fun c => letter c || digit c)
    have tw2 := tw digit
    rw [hd] at tw1 tw2
    simp only [tokL] at h
    split at h
    · rename_i hl
      have h1 : 1 ≤ ((c :: u.drop (i + 1)).takeWhile fun c => letter c || digit c).length := by rw [List.takeWhile_cons, if_pos (by simp [hl])]; simp
      split at h
      · cases h; dsimp only; exact ⟨h1, by omega, by omega⟩
      · split at h
        · cases h; dsimp only; exact ⟨h1, by omega, by omega⟩
        · cases h
    · split at h
      · rename_i hl
        have h1 : 1 ≤ ((c :: u.drop (i + 1)).takeWhile digit).length := by rw [List.takeWhile_cons, if_pos hl]; simp
        split at h
        · cases h; dsimp only; exact ⟨h1, by omega, by omega⟩
        · cases h
      · split at h
        · split at h
          · rename_i p hq
            have := quote_len _ _ p (Nat.le_refl _) hq
            rw [List.length_drop] at this
            split at h
            · cases h; exact ⟨by show 1 ≤ p.2 + 1; omega, by show i + (p.2 + 1) ≤ _; omega, by show p.1.length ≤ _; omega⟩
            · cases h
          · cases h
        · split at h
          · rename_i hq
            cases h; dsimp only
            refine ⟨by omega, by omega, ?_⟩
            have : ((c :: u.drop (i + 1)).take 2).length ≤ 2 := by rw [List.length_take]; omega
            show ((c :: u.drop (i + 1)).take 2).length ≤ _; omega
          · split at h
            · cases h; dsimp only
              refine ⟨by omega, by omega, ?_⟩
              have : ((c :: u.drop (i + 1)).take 1).length ≤ 1 := by rw [List.length_take]; omega
              show ((c :: u.drop (i + 1)).take 1).length ≤ _; omega
            · cases h
end Go.Lex
namespace Go.Lex
theorem toks_tok {u : List UInt8} {j k : Nat} {p : Int × List UInt8 × Nat} (h : skipN u j < u.length) (ht : tokL (u.drop (skipN u j)) = some p) : toksL u (k + 1) j = ((p.1, p.2.1, (skipN u j : Int)) :: (toksL u k (skipN u j + p.2.2)).1, (toksL u k (skipN u j + p.2.2)).2) := by
  simp only [toksL]; rw [if_pos h, ht]
theorem toks_bad {u : List UInt8} {j k : Nat} (h : skipN u j < u.length) (ht : tokL (u.drop (skipN u j)) = none) : toksL u (k + 1) j = ([], some (skipN u j)) := by
  simp only [toksL]; rw [if_pos h, ht]
theorem toks_end {u : List UInt8} {j k : Nat} (h : u.length ≤ skipN u j) : toksL u (k + 1) j = ([], none) := by
  simp only [toksL]; rw [if_neg (by omega)]
end Go.Lex

/- Plain words about tokens: what a text after the source changes. -/

namespace Go.Lex
open Go.Lib Go.Sb

end Go.Lex

/- Plain words about tokens: two sources with a line feed between. -/

namespace Go.Lex
open Go.Lib Go.Sb

end Go.Lex

/- Plain words about tokens: the text of a token stands in the source, at its place. -/

namespace Go.Lex
open Go.Lib Go.Sb

/-- What kind of text a token of a kind may have. -/
def tokOk (k : Int) (t : List UInt8) : Prop :=
  (k = 1 ∧ isName t = true) ∨ (k = 2 ∧ isNumeral t = true) ∨ (k = 3 ∧ isText t = true) ∨ (k = 4 ∧ isSign t = true) ∨ (k = 5 ∧ isWord t = true)
/-- How a token stands in a source. -/
def shown (k : Int) (t : List UInt8) : List UInt8 := if k = 3 then quote t else t

theorem shown_same {k : Int} {t : List UInt8} (h : k ≠ 3) : shown k t = t := by unfold shown; rw [if_neg h]
theorem quote_stands : ∀ (n : Nat) (l : List UInt8) (p : List UInt8 × Nat), l.length ≤ n → quoteL l = some p → (∀ c ∈ p.1, True) → l.take p.2 = p.1.flatMap esc ++ [34] ∧ (p.1.flatMap esc).length + 1 = p.2
  | _, [], p, hl, h, _ => by cases h
  | n, [c], p, hl, h, _ => by
    simp only [quoteL] at h
    split at h
    · rename_i hc; cases h; subst hc; simp
    · cases h
  | 0, c :: d :: t, p, hl, h, _ => by simp at hl
  | n + 1, c :: d :: t, p, hl, h, _ => by
    simp only [quoteL] at h
    split at h
    · rename_i hc; cases h; subst hc; simp
    · rename_i hc
      split at h
      · rename_i h92
        split at h
        · rename_i hd
          obtain ⟨q, hq, rfl⟩ := Option.map_eq_some_iff.1 h
          obtain ⟨a, b⟩ := quote_stands n t q (by simp at hl; omega) hq (fun _ _ => trivial)
          have he : esc d = [92, d] := by unfold esc; rw [if_pos hd]
          subst h92
          refine ⟨?_, ?_⟩
          · rw [List.flatMap_cons, he]
            show List.take (q.2 + 2) (92 :: d :: t) = _
            rw [List.take_succ_cons, List.take_succ_cons, a]; rfl
          · rw [List.flatMap_cons, he]; simp only [List.length_append, List.length_cons, List.length_nil]; omega
        · cases h
      · rename_i h92
        obtain ⟨q, hq, rfl⟩ := Option.map_eq_some_iff.1 h
        obtain ⟨a, b⟩ := quote_stands n (d :: t) q (by simp at hl ⊢; omega) hq (fun _ _ => trivial)
        have he : esc c = [c] := by unfold esc; rw [if_neg (by rintro (q | q); exact hc q; exact h92 q)]
        refine ⟨?_, ?_⟩
        · rw [List.flatMap_cons, he]
          show List.take (q.2 + 1) (c :: d :: t) = _
          rw [List.take_succ_cons, a]; rfl
        · rw [List.flatMap_cons, he]; simp only [List.length_append, List.length_cons, List.length_nil]; omega

/-- A token is a good one, and stands at its place. -/
theorem tok_stands : ∀ {l : List UInt8} {p : Int × List UInt8 × Nat}, tokL l = some p → tokOk p.1 p.2.1 ∧ l.take p.2.2 = shown p.1 p.2.1 ∧ (shown p.1 p.2.1).length = p.2.2
  | [], p, h => by cases h
  | c :: r, p, h => by
    have tw : ∀ q : UInt8 → Bool, (c :: r).take ((c :: r).takeWhile q).length = (c :: r).takeWhile q := fun q => (takeWhile_take _).symm
    simp only [tokL] at h
    split at h
    · split at h
      · rename_i hw
        cases h
        exact ⟨.inr (.inr (.inr (.inr ⟨rfl, hw⟩))), (tw _).trans (shown_same (k := 5) (by decide)).symm, congrArg List.length (shown_same (k := 5) (by decide))⟩
      · split at h
        · rename_i hw
          cases h
          exact ⟨.inl ⟨rfl, hw⟩, (tw _).trans (shown_same (k := 1) (by decide)).symm, congrArg List.length (shown_same (k := 1) (by decide))⟩
        · cases h
    · split at h
      · split at h
        · rename_i hw
          cases h
          exact ⟨.inr (.inl ⟨rfl, hw⟩), (tw _).trans (shown_same (k := 2) (by decide)).symm, congrArg List.length (shown_same (k := 2) (by decide))⟩
        · cases h
      · split at h
        · rename_i hc
          split at h
          · rename_i q hq
            split at h
            · rename_i ht
              cases h
              obtain ⟨a, b⟩ := quote_stands _ r q (Nat.le_refl _) hq (fun _ _ => trivial)
              subst hc
              refine ⟨.inr (.inr (.inl ⟨rfl, ht⟩)), ?_, ?_⟩
              · unfold shown quote; rw [if_pos rfl]
                show List.take (q.2 + 1) (34 :: r) = _
                rw [List.take_succ_cons, a]
              · unfold shown quote; rw [if_pos rfl]
                simp only [List.length_append, List.length_cons, List.length_nil]; omega
            · cases h
          · cases h
        · split at h
          · rename_i hq
            cases h
            refine ⟨.inr (.inr (.inr (.inl ⟨rfl, hq.2⟩))), (shown_same (k := 4) (by decide)).symm, ?_⟩
            refine (congrArg List.length (shown_same (k := 4) (by decide))).trans ?_; rw [List.length_take]
            have := hq.1
            show min 2 _ = 2; omega
          · split at h
            · rename_i hq
              cases h
              refine ⟨.inr (.inr (.inr (.inl ⟨rfl, hq⟩))), (shown_same (k := 4) (by decide)).symm, ?_⟩
              refine (congrArg List.length (shown_same (k := 4) (by decide))).trans ?_; rw [List.length_take]; simp
            · cases h

end Go.Lex

/- Plain words about tokens: the texts of tokens, joined by blanks, have these tokens. -/

namespace Go.Lex
open Go.Lib Go.Sb

theorem quote_step {c : UInt8} {l : List UInt8} (hl : l ≠ []) (h1 : c ≠ 34) (h2 : c ≠ 92) : quoteL (c :: l) = (quoteL l).map (fun p => (c :: p.1, p.2 + 1)) := by
  cases l with
  | nil => exact absurd rfl hl
  | cons d t => simp [quoteL, h1, h2]
theorem quote_close' (r : List UInt8) : quoteL (34 :: r) = some ([], 1) := by cases r <;> simp [quoteL]
theorem quote_of (r : List UInt8) : ∀ t : List UInt8, quoteL (t.flatMap esc ++ 34 :: r) = some (t, (t.flatMap esc).length + 1)
  | [] => by rw [List.flatMap_nil, List.nil_append, quote_close']; rfl
  | c :: t => by
    have ih := quote_of r t
    rw [List.flatMap_cons]
    by_cases h : c = 34 ∨ c = 92
    · have he : esc c = [92, c] := by unfold esc; rw [if_pos h]
      rw [he]
      show quoteL (92 :: c :: (t.flatMap esc ++ 34 :: r)) = _
      simp only [quoteL]
      rw [if_neg (by decide), if_pos trivial, if_pos h, ih]
      simp only [Option.map_some, List.length_append, List.length_cons, List.length_nil]
      congr 2; omega
    · have he : esc c = [c] := by unfold esc; rw [if_neg h]
      rw [he]
      show quoteL (c :: (t.flatMap esc ++ 34 :: r)) = _
      rw [quote_step (by simp) (fun q => h (.inl q)) (fun q => h (.inr q)), ih]
      simp only [Option.map_some, List.length_append, List.length_cons, List.length_nil]
      congr 2; omega

/-- Tokens are good ones. -/
theorem toks_ok (u : List UInt8) : ∀ (n j : Nat), ∀ t ∈ (toksL u n j).1, tokOk t.1 t.2.1
  | 0, _, t, h => by simp [toksL] at h
  | n + 1, j, t, h => by
    by_cases hs : skipN u j < u.length
    · cases ht : tokL (u.drop (skipN u j)) with
      | none => rw [toks_bad hs ht] at h; cases h
      | some p =>
        rw [toks_tok hs ht] at h
        rcases List.mem_cons.1 h with q | q
        · subst q; exact (tok_stands ht).1
        · exact toks_ok u n _ t q
    · rw [toks_end (by omega)] at h; cases h
end Go.Lex
