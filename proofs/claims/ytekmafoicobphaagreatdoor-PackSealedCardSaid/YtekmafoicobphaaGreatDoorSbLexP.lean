/- Plain words about texts, names, quotes: no program. -/
import Derived.Lib.ReplaceLaws
import Derived.Lib.Join
import Derived.Lib.IndexBytes
import Derived.Lib.LastIndexByte
set_option linter.unusedVariables false
set_option linter.unusedSimpArgs false
namespace Go.Lex
def letter (c : UInt8) : Bool := decide (97 ≤ c.toNat) && decide (c.toNat ≤ 122)
def digit (c : UInt8) : Bool := decide (48 ≤ c.toNat) && decide (c.toNat ≤ 57)
def textByte (c : UInt8) : Bool := decide (32 ≤ c.toNat) && decide (c.toNat ≤ 126)
def isText (s : List UInt8) : Bool := s.all textByte && decide (s.length ≤ 60)
def esc (c : UInt8) : List UInt8 := if c = 34 ∨ c = 92 then [92, c] else [c]
def quote (s : List UInt8) : List UInt8 := 34 :: (s.flatMap esc ++ [34])
def isRun : List UInt8 → Bool
 | [] => false
 | c :: r => letter c && r.all (fun c => letter c || digit c)
/-! One byte replaced -/
def rep1 (c : UInt8) (new : List UInt8) (x : UInt8) : List UInt8 := if x = c then new else [x]
theorem yjh {c : UInt8} {new : List UInt8} : ∀ {s : List UInt8}, c ∉ s → s.flatMap (rep1 c new) = s
 | [], _ => rfl
 | x :: s, h => by
  rw [List.flatMap_cons, yjh (fun q => h (List.mem_cons_of_mem _ q)), rep1, if_neg (fun e => h (by simp [e]))]; rfl
theorem ylr {c : UInt8} : ∀ {a b : List UInt8}, c ∉ a → Lib.index (a ++ c :: b) [c] = a.length
 | [], b, _ => by simp [Lib.index, List.isPrefixOf]
 | x :: a, b, h => by
  have ih := ylr (b := b) (fun q => h (List.mem_cons_of_mem _ q))
  have hx : ¬ (c == x) = true := fun e => h (by simp [(beq_iff_eq.1 e)])
  rw [List.cons_append, Lib.index, if_neg (by simp [List.isPrefixOf]; intro e; exact hx (by simp [e])), ih, if_neg (by simp)]
  simp
theorem yls {c : UInt8} : ∀ {s : List UInt8}, c ∉ s → Lib.index s [c] = -1
 | [], _ => by simp [Lib.index]
 | x :: s, h => by
  have ih := yls (s := s) (fun q => h (List.mem_cons_of_mem _ q))
  have hx : ¬ (c == x) = true := fun e => h (by simp [(beq_iff_eq.1 e)])
  rw [Lib.index, if_neg (by simp [List.isPrefixOf]; intro e; exact hx (by simp [e])), ih]; rfl
theorem ylt {c : UInt8} : ∀ {s : List UInt8}, c ∈ s → ∃ a b, s = a ++ c :: b ∧ c ∉ a
 | [], h => by cases h
 | x :: s, h => by
  by_cases e : x = c
  ·exact ⟨[], s, by simp [e], by simp⟩
  ·obtain ⟨a, b, h1, h2⟩ := ylt (s := s) (by rcases List.mem_cons.1 h with q | q; exact absurd q.symm e; exact q)
   exact ⟨x :: a, b, by simp [h1], by simp [h2]; exact fun q => e q.symm⟩
theorem ypk {c : UInt8} : ∀ (k : Nat) (s : List UInt8), s.length < k → Lib.countFrom [c] k s = s.count c
 | 0, s, h => by omega
 | k + 1, s, h => by
  by_cases hc : c ∈ s
  ·obtain ⟨a, b, rfl, ha⟩ := ylt hc
   have hd : (a ++ c :: b).drop (((a.length : Int)).toNat + [c].length) = b := by
    rw [show ((a.length : Int)).toNat + [c].length = a.length + 1 from by simp, ← List.drop_drop, List.drop_left, List.drop_succ_cons, List.drop_zero]
   rw [Lib.countFrom, ylr ha, if_neg (by simp), hd, ypk k b (by simp at h; omega)]
   rw [List.count_append, List.count_eq_zero_of_not_mem ha, List.count_cons_self]; omega
  ·rw [Lib.countFrom, yls hc, List.count_eq_zero_of_not_mem hc]; rfl
theorem yva (c : UInt8) (s : List UInt8) : Lib.count s [c] = s.count c := ypk _ _ (by omega)
theorem ypl {c : UInt8} {new : List UInt8} : ∀ (k : Nat) (s : List UInt8), s.count c ≤ k → Lib.replaceK [c] new k s = s.flatMap (rep1 c new)
 | 0, s, h => by
  have hc : c ∉ s := List.count_eq_zero.1 (by omega)
  rw [Lib.replaceK, yjh hc]
 | k + 1, s, h => by
  by_cases hc : c ∈ s
  ·obtain ⟨a, b, rfl, ha⟩ := ylt hc
   have hd : (a ++ c :: b).drop (a.length + [c].length) = b := by
    rw [show a.length + [c].length = a.length + 1 from rfl, ← List.drop_drop, List.drop_left, List.drop_succ_cons, List.drop_zero]
   rw [Lib.replaceK_hit _ _ _ _ _ (ylr ha), hd, List.take_left, ypl k b (by rw [List.count_append, List.count_cons_self] at h; omega)]
   rw [List.flatMap_append, yjh ha, List.flatMap_cons, rep1, if_pos rfl, List.append_assoc]
  ·rw [yjh hc, Lib.replaceK, yls hc]; rfl
theorem replaceAll_one (c : UInt8) (new s : List UInt8) (h : new ≠ [c]) : Lib.replaceAll s [c] new = s.flatMap (rep1 c new) := by
 unfold Lib.replaceAll Lib.replace Lib.replaceNum
 rw [if_neg (by simp; exact fun e => h e.symm), if_pos (.inl (by decide)), yva]
 exact ypl _ _ (Nat.le_refl _)
theorem quote_two (s : List UInt8) : (Lib.replaceAll (Lib.replaceAll s [92] [92, 92]) [34] [92, 34]) = s.flatMap esc := by
 rw [replaceAll_one _ _ _ (by decide), replaceAll_one _ _ _ (by decide), List.flatMap_assoc]
 congr 1
 funext x
 unfold rep1 esc
 by_cases h : x = 92
 ·subst h; decide
 ·rw [if_neg h]
  by_cases h2 : x = 34
  ·subst h2; decide
  ·simp [h, h2, rep1]
def words : List (List UInt8) := [[97, 102, 116, 101, 114], [97, 119, 97, 105, 116], [98, 111, 111, 108], [98, 114, 101, 97, 107], [98, 117, 102, 102, 101, 114], [99, 97, 110, 99, 101, 108], [99, 97, 116, 99, 104], [99, 104, 97, 110], [99, 108, 111, 115, 101], [99, 111, 110, 116, 105, 110, 117, 101], [100, 114, 111, 112], [101, 97, 99, 104], [101, 108, 115, 101], [101, 109, 105, 116], [102, 97, 108, 115, 101], [102, 105, 110, 97, 108, 108, 121], [102, 108, 111, 119], [102, 110], [102, 114, 111, 109], [104, 111, 108, 100], [105, 102], [105, 110, 116], [108, 101, 116], [108, 111, 99, 107], [110, 101, 119], [110, 111, 119], [111, 108, 100], [112, 114, 111, 100, 117, 99, 101], [114, 101, 99, 101, 105, 118, 101], [114, 101, 116, 117, 114, 110], [115, 99, 111, 112, 101], [115, 101, 108, 101, 99, 116], [115, 101, 110, 100], [115, 104, 105, 101, 108, 100], [115, 108, 101, 101, 112], [115, 112, 97, 119, 110], [115, 117, 112, 101, 114, 118, 105, 115, 101, 100], [116, 97, 115, 107], [116, 101, 120, 116], [116, 104, 114, 111, 119], [116, 114, 117, 101], [116, 114, 121], [117, 115, 101], [119, 104, 105, 108, 101], [119, 105, 116, 104, 105, 110], [121, 105, 101, 108, 100]]
def isWord (s : List UInt8) : Bool := words.contains s
def isName (s : List UInt8) : Bool := isRun s && decide (s.length ≤ 12) && !isWord s
theorem words_run : words.all (fun w => isRun w && decide (w.length ≤ 12) && isWord w) = true := by decide +kernel
/-! Lines and columns -/
end Go.Lex
