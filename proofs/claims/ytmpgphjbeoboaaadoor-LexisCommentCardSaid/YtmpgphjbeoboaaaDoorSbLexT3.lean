/- Plain words about tokens: what a text after the source changes. -/
import Derived.Test.YtmpgphjbeoboaaaDoorSbLexT2
set_option linter.unusedVariables false
set_option linter.unusedSimpArgs false
namespace Go.Lex
open Go.Lib Go.Sb

theorem takeWhile_app {q : UInt8 → Bool} {d : UInt8} (hd : q d = false) (y : List UInt8) : ∀ l : List UInt8, (l ++ d :: y).takeWhile q = l.takeWhile q
  | [] => by simp [List.takeWhile_cons, hd]
  | c :: r => by
    rw [List.cons_append, List.takeWhile_cons, List.takeWhile_cons, takeWhile_app hd y r]
theorem quote_app (z : List UInt8) : ∀ (n : Nat) (r : List UInt8) (p : List UInt8 × Nat), r.length ≤ n → quoteL r = some p → quoteL (r ++ z) = some p
  | _, [], p, _, h => by cases h
  | _, [c], p, _, h => by
    simp only [quoteL] at h
    split at h
    · rename_i hc; cases h
      subst hc
      cases z <;> simp [quoteL]
    · cases h
  | 0, c :: d :: t, p, hl, h => by simp at hl
  | n + 1, c :: d :: t, p, hl, h => by
    simp only [List.length_cons] at hl
    simp only [quoteL, List.cons_append] at h ⊢
    split at h
    · rename_i hc; rw [if_pos hc]; exact h
    · rename_i hc; rw [if_neg hc]
      split at h
      · rename_i h9; rw [if_pos h9]
        split at h
        · rename_i hd; rw [if_pos hd]
          obtain ⟨q, hq, rfl⟩ := Option.map_eq_some_iff.1 h
          rw [quote_app z n t q (by omega) hq]; rfl
        · cases h
      · rename_i h9; rw [if_neg h9]
        obtain ⟨q, hq, rfl⟩ := Option.map_eq_some_iff.1 h
        have := quote_app z n (d :: t) q (by simp only [List.length_cons]; omega) hq
        rw [List.cons_append] at this
        rw [this]; rfl
/-- A byte that ends a token. -/
def endB (d : UInt8) : Prop := letter d = false ∧ digit d = false ∧ ∀ c, isSign [c, d] = false
theorem endB_hash : endB 35 := ⟨by decide, by decide, fun c => by simp [isSign, signs]⟩
theorem endB_lf : endB 10 := ⟨by decide, by decide, fun c => by simp [isSign, signs]⟩
theorem tok_app {d : UInt8} (hd : endB d) (y : List UInt8) : ∀ {l : List UInt8} {p : Int × List UInt8 × Nat}, tokL l = some p → tokL (l ++ d :: y) = some p
  | [], p, h => by cases h
  | c :: r, p, h => by
    have t1 := takeWhile_app (q := fun c => letter c || digit c) (d := d) (by simp [hd.1, hd.2.1]) y (c :: r)
    have t2 := takeWhile_app (q := digit) (d := d) hd.2.1 y (c :: r)
    rw [List.cons_append] at t1 t2 ⊢
    simp only [tokL] at h ⊢
    rw [t1, t2]
    split at h
    · rename_i hl; rw [if_pos hl]; exact h
    · rename_i hl; rw [if_neg hl]
      split at h
      · rename_i hg; rw [if_pos hg]; exact h
      · rename_i hg; rw [if_neg hg]
        split at h
        · rename_i h34; rw [if_pos h34]
          split at h
          · rename_i q hq
            rw [quote_app (d :: y) r.length r q (Nat.le_refl _) hq]; exact h
          · cases h
        · rename_i h34; rw [if_neg h34]
          cases r with
          | nil =>
            rw [if_neg (by simp)] at h
            rw [List.nil_append, if_neg (fun q => by have := hd.2.2 c; simp only [List.take_succ_cons, List.take_zero] at q; rw [q.2] at this; cases this)]
            exact h
          | cons e t =>
            by_cases q : isSign [c, e] = true
            · rw [if_pos (⟨by simp, q⟩ : 2 ≤ (c :: e :: t).length ∧ isSign ((c :: e :: t).take 2) = true)] at h
              rw [if_pos (⟨by simp, q⟩ : 2 ≤ (c :: (e :: t ++ d :: y)).length ∧ isSign ((c :: (e :: t ++ d :: y)).take 2) = true)]; exact h
            · rw [if_neg (fun w => q w.2 : ¬ (2 ≤ (c :: e :: t).length ∧ isSign ((c :: e :: t).take 2) = true))] at h
              rw [if_neg (fun w => q w.2 : ¬ (2 ≤ (c :: (e :: t ++ d :: y)).length ∧ isSign ((c :: (e :: t ++ d :: y)).take 2) = true))]; exact h

/-- What is skipped on either side of the end. -/
theorem skip_app {x : List UInt8} (h1 : skipS true x = []) (h2 : skipS false x = []) : ∀ (m : Bool) (l : List UInt8), (skipS m l ≠ [] → skipS m (l ++ x) = skipS m l ++ x) ∧ (skipS m l = [] → skipS m (l ++ x) = [])
  | true, [] => ⟨fun q => absurd rfl q, fun _ => h1⟩
  | false, [] => ⟨fun q => absurd rfl q, fun _ => h2⟩
  | false, c :: r => by
    have a := skip_app h1 h2 false r
    have b := skip_app h1 h2 true r
    rw [List.cons_append]
    simp only [skipS]
    split
    · exact a
    · split
      · exact b
      · exact ⟨fun _ => rfl, fun q => by cases q⟩
  | true, c :: r => by
    have a := skip_app h1 h2 false r
    have b := skip_app h1 h2 true r
    rw [List.cons_append]
    simp only [skipS]
    split
    · exact a
    · exact b
theorem skip_comment : ∀ (y : List UInt8), 10 ∉ y → skipS true (y ++ [10]) = []
  | [], _ => rfl
  | c :: r, h => by
    rw [List.cons_append]
    simp only [skipS]
    rw [if_neg (fun e => h (by simp [e]))]
    exact skip_comment r (fun q => h (List.mem_cons_of_mem _ q))
theorem skipN_app_lt {u x : List UInt8} {j : Nat} (h1 : skipS true x = []) (h2 : skipS false x = []) (hj : j ≤ u.length) (hs : skipN u j < u.length) : skipN (u ++ x) j = skipN u j := by
  have hd : (u ++ x).drop j = u.drop j ++ x := by rw [List.drop_append_of_le_length hj]
  have k := skipN_drop hj
  have hne : skipS false (u.drop j) ≠ [] := by
    rw [k]; intro q; have := congrArg List.length q; simp at this; omega
  refine skipN_of (by simp; omega) ?_
  rw [hd, (skip_app h1 h2 false _).1 hne, k, List.drop_append_of_le_length (by omega)]
theorem skipN_app_ge {u x : List UInt8} {j : Nat} (h1 : skipS true x = []) (h2 : skipS false x = []) (hj : j ≤ u.length) (hs : u.length ≤ skipN u j) : skipN (u ++ x) j = (u ++ x).length := by
  have hd : (u ++ x).drop j = u.drop j ++ x := by rw [List.drop_append_of_le_length hj]
  have k := skipN_drop hj
  rw [List.drop_eq_nil_of_le hs] at k
  unfold skipN
  rw [hd, (skip_app h1 h2 false _).2 k]; rfl
/-- Tokens stay as they are when blanks or a comment follow the source. -/
theorem toks_app {u : List UInt8} {d : UInt8} {y : List UInt8} (hd : endB d) (h1 : skipS true (d :: y) = []) (h2 : skipS false (d :: y) = []) : ∀ (k k' j : Nat) (ts : List (Int × List UInt8 × Int)), u.length < k + j → (u ++ d :: y).length < k' + j → j ≤ u.length → toksL u k j = (ts, none) → toksL (u ++ d :: y) k' j = (ts, none)
  | 0, _, j, ts, hk, _, hj, _ => by omega
  | k + 1, 0, j, ts, _, hk', hj, _ => by simp at hk'; omega
  | k + 1, k' + 1, j, ts, hk, hk', hj, h => by
    have hle := skipN_ge hj
    by_cases hs : skipN u j < u.length
    · have e := skipN_app_lt h1 h2 hj hs
      cases ht : tokL (u.drop (skipN u j)) with
      | none => rw [toks_bad hs ht] at h; cases h
      | some p =>
        have hp := tok_len ht
        rw [toks_tok hs ht] at h
        have ht2 : tokL ((u ++ d :: y).drop (skipN (u ++ d :: y) j)) = some p := by
          rw [e, List.drop_append_of_le_length (by omega)]; exact tok_app hd y ht
        rw [toks_tok (by rw [e]; simp; omega) ht2, e]
        simp only [Prod.mk.injEq] at h
        have ih := toks_app hd h1 h2 k k' (skipN u j + p.2.2) (toksL u k (skipN u j + p.2.2)).1 (by omega) (by simp only [List.length_append, List.length_cons] at hk' ⊢; omega) (by omega) (Prod.ext rfl h.2)
        rw [ih]; exact Prod.ext h.1 rfl
    · rw [toks_end (by omega)] at h
      have e := skipN_app_ge h1 h2 hj (by omega)
      rw [toks_end (by omega)]; exact h
end Go.Lex
