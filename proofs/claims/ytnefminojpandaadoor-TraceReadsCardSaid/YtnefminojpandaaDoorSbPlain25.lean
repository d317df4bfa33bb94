/- Lines of events, written and read, in plain Lean. -/
import Derived.Test.YtnefminojpandaaDoorSbLine25
import Derived.Test.YtnefminojpandaaDoorSbNum2
set_option linter.unusedVariables false
set_option linter.unusedSimpArgs false
namespace Go.Proofs.YtnefminojpandaaDoor
open Go.Sb

def wordsB : List (List UInt8) := [[115, 116, 97, 114, 116], [119, 97, 105, 116], [103, 111], [101, 109, 105, 116], [111, 112, 101, 110], [108, 101, 97, 118, 101], [115, 104, 105, 101, 108, 100], [117, 110, 118, 101, 105, 108], [115, 116, 114, 105, 107, 101], [99, 97, 110, 99, 101, 108], [108, 97, 116, 101], [97, 99, 113, 117, 105, 114, 101], [114, 101, 108, 101, 97, 115, 101], [108, 101, 97, 107], [109, 97, 107, 101], [99, 108, 111, 115, 101], [108, 111, 99, 107], [102, 114, 101, 101], [111, 114, 100, 101, 114], [116, 105, 109, 101], [101, 110, 100], [108, 101, 102, 116]]

/-- The name of a kind. -/
def nameB (k : Int) : List UInt8 := wordsB.getD (k - 1).toNat []

/-- The line of an event, without its line feed. -/
def bodyB (e : Ev) : List UInt8 := Lib.itoa e.at_ ++ 32 :: (Lib.itoa e.task ++ 32 :: (nameB e.kind ++ 32 :: (Lib.itoa e.n ++ 32 :: (Lib.itoa e.m ++ 32 :: (valText e.vk e.vn e.vs ++ 32 :: faultText e.fk e.ft)))))
def lineB (e : Ev) : List UInt8 := bodyB e ++ [10]

/-! The reader -/
def wordR (s : List UInt8) : List UInt8 × List UInt8 := (s.takeWhile (· != 32), s.dropWhile (· != 32))
def signR (x : List UInt8) (s : List UInt8) (b : Bool) : List UInt8 × Bool := if x.isPrefixOf s then (s.drop x.length, b) else (s, true)
def numR (w : List UInt8) (b : Bool) : Int × Bool := match Lib.atoiAll w with
  | .ok n => if Lib.itoa n = w then (n, b) else (0, true)
  | _ => (0, true)
def unq : List UInt8 → Option (List UInt8 × List UInt8)
  | [] => none
  | c :: r => if c = 34 then some ([], r) else if c = 92 then (match r with
      | d :: r' => if d = 34 ∨ d = 92 then (unq r').map fun p => (d :: p.1, p.2) else none
      | [] => none)
    else (unq r).map fun p => (c :: p.1, p.2)
def textR (s : List UInt8) (b : Bool) : List UInt8 × List UInt8 × Bool :=
  if (signR [34] s b).2 = true then ([], (signR [34] s b).1, true)
  else match unq (signR [34] s b).1 with
    | some p => (p.1, p.2, false)
    | none => ([], (signR [34] s b).1, true)
def valR (s : List UInt8) (b : Bool) : (Int × Int × List UInt8) × List UInt8 × Bool :=
  if [34].isPrefixOf s = true then ((3, 0, (textR s b).1), (textR s b).2)
  else if (wordR s).1 = [95] then ((0, 0, []), (wordR s).2, b)
  else if (wordR s).1 = [116, 114, 117, 101] then ((2, 1, []), (wordR s).2, b)
  else if (wordR s).1 = [102, 97, 108, 115, 101] then ((2, 0, []), (wordR s).2, b)
  else match (wordR s).1 with
    | [] => ((0, 0, []), (wordR s).2, true)
    | c :: r => if c = 99 then ((4, (numR r b).1, []), (wordR s).2, (numR r b).2)
      else if c = 116 then ((5, (numR r b).1, []), (wordR s).2, (numR r b).2)
      else if c = 108 then ((6, (numR r b).1, []), (wordR s).2, (numR r b).2)
      else ((1, (numR (c :: r) b).1, []), (wordR s).2, (numR (c :: r) b).2)
def faultR (s : List UInt8) (b : Bool) : (Int × List UInt8) × List UInt8 × Bool :=
  if (wordR s).1 = [45] then ((0, []), (wordR s).2, b)
  else if (wordR s).1 = [99, 97, 110, 99, 101, 108] then ((2, []), (wordR s).2, b)
  else if (wordR s).1 = [116, 104, 114, 111, 119] then ((1, (textR (signR [32] (wordR s).2 b).1 (signR [32] (wordR s).2 b).2).1), (textR (signR [32] (wordR s).2 b).1 (signR [32] (wordR s).2 b).2).2)
  else ((0, []), (wordR s).2, true)
def kindR (w : List UInt8) : Int := if w ∈ wordsB then (wordsB.idxOf w : Int) + 1 else 0

/-- A word that is a number, and the blank after it. -/
def fieldR (s : List UInt8) (b : Bool) : Int × List UInt8 × Bool := ((numR (wordR s).1 b).1, signR [32] (wordR s).2 (numR (wordR s).1 b).2)
def kfieldR (s : List UInt8) (b : Bool) : Int × List UInt8 × Bool := (kindR (wordR s).1, signR [32] (wordR s).2 b)

def evR (s : List UInt8) : Ev × Bool :=
  let a := fieldR s false
  let t := fieldR a.2.1 a.2.2
  let k := kfieldR t.2.1 t.2.2
  let n := fieldR k.2.1 k.2.2
  let m := fieldR n.2.1 n.2.2
  let v := valR m.2.1 m.2.2
  let p := signR [32] v.2.1 v.2.2
  let f := faultR p.1 p.2
  let e : Ev := ⟨a.1, t.1, k.1, n.1, m.1, v.1.1, v.1.2.1, v.1.2.2, f.1.1, f.1.2⟩
  (e, !f.2.2 && decide (f.2.1 = []) && okEv e)

/-! What is read is the text. -/
theorem word_join (s : List UInt8) : s = (wordR s).1 ++ (wordR s).2 := (List.takeWhile_append_dropWhile).symm

theorem signR_ok {x s s' : List UInt8} {b : Bool} (h : signR x s b = (s', false)) : s = x ++ s' ∧ b = false := by
  unfold signR at h
  split at h
  · rename_i hp
    cases h
    obtain ⟨t, rfl⟩ := List.isPrefixOf_iff_prefix.1 hp
    simp
  · cases h

theorem numR_ok {w : List UInt8} {b : Bool} {n : Int} (h : numR w b = (n, false)) : w = Lib.itoa n ∧ b = false := by
  unfold numR at h
  split at h
  · split at h
    · rename_i h1; cases h; exact ⟨h1.symm, rfl⟩
    · cases h
  · cases h

theorem fieldR_ok {s s' : List UInt8} {b : Bool} {n : Int} (h : fieldR s b = (n, s', false)) : s = Lib.itoa n ++ 32 :: s' ∧ b = false := by
  unfold fieldR at h
  injection h with h1 h2
  obtain ⟨h3, h4⟩ := signR_ok h2
  obtain ⟨h5, h6⟩ := numR_ok (n := n) (Prod.ext h1 h4)
  refine ⟨?_, h6⟩
  rw [word_join s, h5, h3]; rfl

theorem kindR_name {w : List UInt8} (h : 1 ≤ kindR w) : nameB (kindR w) = w := by
  unfold kindR at h ⊢
  split
  · rename_i hw
    unfold nameB
    have h1 : wordsB.idxOf w < wordsB.length := List.idxOf_lt_length_of_mem hw
    rw [show ((wordsB.idxOf w : Int) + 1 - 1).toNat = wordsB.idxOf w by omega, List.getD_eq_getElem?_getD, List.getElem?_eq_getElem h1, Option.getD_some]
    exact List.getElem_idxOf h1
  · rename_i hw
    rw [if_neg hw] at h; omega

theorem unq_ok : ∀ (n : Nat) (l t r : List UInt8), l.length ≤ n → unq l = some (t, r) → l = quoteB t ++ 34 :: r := by
  intro n
  induction n with
  | zero =>
    intro l t r hl h
    have : l = [] := List.length_eq_zero_iff.1 (by omega)
    subst this
    simp [unq] at h
  | succ n ih =>
    intro l t r hl h
    cases l with
    | nil => simp [unq] at h
    | cons c l =>
      rw [unq.eq_def] at h
      simp only at h
      split at h
      · rename_i hc; cases h; subst hc; simp [quoteB]
      · split at h
        · rename_i hc
          split at h
          · split at h
            · rename_i d r' hd
              cases hu : unq r' with
              | none => rw [hu] at h; cases h
              | some p =>
                rw [hu] at h
                simp only [Option.map_some, Option.some.injEq, Prod.mk.injEq] at h
                obtain ⟨rfl, rfl⟩ := h
                have := ih r' p.1 p.2 (by simp at hl; omega) hu
                subst hc
                simp only [quoteB, List.flatMap_cons]
                rw [if_pos hd]
                rw [this]
                simp [quoteB]
            · cases h
          · cases h
        · rename_i hc1 hc2
          cases hu : unq l with
          | none => rw [hu] at h; cases h
          | some p =>
            rw [hu] at h
            simp only [Option.map_some, Option.some.injEq, Prod.mk.injEq] at h
            obtain ⟨rfl, rfl⟩ := h
            have := ih l p.1 p.2 (by simp at hl; omega) hu
            simp only [quoteB, List.flatMap_cons]
            rw [if_neg (by simp [hc1, hc2]), this]
            simp [quoteB]

theorem textR_ok {s t s' : List UInt8} {b : Bool} (h : textR s b = (t, s', false)) : s = [34] ++ quoteB t ++ [34] ++ s' ∧ b = false := by
  unfold textR at h
  split at h
  · cases h
  · rename_i hb
    split at h
    · rename_i p hu
      cases h
      have := unq_ok _ _ _ _ (Nat.le_refl _) (show unq _ = some (p.1, p.2) from hu)
      obtain ⟨h1, h2⟩ := signR_ok (x := [34]) (s := s) (b := b) (s' := (signR [34] s b).1) (Prod.ext rfl (by simpa using hb))
      rw [this] at h1
      exact ⟨by rw [h1]; simp, h2⟩
    · cases h

theorem valR_ok {s s' t : List UInt8} {b : Bool} {k n : Int} (h : valR s b = ((k, n, t), s', false)) : s = valText k n t ++ s' ∧ b = false := by
  unfold valR at h
  have hj := word_join s
  split at h
  · simp only [Prod.mk.injEq] at h
    obtain ⟨⟨rfl, rfl, h1⟩, h2⟩ := h
    obtain ⟨h3, h4⟩ := textR_ok (s := s) (b := b) (t := t) (s' := s') (Prod.ext h1 h2)
    exact ⟨by simpa [valText] using h3, h4⟩
  · split at h
    · rename_i hw
      simp only [Prod.mk.injEq] at h
      obtain ⟨⟨rfl, rfl, rfl⟩, h2, h3⟩ := h
      rw [hw, h2] at hj
      exact ⟨by simpa [valText] using hj, h3⟩
    · split at h
      · rename_i hw
        simp only [Prod.mk.injEq] at h
        obtain ⟨⟨rfl, rfl, rfl⟩, h2, h3⟩ := h
        rw [hw, h2] at hj
        exact ⟨by simpa [valText] using hj, h3⟩
      · split at h
        · rename_i hw
          simp only [Prod.mk.injEq] at h
          obtain ⟨⟨rfl, rfl, rfl⟩, h2, h3⟩ := h
          rw [hw, h2] at hj
          exact ⟨by simpa [valText] using hj, h3⟩
        · split at h
          · simp at h
          · rename_i c r hw
            rw [hw] at hj
            split at h
            · simp only [Prod.mk.injEq] at h
              obtain ⟨⟨rfl, hn, rfl⟩, h2, h3⟩ := h
              obtain ⟨h4, h5⟩ := numR_ok (w := r) (b := b) (n := n) (Prod.ext hn h3)
              rename_i hc
              rw [hc, h4, h2] at hj
              exact ⟨by simpa [valText] using hj, h5⟩
            · split at h
              · simp only [Prod.mk.injEq] at h
                obtain ⟨⟨rfl, hn, rfl⟩, h2, h3⟩ := h
                obtain ⟨h4, h5⟩ := numR_ok (w := r) (b := b) (n := n) (Prod.ext hn h3)
                rename_i hc
                rw [hc, h4, h2] at hj
                exact ⟨by simpa [valText] using hj, h5⟩
              · split at h
                · simp only [Prod.mk.injEq] at h
                  obtain ⟨⟨rfl, hn, rfl⟩, h2, h3⟩ := h
                  obtain ⟨h4, h5⟩ := numR_ok (w := r) (b := b) (n := n) (Prod.ext hn h3)
                  rename_i hc
                  rw [hc, h4, h2] at hj
                  exact ⟨by simpa [valText] using hj, h5⟩
                · simp only [Prod.mk.injEq] at h
                  obtain ⟨⟨rfl, hn, rfl⟩, h2, h3⟩ := h
                  obtain ⟨h4, h5⟩ := numR_ok (w := c :: r) (b := b) (n := n) (Prod.ext hn h3)
                  rw [h4, h2] at hj
                  exact ⟨by simpa [valText] using hj, h5⟩

theorem faultR_ok {s s' t : List UInt8} {b : Bool} {k : Int} (h : faultR s b = ((k, t), s', false)) : s = faultText k t ++ s' ∧ b = false := by
  unfold faultR at h
  have hj := word_join s
  split at h
  · rename_i hw
    simp only [Prod.mk.injEq] at h
    obtain ⟨⟨rfl, rfl⟩, h2, h3⟩ := h
    rw [hw, h2] at hj
    exact ⟨by simpa [faultText] using hj, h3⟩
  · split at h
    · rename_i hw
      simp only [Prod.mk.injEq] at h
      obtain ⟨⟨rfl, rfl⟩, h2, h3⟩ := h
      rw [hw, h2] at hj
      exact ⟨by simpa [faultText] using hj, h3⟩
    · split at h
      · rename_i hw
        simp only [Prod.mk.injEq] at h
        obtain ⟨⟨rfl, h1⟩, h2⟩ := h
        obtain ⟨h3, h4⟩ := textR_ok (t := t) (s' := s') (Prod.ext h1 h2)
        obtain ⟨h5, h6⟩ := signR_ok (x := [32]) (s := (wordR s).2) (b := b) (s' := (signR [32] (wordR s).2 b).1) (Prod.ext rfl h4)
        rw [hw, h5, h3] at hj
        exact ⟨by simpa [faultText, valText] using hj, h6⟩
      · simp at h

theorem evR_ok {s : List UInt8} {e : Ev} (h : evR s = (e, true)) : s = bodyB e ∧ okEv e = true := by
  dsimp only [evR] at h
  generalize ha : fieldR s false = a at h
  obtain ⟨a1, a2, a3⟩ := a
  dsimp only at h
  generalize ht : fieldR a2 a3 = a at h
  obtain ⟨t1, t2, t3⟩ := a
  dsimp only at h
  generalize hk : kfieldR t2 t3 = a at h
  obtain ⟨k1, k2, k3⟩ := a
  dsimp only at h
  generalize hn : fieldR k2 k3 = a at h
  obtain ⟨n1, n2, n3⟩ := a
  dsimp only at h
  generalize hm : fieldR n2 n3 = a at h
  obtain ⟨m1, m2, m3⟩ := a
  dsimp only at h
  generalize hv : valR m2 m3 = a at h
  obtain ⟨⟨v1, v2, v3⟩, v4, v5⟩ := a
  dsimp only at h
  generalize hp : signR [32] v4 v5 = a at h
  obtain ⟨p1, p2⟩ := a
  dsimp only at h
  generalize hf : faultR p1 p2 = a at h
  obtain ⟨⟨f1, f2⟩, f3, f4⟩ := a
  dsimp only at h
  simp only [Prod.mk.injEq] at h
  obtain ⟨he, hb⟩ := h
  simp only [Bool.and_eq_true, Bool.not_eq_true', decide_eq_true_eq] at hb
  obtain ⟨⟨hb, hr⟩, ho⟩ := hb
  rw [he] at ho
  refine ⟨?_, ho⟩
  subst hb hr
  obtain ⟨rfl, rfl⟩ := faultR_ok hf
  obtain ⟨rfl, rfl⟩ := signR_ok hp
  obtain ⟨rfl, rfl⟩ := valR_ok hv
  obtain ⟨rfl, rfl⟩ := fieldR_ok hm
  obtain ⟨rfl, rfl⟩ := fieldR_ok hn
  unfold kfieldR at hk
  injection hk with hk1 hk2
  obtain ⟨hk3, rfl⟩ := signR_ok hk2
  obtain ⟨rfl, rfl⟩ := fieldR_ok ht
  obtain ⟨rfl, _⟩ := fieldR_ok ha
  have hj := word_join t2
  rw [hk3, ← kindR_name (w := (wordR t2).1) (by rw [hk1]; subst he; simp [okEv] at ho; omega), hk1] at hj
  subst he
  rw [hj]
  simp [bodyB]

/-! The text is read. -/
theorem wordR_app {w r : List UInt8} (h : ∀ c ∈ w, c ≠ 32) : wordR (w ++ 32 :: r) = (w, 32 :: r) := by
  unfold wordR
  rw [List.takeWhile_append_of_pos (by simpa using h), List.dropWhile_append_of_pos (by simpa using h)]
  simp
theorem wordR_all {w : List UInt8} (h : ∀ c ∈ w, c ≠ 32) : wordR w = (w, []) := by
  unfold wordR
  have h1 : ∀ a ∈ w, (a != 32) = true := by simpa using h
  have h2 := List.takeWhile_append_of_pos (l₂ := []) h1
  have h3 := List.dropWhile_append_of_pos (l₂ := []) h1
  simp only [List.append_nil, List.takeWhile_nil, List.dropWhile_nil] at h2 h3
  rw [h2, h3]
theorem signR_app {x r : List UInt8} {b : Bool} : signR x (x ++ r) b = (r, b) := by
  unfold signR
  rw [if_pos (List.isPrefixOf_iff_prefix.2 ⟨r, rfl⟩)]
  simp
theorem signR_blank {r : List UInt8} {b : Bool} : signR [32] (32 :: r) b = (r, b) := signR_app (x := [32])

theorem itoa_noblank (n : Int) : ∀ c ∈ Lib.itoa n, c ≠ 32 := fun c hc h => by
  subst h
  have := itoa_bytes n 32 hc
  simp at this

theorem numR_itoa {n : Int} {b : Bool} (h0 : -9223372036854775808 ≤ n) (h1 : n ≤ 9223372036854775807) : numR (Lib.itoa n) b = (n, b) := by
  unfold numR
  rw [atoi_itoa n h0 h1]
  simp

theorem fieldR_itoa {n : Int} {r : List UInt8} {b : Bool} (h0 : -9223372036854775808 ≤ n) (h1 : n ≤ 9223372036854775807) : fieldR (Lib.itoa n ++ 32 :: r) b = (n, r, b) := by
  unfold fieldR
  rw [wordR_app (itoa_noblank n)]
  simp only
  rw [numR_itoa h0 h1, signR_blank]

theorem words_noblank : ∀ w ∈ wordsB, ∀ c ∈ w, c ≠ 32 := by decide
theorem kind_fin : ∀ i : Fin 22, kindR (nameB ((i.val : Int) + 1)) = (i.val : Int) + 1 ∧ nameB ((i.val : Int) + 1) ∈ wordsB := by decide

theorem kindR_nameB {k : Int} (h0 : 1 ≤ k) (h1 : k ≤ 22) : kindR (nameB k) = k ∧ nameB k ∈ wordsB := by
  have h := kind_fin ⟨(k - 1).toNat, by omega⟩
  simp only at h
  rw [show (((k - 1).toNat : Nat) : Int) + 1 = k by omega] at h
  exact h

theorem kfieldR_name {k : Int} {r : List UInt8} {b : Bool} (h0 : 1 ≤ k) (h1 : k ≤ 22) : kfieldR (nameB k ++ 32 :: r) b = (k, r, b) := by
  obtain ⟨h2, h3⟩ := kindR_nameB h0 h1
  unfold kfieldR
  rw [wordR_app (words_noblank _ h3)]
  simp only
  rw [h2, signR_blank]

theorem unq_quote : ∀ (t r : List UInt8), unq (quoteB t ++ 34 :: r) = some (t, r)
  | [], r => by
    simp only [quoteB, List.flatMap_nil, List.nil_append]
    rw [unq.eq_def]
    simp
  | c :: t, r => by
    have ih := unq_quote t r
    simp only [quoteB, List.flatMap_cons] at ih ⊢
    by_cases hc : c = 34 ∨ c = 92
    · rw [if_pos hc]
      simp only [List.cons_append, List.nil_append]
      rw [unq.eq_def]
      simp only [show ¬ ((92 : UInt8) = 34) by decide, if_false, if_true, hc, ih, Option.map_some]
    · rw [if_neg hc]
      simp only [List.cons_append, List.nil_append]
      rw [unq.eq_def]
      have h1 : c ≠ 34 := fun h => hc (.inl h)
      have h2 : c ≠ 92 := fun h => hc (.inr h)
      simp only [h1, h2, if_false, ih, Option.map_some]

theorem textR_quote {t r : List UInt8} : textR ([34] ++ quoteB t ++ [34] ++ r) false = (t, r, false) := by
  have h : signR [34] ([34] ++ quoteB t ++ [34] ++ r) false = (quoteB t ++ 34 :: r, false) := by
    have := signR_app (x := [34]) (r := quoteB t ++ 34 :: r) (b := false)
    simpa using this
  unfold textR
  rw [h]
  simp only [Bool.false_eq_true, if_false]
  rw [unq_quote]

theorem itoa_head {n : Int} {c : UInt8} {r : List UInt8} (h : Lib.itoa n = c :: r) : c.toNat = 45 ∨ (48 ≤ c.toNat ∧ c.toNat ≤ 57) := itoa_bytes n c (by rw [h]; exact List.mem_cons_self ..)

theorem itoa_not {n : Int} {c : UInt8} {r : List UInt8} (h : c.toNat ≠ 45 ∧ (c.toNat < 48 ∨ 57 < c.toNat)) : Lib.itoa n ≠ c :: r := fun e => by
  have := itoa_head e
  omega

theorem valR_text {k n : Int} {t r : List UInt8} (ho : okVal k n t = true) : valR (valText k n t ++ 32 :: r) false = ((k, n, t), 32 :: r, false) := by
  unfold okVal at ho
  split at ho
  · rename_i hk; subst hk
    simp only [Bool.and_eq_true, beq_iff_eq] at ho
    obtain ⟨rfl, rfl⟩ := ho
    have : wordR ((95 : UInt8) :: 32 :: r) = ([95], 32 :: r) := wordR_app (w := [95]) (by simp)
    simp [valText, valR, this]
  split at ho
  · rename_i hk; subst hk
    simp only [Bool.and_eq_true, beq_iff_eq, decide_eq_true_eq] at ho
    obtain ⟨⟨rfl, h0⟩, h1⟩ := ho
    have hw : wordR (Lib.itoa n ++ 32 :: r) = (Lib.itoa n, 32 :: r) := wordR_app (itoa_noblank n)
    have hp : ([34].isPrefixOf (Lib.itoa n ++ 32 :: r)) = false := by
      cases hd : Lib.itoa n with
      | nil => exact absurd hd (itoa_ne n)
      | cons c l =>
        have := itoa_head hd
        simp only [List.cons_append, List.isPrefixOf, Bool.and_true, beq_eq_false_iff_ne]
        rintro rfl
        simp at this
    simp only [valText, if_true]
    unfold valR
    rw [hp, hw]
    simp only
    rw [if_neg (by simp), if_neg (itoa_not (by decide)), if_neg (itoa_not (by decide)), if_neg (itoa_not (by decide))]
    have hn := numR_itoa (n := n) (b := false) (by omega) (by omega)
    cases hd : Lib.itoa n with
    | nil => exact absurd hd (itoa_ne n)
    | cons c l =>
      have := itoa_head hd
      rw [hd] at hn
      simp only
      rw [if_neg (by rintro rfl; simp at this), if_neg (by rintro rfl; simp at this), if_neg (by rintro rfl; simp at this), hn]
  split at ho
  · rename_i hk; subst hk
    simp only [Bool.and_eq_true, beq_iff_eq, Bool.or_eq_true] at ho
    obtain ⟨rfl, h0⟩ := ho
    rcases h0 with rfl | rfl
    · have : wordR ((102 : UInt8) :: 97 :: 108 :: 115 :: 101 :: 32 :: r) = ([102, 97, 108, 115, 101], 32 :: r) := wordR_app (w := [102, 97, 108, 115, 101]) (by simp)
      simp [valText, valR, this]
    · have : wordR ((116 : UInt8) :: 114 :: 117 :: 101 :: 32 :: r) = ([116, 114, 117, 101], 32 :: r) := wordR_app (w := [116, 114, 117, 101]) (by simp)
      simp [valText, valR, this]
  split at ho
  · rename_i hk; subst hk
    simp only [Bool.and_eq_true, beq_iff_eq] at ho
    obtain ⟨rfl, _⟩ := ho
    have h1 := textR_quote (t := t) (r := 32 :: r)
    have h2 : valText 3 0 t ++ 32 :: r = [34] ++ quoteB t ++ [34] ++ 32 :: r := by simp [valText]
    rw [h2]
    unfold valR
    rw [if_pos (by simp), h1]
  split at ho
  · rename_i hk
    simp only [Bool.and_eq_true, beq_iff_eq, decide_eq_true_eq] at ho
    obtain ⟨⟨rfl, h0⟩, h1⟩ := ho
    have hn := numR_itoa (n := n) (b := false) (by omega) (by omega)
    have key : ∀ c : UInt8, c ≠ 32 → wordR (c :: (Lib.itoa n ++ 32 :: r)) = (c :: Lib.itoa n, 32 :: r) := fun c hc => wordR_app (w := c :: Lib.itoa n) (by
      intro x hx
      rcases List.mem_cons.1 hx with rfl | hx
      · exact hc
      · exact itoa_noblank n x hx)
    have nt : ∀ (c d : UInt8) (l : List UInt8), (d.toNat ≠ 45 ∧ (d.toNat < 48 ∨ 57 < d.toNat)) → c :: Lib.itoa n ≠ c :: d :: l := fun c d l hd he => itoa_not hd (List.cons.inj he).2
    rcases hk with rfl | rfl | rfl
    · unfold valR
      simp [valText, key 99 (by decide), hn]
    · unfold valR
      simp only [valText, show ¬ ((5 : Int) = 1) by decide, show ¬ ((5 : Int) = 2) by decide, show ¬ ((5 : Int) = 3) by decide, show ¬ ((5 : Int) = 4) by decide, if_false, if_true, List.cons_append, List.nil_append, key 116 (by decide)]
      rw [if_neg (by simp), if_neg (by simp), if_neg (nt _ _ _ (by decide)), if_neg (by simp), if_neg (by simp), hn]
    · unfold valR
      simp [valText, key 108 (by decide), hn]
  · cases ho

theorem faultR_text {k : Int} {t : List UInt8} (ho : okFault k t = true) : faultR (faultText k t) false = ((k, t), [], false) := by
  unfold okFault at ho
  split at ho
  · rename_i hk
    simp only [beq_iff_eq] at ho
    subst ho
    rcases hk with rfl | rfl
    · have : wordR [(45 : UInt8)] = ([45], []) := wordR_all (by simp)
      simp [faultText, faultR, this]
    · have : wordR [(99 : UInt8), 97, 110, 99, 101, 108] = ([99, 97, 110, 99, 101, 108], []) := wordR_all (by simp)
      simp [faultText, faultR, this]
  split at ho
  · rename_i hk; subst hk
    have h1 : faultText 1 t = [116, 104, 114, 111, 119] ++ 32 :: ([34] ++ quoteB t ++ [34] ++ []) := by simp [faultText, valText]
    have h2 := wordR_app (w := [116, 104, 114, 111, 119]) (r := [34] ++ quoteB t ++ [34] ++ []) (by simp)
    rw [h1]
    unfold faultR
    rw [h2]
    simp only
    rw [if_neg (by simp), if_neg (by simp), if_pos trivial, signR_blank, textR_quote]
  · cases ho

theorem evR_body {e : Ev} (ho : okEv e = true) : evR (bodyB e) = (e, true) := by
  have ho' := ho
  unfold okEv at ho
  simp only [Bool.and_eq_true, decide_eq_true_eq] at ho
  obtain ⟨⟨⟨⟨⟨⟨⟨⟨⟨⟨⟨h1, h2⟩, h3⟩, h4⟩, h5⟩, h6⟩, h7⟩, h8⟩, h9⟩, h10⟩, h11⟩, h12⟩ := ho
  unfold evR bodyB
  simp only [fieldR_itoa (n := e.at_) (by omega) (by omega), fieldR_itoa (n := e.task) (by omega) (by omega), fieldR_itoa (n := e.n) (by omega) (by omega), fieldR_itoa (n := e.m) (by omega) (by omega), kfieldR_name h5 h6, valR_text h11, signR_blank, faultR_text h12, ho']
  simp

theorem bodyB_inj {a b : Ev} (ha : okEv a = true) (hb : okEv b = true) (h : bodyB a = bodyB b) : a = b := by
  have h1 := evR_body ha
  rw [h, evR_body hb] at h1
  exact (Prod.mk.inj h1).1.symm

/-- No line feed within a line. -/
theorem okByte_ne {c : UInt8} (h : okByte c = true) : c ≠ 10 := by rintro rfl; simp [okByte] at h

theorem quote_ne10 {t : List UInt8} (h : t.all okByte = true) : ∀ c ∈ quoteB t, c ≠ 10 := by
  intro c hc
  simp only [quoteB, List.mem_flatMap] at hc
  obtain ⟨b, hb, hc⟩ := hc
  have hb := okByte_ne (List.all_eq_true.1 h b hb)
  split at hc
  · simp at hc
    rcases hc with rfl | rfl
    · decide
    · exact hb
  · simp at hc; subst hc; exact hb

theorem itoa_ne10 (n : Int) : ∀ c ∈ Lib.itoa n, c ≠ 10 := fun c hc h => by
  subst h
  have := itoa_bytes n 10 hc
  simp at this

theorem val_ne10 {k n : Int} {t : List UInt8} (ho : okVal k n t = true) : ∀ c ∈ valText k n t, c ≠ 10 := by
  intro c hc
  unfold valText at hc
  split at hc
  · exact itoa_ne10 n c hc
  split at hc
  · split at hc <;> (simp at hc; rcases hc with rfl | rfl | rfl | rfl | rfl <;> decide)
  split at hc
  · rename_i hk
    subst hk
    simp [okVal, okText] at ho
    simp only [List.mem_append, List.mem_singleton] at hc
    rcases hc with (rfl | hc) | rfl
    · decide
    · exact quote_ne10 (List.all_eq_true.2 ho.2.2) c hc
    · decide
  all_goals try split at hc
  all_goals try split at hc
  all_goals try split at hc
  all_goals simp only [List.mem_append, List.mem_singleton] at hc
  all_goals first | (rcases hc with rfl | hc; · decide
                     exact itoa_ne10 n c hc) | (subst hc; decide)

theorem fault_ne10 {k : Int} {t : List UInt8} (ho : okFault k t = true) : ∀ c ∈ faultText k t, c ≠ 10 := by
  intro c hc
  unfold faultText at hc
  split at hc
  · simp at hc; subst hc; decide
  split at hc
  · simp at hc; rcases hc with rfl | rfl | rfl | rfl | rfl | rfl <;> decide
  · rename_i h0 h2
    rcases List.mem_append.1 hc with hc | hc
    · simp at hc; rcases hc with rfl | rfl | rfl | rfl | rfl | rfl <;> decide
    · refine val_ne10 (k := 3) (n := 0) (t := t) ?_ c hc
      unfold okFault at ho
      rw [if_neg (by simp [h0, h2])] at ho
      split at ho
      · simp [okVal, ho]
      · cases ho

theorem names_ne10 : ∀ w ∈ wordsB, ∀ c ∈ w, c ≠ 10 := by decide

theorem body_ne10 {e : Ev} (ho : okEv e = true) : ∀ c ∈ bodyB e, c ≠ 10 := by
  unfold okEv at ho
  simp only [Bool.and_eq_true, decide_eq_true_eq] at ho
  obtain ⟨⟨⟨⟨⟨⟨⟨⟨⟨⟨⟨h1, h2⟩, h3⟩, h4⟩, h5⟩, h6⟩, h7⟩, h8⟩, h9⟩, h10⟩, h11⟩, h12⟩ := ho
  intro c hc
  unfold bodyB at hc
  simp only [List.mem_append, List.mem_cons] at hc
  have hb : ∀ c : UInt8, c = 32 → c ≠ 10 := by rintro _ rfl; decide
  rcases hc with hc | hc | hc | hc | hc | hc | hc | hc | hc | hc | hc | hc | hc
  · exact itoa_ne10 _ c hc
  · exact hb c hc
  · exact itoa_ne10 _ c hc
  · exact hb c hc
  · exact names_ne10 _ (kindR_nameB h5 h6).2 c hc
  · exact hb c hc
  · exact itoa_ne10 _ c hc
  · exact hb c hc
  · exact itoa_ne10 _ c hc
  · exact hb c hc
  · exact val_ne10 h11 c hc
  · exact hb c hc
  · exact fault_ne10 h12 c hc
end Go.Proofs.YtnefminojpandaaDoor
