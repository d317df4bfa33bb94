/- The reference's reader: values. -/
import Derived.Test.YtnefminojpandaaDoorSbRefQuote25
set_option linter.unusedVariables false
set_option linter.unusedSimpArgs false
namespace Go.Proofs.YtnefminojpandaaDoor
open Go.Sb
set_option maxRecDepth 100000

theorem val_cases {k n : Int} {t : List UInt8} (h : okVal k n t = true) : (k = 0 ∧ n = 0 ∧ t = [] ∧ valText k n t = [95]) ∨ (k = 2 ∧ n = 1 ∧ t = [] ∧ valText k n t = [116, 114, 117, 101]) ∨ (k = 2 ∧ n = 0 ∧ t = [] ∧ valText k n t = [102, 97, 108, 115, 101]) ∨
    (k = 3 ∧ valText k n t = [34] ++ quoteB t ++ [34]) ∨ (k = 1 ∧ t = [] ∧ valText k n t = Lib.itoa n) ∨ (k = 4 ∧ t = [] ∧ valText k n t = 99 :: Lib.itoa n) ∨ (k = 5 ∧ t = [] ∧ valText k n t = 116 :: Lib.itoa n) ∨ (k = 6 ∧ t = [] ∧ valText k n t = 108 :: Lib.itoa n) := by
  unfold okVal at h
  split at h
  · rename_i hk; subst hk
    simp only [Bool.and_eq_true, beq_iff_eq] at h
    exact .inl ⟨rfl, h.1, h.2, by simp [valText]⟩
  split at h
  · rename_i hk; subst hk
    simp only [Bool.and_eq_true, beq_iff_eq] at h
    exact .inr (.inr (.inr (.inr (.inl ⟨rfl, h.1.1, by simp [valText]⟩))))
  split at h
  · rename_i hk; subst hk
    simp only [Bool.and_eq_true, beq_iff_eq, Bool.or_eq_true] at h
    rcases h.2 with h2 | h2
    · subst h2; exact .inr (.inr (.inl ⟨rfl, rfl, h.1, by simp [valText]⟩))
    · subst h2; exact .inr (.inl ⟨rfl, rfl, h.1, by simp [valText]⟩)
  split at h
  · rename_i hk; subst hk
    exact .inr (.inr (.inr (.inl ⟨rfl, by simp [valText]⟩)))
  split at h
  · rename_i hk
    simp only [Bool.and_eq_true, beq_iff_eq] at h
    rcases hk with rfl | rfl | rfl
    · exact .inr (.inr (.inr (.inr (.inr (.inl ⟨rfl, h.1.1, by simp [valText]⟩)))))
    · exact .inr (.inr (.inr (.inr (.inr (.inr (.inl ⟨rfl, h.1.1, by simp [valText]⟩))))))
    · exact .inr (.inr (.inr (.inr (.inr (.inr (.inr ⟨rfl, h.1.1, by simp [valText]⟩))))))
  · cases h

theorem wordQ_app {w rest : List UInt8} {c : UInt8} (h : ∀ x ∈ w, x ≠ 32 ∧ x ≠ 10) (hc : c = 32 ∨ c = 10) : wordQ (w ++ c :: rest) = w := by
  unfold wordQ
  rw [List.takeWhile_append_of_pos (by intro x hx; simp [h x hx])]
  rcases hc with rfl | rfl <;> simp

theorem wordQ_val {k n : Int} {t rest : List UInt8} {c : UInt8} (h : okVal k n t = true) (hk : k ≠ 3) (hc : c = 32 ∨ c = 10) : wordQ (valText k n t ++ c :: rest) = valText k n t := by
  refine wordQ_app (fun x hx => ?_) hc
  refine ⟨fun e => ?_, val_ne10 h x hx⟩
  subst e
  rcases val_cases h with ⟨g1, g2, g3, g4⟩ | ⟨g1, g2, g3, g4⟩ | ⟨g1, g2, g3, g4⟩ | ⟨g1, g4⟩ | ⟨g1, g3, g4⟩ | ⟨g1, g3, g4⟩ | ⟨g1, g3, g4⟩ | ⟨g1, g3, g4⟩
  · rw [g4] at hx; simp at hx
  · rw [g4] at hx; simp at hx
  · rw [g4] at hx; simp at hx
  · exact hk g1
  · rw [g4] at hx; exact itoa_noblank n 32 hx rfl
  all_goals (rw [g4] at hx; rcases List.mem_cons.1 hx with hx | hx; · cases hx
             exact itoa_noblank n 32 hx rfl)

set_option maxHeartbeats 8000000 in
theorem rreadval_has (h : Heap) (s : List UInt8) {a : Nat} (ha : a ≤ s.length) (hl : s.length ≤ 2 ^ 38) : ∃ (k n : Int) (t : List UInt8) (to : Nat) (ok : Bool), Has env2 .own 83 [.str s, .int .i64 a] h (.val (.tup [valV k n t, .int .i64 to, .bool ok]) h) ∧ (-9223372036854775808 ≤ n ∧ n ≤ 9223372036854775807) ∧ (ok = true → a ≤ to ∧ to ≤ s.length) ∧
    ∀ k' n' t' c rest, okVal k' n' t' = true → (c = 32 ∨ c = 10) → s.drop a = valText k' n' t' ++ c :: rest → (k = k' ∧ n = n' ∧ t = t') ∧ ok = true ∧ to + (rest.length + 1) = s.length := by
  suffices hs : ∃ w, Has env2 .own 83 [.str s, .int .i64 a] h (.val w h) ∧ ∃ (k n : Int) (t : List UInt8) (to : Nat) (ok : Bool), w = .tup [valV k n t, .int .i64 to, .bool ok] ∧ (-9223372036854775808 ≤ n ∧ n ≤ 9223372036854775807) ∧ (ok = true → a ≤ to ∧ to ≤ s.length) ∧
    ∀ k' n' t' c rest, okVal k' n' t' = true → (c = 32 ∨ c = 10) → s.drop a = valText k' n' t' ++ c :: rest → (k = k' ∧ n = n' ∧ t = t') ∧ ok = true ∧ to + (rest.length + 1) = s.length by
    obtain ⟨w, k1, k, n, t, to, ok, rfl, k2⟩ := hs
    exact ⟨k, n, t, to, ok, k1, k2⟩
  refine HasP.ownE (a := [.str s, .int .i64 a]) (d := fn83) rfl rfl rfl (of_decide_eq_true rfl) ?_
  have haz : (0 : Int) ≤ (a : Int) := by omega
  apply RunP.seq
  apply RunP.region
  apply RunP.seq
  apply RunP.seq
  apply RunP.region
  apply And.intro
  · intro hlt
    have hi : a < s.length := by omega
    obtain ⟨c, hc⟩ : ∃ c, s[a]? = some c := ⟨_, List.getElem?_eq_getElem hi⟩
    refine And.intro haz (Exists.intro c (And.intro hc ?_))
    apply And.intro
    · intro h34
      have := b8_eq (c := c) (d := 34) h34
      subst this
      apply RunP.condT rfl
      apply RunP.seq
      apply RunP.region
      obtain ⟨t, to, ok, q1, q2, q3⟩ := rquoted_has [.cells 23 [.int .i64 0, .int .i64 0, .str []]] s hi hl
      refine CallK.of q1 ?_
      apply RunP.seq
      apply RunP.region
      apply RunP.seq
      apply RunP.drawn
      · decide +kernel
      have hdc := drop_cons hc
      have hq : ∀ k' n' t' c' rest, okVal k' n' t' = true → s.drop a = valText k' n' t' ++ c' :: rest → (k' = 3 ∧ n' = 0) ∧ t = t' ∧ ok = true ∧ to + (rest.length + 1) = s.length ∧ (s.take to).drop a = valText k' n' t' := fun k' n' t' c' rest h1 h3 => by
        have e1 := hdc.symm.trans h3
        rcases val_cases h1 with ⟨g1, g2, g3, g4⟩ | ⟨g1, g2, g3, g4⟩ | ⟨g1, g2, g3, g4⟩ | ⟨g1, g4⟩ | ⟨g1, g3, g4⟩ | ⟨g1, g3, g4⟩ | ⟨g1, g3, g4⟩ | ⟨g1, g3, g4⟩
        all_goals first
          | (exfalso; rw [g4] at e1; simp at e1; done)
          | (exfalso
             rw [g4] at e1
             cases hd : Lib.itoa n' with
             | nil => exact itoa_ne _ hd
             | cons x y =>
               have := itoa_head hd
               rw [hd] at e1
               simp at e1
               rw [← e1.1] at this
               simp at this)
          | skip
        have hn : n' = 0 := by subst g1; simp [okVal] at h1; exact h1.1
        have h4 : s.drop (a + 1) = quoteB t' ++ 34 :: (c' :: rest) := by
          rw [g4] at e1
          simp only [List.append_assoc, List.cons_append, List.nil_append, List.cons.injEq, true_and] at e1
          exact e1
        obtain ⟨r1, r2, r3⟩ := q3 t' (c' :: rest) h4
        simp only [List.length_cons] at r3
        refine ⟨⟨g1, hn⟩, r1, r2, r3, ?_⟩
        have hlen := congrArg List.length h3
        rw [List.length_append, List.length_drop, List.length_cons] at hlen
        rw [List.drop_take, h3, List.take_append_of_le_length (by omega), List.take_of_length_le (by omega)]
      cases ok
      · apply RunP.ret
        exact ⟨rfl, _, rfl, rfl, 3, 0, t, to, false, rfl, ⟨by omega, by omega⟩, (fun h => by cases h), fun k' n' t' c' rest h1 _ h3 => by
          have := (hq k' n' t' c' rest h1 h3).2.2.1
          cases this⟩
      · have hb2 := q2 rfl
        refine CallK.of (rvalue_has _ 3 0 t) ?_
        refine drawR (by decide +kernel) (by decide +kernel) ?_
        cases ho : okVal 3 0 t
        · apply RunP.ret
          exact ⟨rfl, _, rfl, rfl, 3, 0, t, to, false, rfl, ⟨by omega, by omega⟩, (fun h => by cases h), fun k' n' t' c' rest h1 _ h3 => by
            obtain ⟨⟨e1, e2⟩, e3, _⟩ := hq k' n' t' c' rest h1 h3
            subst e1 e2 e3
            rw [ho] at h1; cases h1⟩
        · refine CallK.of (rval_has _ 3 0 t ho (by omega) (by omega)) ?_
          refine drawR (by decide +kernel) (by decide +kernel) ?_
          apply And.intro
          · omega
          apply And.intro
          · omega
          apply And.intro
          · omega
          apply And.intro
          · intro heq
            apply RunP.ret
            exact ⟨rfl, _, rfl, rfl, 3, 0, t, to, true, rfl, ⟨by omega, by omega⟩, (fun _ => ⟨by omega, hb2.2⟩), fun k' n' t' c' rest h1 h2 h3 => by
              obtain ⟨⟨e1, e2⟩, e3, e4, e5, _⟩ := hq k' n' t' c' rest h1 h3
              exact ⟨⟨e1.symm, e2.symm, e3⟩, rfl, e5⟩⟩
          · intro hne
            apply RunP.ret
            exact ⟨rfl, _, rfl, rfl, 3, 0, t, to, false, rfl, ⟨by omega, by omega⟩, (fun h => by cases h), fun k' n' t' c' rest h1 h2 h3 => by
              obtain ⟨⟨e1, e2⟩, e3, e4, e5, e6⟩ := hq k' n' t' c' rest h1 h3
              subst e1 e2 e3
              exact absurd e6.symm (by simpa using hne)⟩
    · intro h34
      have n34 : s[a]? ≠ some 34 := by rw [hc]; intro e; exact b8_ne (c := c) (d := 34) h34 (Option.some.inj e)
      have hword : ∀ k' n' t' c' rest, okVal k' n' t' = true → (c' = 32 ∨ c' = 10) → s.drop a = valText k' n' t' ++ c' :: rest → k' ≠ 3 ∧ (wordQ (s.drop a)) = valText k' n' t' ∧ (a + (wordQ (s.drop a)).length) + (rest.length + 1) = s.length := fun k' n' t' c' rest h1 h2 h3 => by
        have hk3 : k' ≠ 3 := fun e => by
          subst e
          rw [valText, if_neg (by decide), if_neg (by decide), if_pos rfl] at h3
          exact n34 (by rw [← List.head?_drop, h3]; rfl)
        have hw : (wordQ (s.drop a)) = valText k' n' t' := by rw [h3]; exact wordQ_val h1 hk3 h2
        refine ⟨hk3, hw, ?_⟩
        have := congrArg List.length h3
        rw [List.length_append, List.length_drop, List.length_cons] at this
        rw [hw]; omega
      have hwle : a + (wordQ (s.drop a)).length ≤ s.length := by
        have : (wordQ (s.drop a)).length ≤ (s.drop a).length := (List.takeWhile_prefix _).length_le
        rw [List.length_drop] at this; omega
      apply RunP.condF rfl
      apply RunP.skip
      apply RunP.seq
      apply RunP.region
      refine CallK.of (rword_has _ s (by omega) hl) ?_
      apply RunP.seq
      apply RunP.region
      apply RunP.seq
      apply RunP.block
      apply RunP.seq
      apply RunP.region
      apply And.intro
      · intro hw
        apply RunP.condT rfl
        apply RunP.seq
        apply RunP.region
        apply RunP.ret
        refine ⟨rfl, _, rfl, rfl, 0, 0, [], (a + (wordQ (s.drop a)).length), true, rfl, ⟨by omega, by omega⟩, fun _ => ⟨by omega, by omega⟩, fun k' n' t' c' rest h1 h2 h3 => ?_⟩
        obtain ⟨hk3, e1, e2⟩ := hword k' n' t' c' rest h1 h2 h3
        rw [hw] at e1
        rcases val_cases h1 with ⟨g1, g2, g3, g4⟩ | ⟨g1, g2, g3, g4⟩ | ⟨g1, g2, g3, g4⟩ | ⟨g1, g4⟩ | ⟨g1, g3, g4⟩ | ⟨g1, g3, g4⟩ | ⟨g1, g3, g4⟩ | ⟨g1, g3, g4⟩
        all_goals first
          | exact ⟨⟨g1.symm, g2.symm, g3.symm⟩, rfl, e2⟩
          | exact absurd g1 hk3
          | (exfalso; rw [g4] at e1; simp at e1; done)
          | (exfalso; rw [g4] at e1; exact itoa_not (by decide) e1.symm)
          | (exfalso; rw [g4] at e1; exact itoa_not (by decide) (List.cons.inj e1).2.symm)
          | (exfalso; rw [g4] at e1; exact itoa_ne _ e1.symm)
      intro w0
      apply RunP.condF rfl
      apply RunP.seq
      apply RunP.region
      apply And.intro
      · intro hw
        apply RunP.condT rfl
        apply RunP.seq
        apply RunP.region
        apply RunP.seq
        apply RunP.seq
        apply RunP.region
        refine And.intro (fun _ => ?_) (fun hn => absurd hw hn)
        apply RunP.condT rfl
        apply RunP.region
        apply RunP.seq
        apply RunP.region
        apply RunP.ret
        refine ⟨rfl, _, rfl, rfl, 2, 1, [], (a + (wordQ (s.drop a)).length), true, rfl, ⟨by omega, by omega⟩, fun _ => ⟨by omega, by omega⟩, fun k' n' t' c' rest h1 h2 h3 => ?_⟩
        obtain ⟨hk3, e1, e2⟩ := hword k' n' t' c' rest h1 h2 h3
        rw [hw] at e1
        rcases val_cases h1 with ⟨g1, g2, g3, g4⟩ | ⟨g1, g2, g3, g4⟩ | ⟨g1, g2, g3, g4⟩ | ⟨g1, g4⟩ | ⟨g1, g3, g4⟩ | ⟨g1, g3, g4⟩ | ⟨g1, g3, g4⟩ | ⟨g1, g3, g4⟩
        all_goals first
          | exact ⟨⟨g1.symm, g2.symm, g3.symm⟩, rfl, e2⟩
          | exact absurd g1 hk3
          | (exfalso; rw [g4] at e1; simp at e1; done)
          | (exfalso; rw [g4] at e1; exact itoa_not (by decide) e1.symm)
          | (exfalso; rw [g4] at e1; exact itoa_not (by decide) (List.cons.inj e1).2.symm)
          | (exfalso; rw [g4] at e1; exact itoa_ne _ e1.symm)
      intro w1
      apply And.intro
      · intro hw
        apply RunP.condT rfl
        apply RunP.seq
        apply RunP.region
        apply RunP.seq
        apply RunP.seq
        apply RunP.region
        refine And.intro (fun hn => absurd hn w1) (fun _ => ?_)
        apply RunP.condF rfl
        apply RunP.skip
        apply RunP.seq
        apply RunP.region
        apply RunP.ret
        refine ⟨rfl, _, rfl, rfl, 2, 0, [], (a + (wordQ (s.drop a)).length), true, rfl, ⟨by omega, by omega⟩, fun _ => ⟨by omega, by omega⟩, fun k' n' t' c' rest h1 h2 h3 => ?_⟩
        obtain ⟨hk3, e1, e2⟩ := hword k' n' t' c' rest h1 h2 h3
        rw [hw] at e1
        rcases val_cases h1 with ⟨g1, g2, g3, g4⟩ | ⟨g1, g2, g3, g4⟩ | ⟨g1, g2, g3, g4⟩ | ⟨g1, g4⟩ | ⟨g1, g3, g4⟩ | ⟨g1, g3, g4⟩ | ⟨g1, g3, g4⟩ | ⟨g1, g3, g4⟩
        all_goals first
          | exact ⟨⟨g1.symm, g2.symm, g3.symm⟩, rfl, e2⟩
          | exact absurd g1 hk3
          | (exfalso; rw [g4] at e1; simp at e1; done)
          | (exfalso; rw [g4] at e1; exact itoa_not (by decide) e1.symm)
          | (exfalso; rw [g4] at e1; exact itoa_not (by decide) (List.cons.inj e1).2.symm)
          | (exfalso; rw [g4] at e1; exact itoa_ne _ e1.symm)
      intro w2
      apply RunP.condF rfl
      apply RunP.seq
      apply RunP.region
      apply And.intro
      · intro hw
        apply RunP.condT rfl
        apply RunP.seq
        apply RunP.region
        apply RunP.ret
        refine ⟨rfl, _, rfl, rfl, 0, 0, [], (a + (wordQ (s.drop a)).length), false, rfl, ⟨by omega, by omega⟩, fun _ => ⟨by omega, by omega⟩, fun k' n' t' c' rest h1 h2 h3 => ?_⟩
        obtain ⟨hk3, e1, e2⟩ := hword k' n' t' c' rest h1 h2 h3
        rw [hw] at e1
        rcases val_cases h1 with ⟨g1, g2, g3, g4⟩ | ⟨g1, g2, g3, g4⟩ | ⟨g1, g2, g3, g4⟩ | ⟨g1, g4⟩ | ⟨g1, g3, g4⟩ | ⟨g1, g3, g4⟩ | ⟨g1, g3, g4⟩ | ⟨g1, g3, g4⟩
        all_goals first
          | exact ⟨⟨g1.symm, g2.symm, g3.symm⟩, rfl, e2⟩
          | exact absurd g1 hk3
          | (exfalso; rw [g4] at e1; simp at e1; done)
          | (exfalso; rw [g4] at e1; exact itoa_not (by decide) e1.symm)
          | (exfalso; rw [g4] at e1; exact itoa_not (by decide) (List.cons.inj e1).2.symm)
          | (exfalso; rw [g4] at e1; exact itoa_ne _ e1.symm)
      intro w3
      apply RunP.condF rfl
      apply RunP.skip
      obtain ⟨c, r, hw⟩ : ∃ c r, (wordQ (s.drop a)) = c :: r := by
        cases h : (wordQ (s.drop a)) with
        | nil => exact absurd h w3
        | cons c r => exact ⟨c, r, rfl⟩
      have hr0 : List.drop (Int.toNat 1) (List.take (wordQ (s.drop a)).length (wordQ (s.drop a))) = r := by rw [hw]; simp
      apply RunP.seq
      apply RunP.region
      apply RunP.seq
      apply RunP.seq
      apply RunP.region
      refine And.intro (by omega) (Exists.intro c (And.intro (by rw [hw]; rfl) ?_))
      apply RunP.block
      apply RunP.seq
      apply RunP.region
      apply And.intro
      · intro h99
        have := b8_eq (c := c) (d := 99) h99
        subst this
        apply RunP.condT rfl
        apply RunP.region
        apply RunP.seq
        apply RunP.seq
        apply RunP.region
        refine And.intro (fun hn => absurd hn (by decide)) (fun _ => ?_)
        apply RunP.condT rfl
        apply RunP.region
        apply And.intro
        · omega
        apply And.intro
        · rw [hw]; simp
        obtain ⟨n, b, q1, q2, q3, q4⟩ := rnum_has [.cells 23 [.int .i64 0, .int .i64 0, .str []], .cells 23 [.int .i64 0, .int .i64 0, .str []]] r (by have h9 := hwle; rw [hw] at h9; simp at h9 ⊢; omega)
        apply RunP.seq
        apply RunP.region
        refine CallK.of (by rw [hr0]; exact q1) ?_
        apply RunP.seq
        apply RunP.region
        apply RunP.seq
        apply RunP.drawn
        · decide +kernel
        have hfin : ∀ k' n' t' c' rest', okVal k' n' t' = true → (c' = 32 ∨ c' = 10) → s.drop a = valText k' n' t' ++ c' :: rest' → (4 = k' ∧ n = n' ∧ [] = t') ∧ (b && okVal 4 n []) = true ∧ (a + (wordQ (s.drop a)).length) + (rest'.length + 1) = s.length := fun k' n' t' c' rest' h1 h2 h3 => by
          obtain ⟨hk3, e1, e2⟩ := hword k' n' t' c' rest' h1 h2 h3
          have hnn := okVal_num h1
          rcases val_cases h1 with ⟨g1, g2, g3, g4⟩ | ⟨g1, g2, g3, g4⟩ | ⟨g1, g2, g3, g4⟩ | ⟨g1, g4⟩ | ⟨g1, g3, g4⟩ | ⟨g1, g3, g4⟩ | ⟨g1, g3, g4⟩ | ⟨g1, g3, g4⟩
          all_goals first
            | exact absurd g1 hk3
            | (exfalso; exact w0 (e1.trans g4))
            | (exfalso; exact w1 (e1.trans g4))
            | (exfalso; exact w2 (e1.trans g4))
            | (exfalso; rw [hw, g4] at e1; simp at e1; done)
            | (exfalso; rw [hw, g4] at e1; exact itoa_not (by decide) e1.symm)
            | (rw [hw, g4] at e1; obtain ⟨r1, r2⟩ := q4 n' (by omega) (by omega) (List.cons.inj e1).2
               subst r1 r2 g1 g3
               exact ⟨⟨rfl, rfl, rfl⟩, by simpa using h1, e2⟩)
        cases b
        · apply RunP.ret
          exact ⟨rfl, _, rfl, rfl, 4, n, [], (a + (wordQ (s.drop a)).length), false, rfl, q2, (fun h => by cases h), hfin⟩
        · refine CallK.of (rvalue_has _ 4 n []) ?_
          refine drawR (by decide +kernel) (by decide +kernel) ?_
          apply RunP.ret
          exact ⟨rfl, _, rfl, rfl, 4, n, [], (a + (wordQ (s.drop a)).length), okVal 4 n [], rfl, q2, (fun _ => ⟨by omega, by omega⟩), hfin⟩
      intro h99
      have n99 := b8_ne (c := c) (d := 99) h99
      apply RunP.condF rfl
      apply RunP.seq
      apply RunP.region
      apply And.intro
      · intro h116
        have := b8_eq (c := c) (d := 116) h116
        subst this
        apply RunP.condT rfl
        apply RunP.region
        apply RunP.seq
        apply RunP.seq
        apply RunP.region
        refine And.intro (fun hn => absurd hn (by decide)) (fun _ => ?_)
        apply RunP.condT rfl
        apply RunP.region
        apply And.intro
        · omega
        apply And.intro
        · rw [hw]; simp
        obtain ⟨n, b, q1, q2, q3, q4⟩ := rnum_has [.cells 23 [.int .i64 0, .int .i64 0, .str []], .cells 23 [.int .i64 0, .int .i64 0, .str []]] r (by have h9 := hwle; rw [hw] at h9; simp at h9 ⊢; omega)
        apply RunP.seq
        apply RunP.region
        refine CallK.of (by rw [hr0]; exact q1) ?_
        apply RunP.seq
        apply RunP.region
        apply RunP.seq
        apply RunP.drawn
        · decide +kernel
        have hfin : ∀ k' n' t' c' rest', okVal k' n' t' = true → (c' = 32 ∨ c' = 10) → s.drop a = valText k' n' t' ++ c' :: rest' → (5 = k' ∧ n = n' ∧ [] = t') ∧ (b && okVal 5 n []) = true ∧ (a + (wordQ (s.drop a)).length) + (rest'.length + 1) = s.length := fun k' n' t' c' rest' h1 h2 h3 => by
          obtain ⟨hk3, e1, e2⟩ := hword k' n' t' c' rest' h1 h2 h3
          have hnn := okVal_num h1
          rcases val_cases h1 with ⟨g1, g2, g3, g4⟩ | ⟨g1, g2, g3, g4⟩ | ⟨g1, g2, g3, g4⟩ | ⟨g1, g4⟩ | ⟨g1, g3, g4⟩ | ⟨g1, g3, g4⟩ | ⟨g1, g3, g4⟩ | ⟨g1, g3, g4⟩
          all_goals first
            | exact absurd g1 hk3
            | (exfalso; exact w0 (e1.trans g4))
            | (exfalso; exact w1 (e1.trans g4))
            | (exfalso; exact w2 (e1.trans g4))
            | (exfalso; rw [hw, g4] at e1; simp at e1; done)
            | (exfalso; rw [hw, g4] at e1; exact itoa_not (by decide) e1.symm)
            | (rw [hw, g4] at e1; obtain ⟨r1, r2⟩ := q4 n' (by omega) (by omega) (List.cons.inj e1).2
               subst r1 r2 g1 g3
               exact ⟨⟨rfl, rfl, rfl⟩, by simpa using h1, e2⟩)
        cases b
        · apply RunP.ret
          exact ⟨rfl, _, rfl, rfl, 5, n, [], (a + (wordQ (s.drop a)).length), false, rfl, q2, (fun h => by cases h), hfin⟩
        · refine CallK.of (rvalue_has _ 5 n []) ?_
          refine drawR (by decide +kernel) (by decide +kernel) ?_
          apply RunP.ret
          exact ⟨rfl, _, rfl, rfl, 5, n, [], (a + (wordQ (s.drop a)).length), okVal 5 n [], rfl, q2, (fun _ => ⟨by omega, by omega⟩), hfin⟩
      intro h116
      have n116 := b8_ne (c := c) (d := 116) h116
      apply RunP.condF rfl
      apply RunP.seq
      apply RunP.region
      apply And.intro
      · intro h108
        have := b8_eq (c := c) (d := 108) h108
        subst this
        apply RunP.condT rfl
        apply RunP.region
        apply RunP.seq
        apply RunP.seq
        apply RunP.region
        refine And.intro (fun hn => absurd hn (by decide)) (fun _ => ?_)
        apply RunP.condT rfl
        apply RunP.region
        apply And.intro
        · omega
        apply And.intro
        · rw [hw]; simp
        obtain ⟨n, b, q1, q2, q3, q4⟩ := rnum_has [.cells 23 [.int .i64 0, .int .i64 0, .str []], .cells 23 [.int .i64 0, .int .i64 0, .str []]] r (by have h9 := hwle; rw [hw] at h9; simp at h9 ⊢; omega)
        apply RunP.seq
        apply RunP.region
        refine CallK.of (by rw [hr0]; exact q1) ?_
        apply RunP.seq
        apply RunP.region
        apply RunP.seq
        apply RunP.drawn
        · decide +kernel
        have hfin : ∀ k' n' t' c' rest', okVal k' n' t' = true → (c' = 32 ∨ c' = 10) → s.drop a = valText k' n' t' ++ c' :: rest' → (6 = k' ∧ n = n' ∧ [] = t') ∧ (b && okVal 6 n []) = true ∧ (a + (wordQ (s.drop a)).length) + (rest'.length + 1) = s.length := fun k' n' t' c' rest' h1 h2 h3 => by
          obtain ⟨hk3, e1, e2⟩ := hword k' n' t' c' rest' h1 h2 h3
          have hnn := okVal_num h1
          rcases val_cases h1 with ⟨g1, g2, g3, g4⟩ | ⟨g1, g2, g3, g4⟩ | ⟨g1, g2, g3, g4⟩ | ⟨g1, g4⟩ | ⟨g1, g3, g4⟩ | ⟨g1, g3, g4⟩ | ⟨g1, g3, g4⟩ | ⟨g1, g3, g4⟩
          all_goals first
            | exact absurd g1 hk3
            | (exfalso; exact w0 (e1.trans g4))
            | (exfalso; exact w1 (e1.trans g4))
            | (exfalso; exact w2 (e1.trans g4))
            | (exfalso; rw [hw, g4] at e1; simp at e1; done)
            | (exfalso; rw [hw, g4] at e1; exact itoa_not (by decide) e1.symm)
            | (rw [hw, g4] at e1; obtain ⟨r1, r2⟩ := q4 n' (by omega) (by omega) (List.cons.inj e1).2
               subst r1 r2 g1 g3
               exact ⟨⟨rfl, rfl, rfl⟩, by simpa using h1, e2⟩)
        cases b
        · apply RunP.ret
          exact ⟨rfl, _, rfl, rfl, 6, n, [], (a + (wordQ (s.drop a)).length), false, rfl, q2, (fun h => by cases h), hfin⟩
        · refine CallK.of (rvalue_has _ 6 n []) ?_
          refine drawR (by decide +kernel) (by decide +kernel) ?_
          apply RunP.ret
          exact ⟨rfl, _, rfl, rfl, 6, n, [], (a + (wordQ (s.drop a)).length), okVal 6 n [], rfl, q2, (fun _ => ⟨by omega, by omega⟩), hfin⟩
      intro h108
      have n108 := b8_ne (c := c) (d := 108) h108
      apply RunP.condF rfl
      apply RunP.skip
      apply RunP.seq
      apply RunP.seq
      apply RunP.region
      refine And.intro (fun _ => ?_) (fun hn => absurd rfl hn)
      apply RunP.condF rfl
      apply RunP.skip
      obtain ⟨n, b, q1, q2, q3, q4⟩ := rnum_has [.cells 23 [.int .i64 0, .int .i64 0, .str []], .cells 23 [.int .i64 0, .int .i64 0, .str []]] (wordQ (s.drop a)) (by have h9 := hwle; rw [hw] at h9; simp at h9 ⊢; omega)
      apply RunP.seq
      apply RunP.region
      refine CallK.of q1 ?_
      apply RunP.seq
      apply RunP.region
      apply RunP.seq
      apply RunP.drawn
      · decide +kernel
      have hfin : ∀ k' n' t' c' rest', okVal k' n' t' = true → (c' = 32 ∨ c' = 10) → s.drop a = valText k' n' t' ++ c' :: rest' → (1 = k' ∧ n = n' ∧ [] = t') ∧ (b && okVal 1 n []) = true ∧ (a + (wordQ (s.drop a)).length) + (rest'.length + 1) = s.length := fun k' n' t' c' rest' h1 h2 h3 => by
        obtain ⟨hk3, e1, e2⟩ := hword k' n' t' c' rest' h1 h2 h3
        have hnn := okVal_num h1
        rcases val_cases h1 with ⟨g1, g2, g3, g4⟩ | ⟨g1, g2, g3, g4⟩ | ⟨g1, g2, g3, g4⟩ | ⟨g1, g4⟩ | ⟨g1, g3, g4⟩ | ⟨g1, g3, g4⟩ | ⟨g1, g3, g4⟩ | ⟨g1, g3, g4⟩
        all_goals first
          | exact absurd g1 hk3
          | (exfalso; exact w0 (e1.trans g4))
          | (exfalso; exact w1 (e1.trans g4))
          | (exfalso; exact w2 (e1.trans g4))
          | (exfalso; rw [hw, g4] at e1; simp [n99, n116, n108] at e1; done)
          | (exfalso; rw [hw, g4] at e1; exact itoa_not (by decide) e1.symm)
          | (obtain ⟨r1, r2⟩ := q4 n' (by omega) (by omega) (e1.trans g4)
             subst r1 r2 g1 g3
             exact ⟨⟨rfl, rfl, rfl⟩, by simpa using h1, e2⟩)
      cases b
      · apply RunP.ret
        exact ⟨rfl, _, rfl, rfl, 1, n, [], (a + (wordQ (s.drop a)).length), false, rfl, q2, (fun h => by cases h), hfin⟩
      · refine CallK.of (rvalue_has _ 1 n []) ?_
        refine drawR (by decide +kernel) (by decide +kernel) ?_
        apply RunP.ret
        exact ⟨rfl, _, rfl, rfl, 1, n, [], (a + (wordQ (s.drop a)).length), okVal 1 n [], rfl, q2, (fun _ => ⟨by omega, by omega⟩), hfin⟩
  · intro hge
    have n34 : s[a]? ≠ some 34 := by rw [List.getElem?_eq_none (by omega)]; simp
    have hword : ∀ k' n' t' c' rest, okVal k' n' t' = true → (c' = 32 ∨ c' = 10) → s.drop a = valText k' n' t' ++ c' :: rest → k' ≠ 3 ∧ (wordQ (s.drop a)) = valText k' n' t' ∧ (a + (wordQ (s.drop a)).length) + (rest.length + 1) = s.length := fun k' n' t' c' rest h1 h2 h3 => by
      have hk3 : k' ≠ 3 := fun e => by
        subst e
        rw [valText, if_neg (by decide), if_neg (by decide), if_pos rfl] at h3
        exact n34 (by rw [← List.head?_drop, h3]; rfl)
      have hw : (wordQ (s.drop a)) = valText k' n' t' := by rw [h3]; exact wordQ_val h1 hk3 h2
      refine ⟨hk3, hw, ?_⟩
      have := congrArg List.length h3
      rw [List.length_append, List.length_drop, List.length_cons] at this
      rw [hw]; omega
    have hwle : a + (wordQ (s.drop a)).length ≤ s.length := by
      have : (wordQ (s.drop a)).length ≤ (s.drop a).length := (List.takeWhile_prefix _).length_le
      rw [List.length_drop] at this; omega
    apply RunP.condF rfl
    apply RunP.skip
    apply RunP.seq
    apply RunP.region
    refine CallK.of (rword_has _ s (by omega) hl) ?_
    apply RunP.seq
    apply RunP.region
    apply RunP.seq
    apply RunP.block
    apply RunP.seq
    apply RunP.region
    apply And.intro
    · intro hw
      apply RunP.condT rfl
      apply RunP.seq
      apply RunP.region
      apply RunP.ret
      refine ⟨rfl, _, rfl, rfl, 0, 0, [], (a + (wordQ (s.drop a)).length), true, rfl, ⟨by omega, by omega⟩, fun _ => ⟨by omega, by omega⟩, fun k' n' t' c' rest h1 h2 h3 => ?_⟩
      obtain ⟨hk3, e1, e2⟩ := hword k' n' t' c' rest h1 h2 h3
      rw [hw] at e1
      rcases val_cases h1 with ⟨g1, g2, g3, g4⟩ | ⟨g1, g2, g3, g4⟩ | ⟨g1, g2, g3, g4⟩ | ⟨g1, g4⟩ | ⟨g1, g3, g4⟩ | ⟨g1, g3, g4⟩ | ⟨g1, g3, g4⟩ | ⟨g1, g3, g4⟩
      all_goals first
        | exact ⟨⟨g1.symm, g2.symm, g3.symm⟩, rfl, e2⟩
        | exact absurd g1 hk3
        | (exfalso; rw [g4] at e1; simp at e1; done)
        | (exfalso; rw [g4] at e1; exact itoa_not (by decide) e1.symm)
        | (exfalso; rw [g4] at e1; exact itoa_not (by decide) (List.cons.inj e1).2.symm)
        | (exfalso; rw [g4] at e1; exact itoa_ne _ e1.symm)
    intro w0
    apply RunP.condF rfl
    apply RunP.seq
    apply RunP.region
    apply And.intro
    · intro hw
      apply RunP.condT rfl
      apply RunP.seq
      apply RunP.region
      apply RunP.seq
      apply RunP.seq
      apply RunP.region
      refine And.intro (fun _ => ?_) (fun hn => absurd hw hn)
      apply RunP.condT rfl
      apply RunP.region
      apply RunP.seq
      apply RunP.region
      apply RunP.ret
      refine ⟨rfl, _, rfl, rfl, 2, 1, [], (a + (wordQ (s.drop a)).length), true, rfl, ⟨by omega, by omega⟩, fun _ => ⟨by omega, by omega⟩, fun k' n' t' c' rest h1 h2 h3 => ?_⟩
      obtain ⟨hk3, e1, e2⟩ := hword k' n' t' c' rest h1 h2 h3
      rw [hw] at e1
      rcases val_cases h1 with ⟨g1, g2, g3, g4⟩ | ⟨g1, g2, g3, g4⟩ | ⟨g1, g2, g3, g4⟩ | ⟨g1, g4⟩ | ⟨g1, g3, g4⟩ | ⟨g1, g3, g4⟩ | ⟨g1, g3, g4⟩ | ⟨g1, g3, g4⟩
      all_goals first
        | exact ⟨⟨g1.symm, g2.symm, g3.symm⟩, rfl, e2⟩
        | exact absurd g1 hk3
        | (exfalso; rw [g4] at e1; simp at e1; done)
        | (exfalso; rw [g4] at e1; exact itoa_not (by decide) e1.symm)
        | (exfalso; rw [g4] at e1; exact itoa_not (by decide) (List.cons.inj e1).2.symm)
        | (exfalso; rw [g4] at e1; exact itoa_ne _ e1.symm)
    intro w1
    apply And.intro
    · intro hw
      apply RunP.condT rfl
      apply RunP.seq
      apply RunP.region
      apply RunP.seq
      apply RunP.seq
      apply RunP.region
      refine And.intro (fun hn => absurd hn w1) (fun _ => ?_)
      apply RunP.condF rfl
      apply RunP.skip
      apply RunP.seq
      apply RunP.region
      apply RunP.ret
      refine ⟨rfl, _, rfl, rfl, 2, 0, [], (a + (wordQ (s.drop a)).length), true, rfl, ⟨by omega, by omega⟩, fun _ => ⟨by omega, by omega⟩, fun k' n' t' c' rest h1 h2 h3 => ?_⟩
      obtain ⟨hk3, e1, e2⟩ := hword k' n' t' c' rest h1 h2 h3
      rw [hw] at e1
      rcases val_cases h1 with ⟨g1, g2, g3, g4⟩ | ⟨g1, g2, g3, g4⟩ | ⟨g1, g2, g3, g4⟩ | ⟨g1, g4⟩ | ⟨g1, g3, g4⟩ | ⟨g1, g3, g4⟩ | ⟨g1, g3, g4⟩ | ⟨g1, g3, g4⟩
      all_goals first
        | exact ⟨⟨g1.symm, g2.symm, g3.symm⟩, rfl, e2⟩
        | exact absurd g1 hk3
        | (exfalso; rw [g4] at e1; simp at e1; done)
        | (exfalso; rw [g4] at e1; exact itoa_not (by decide) e1.symm)
        | (exfalso; rw [g4] at e1; exact itoa_not (by decide) (List.cons.inj e1).2.symm)
        | (exfalso; rw [g4] at e1; exact itoa_ne _ e1.symm)
    intro w2
    apply RunP.condF rfl
    apply RunP.seq
    apply RunP.region
    apply And.intro
    · intro hw
      apply RunP.condT rfl
      apply RunP.seq
      apply RunP.region
      apply RunP.ret
      refine ⟨rfl, _, rfl, rfl, 0, 0, [], (a + (wordQ (s.drop a)).length), false, rfl, ⟨by omega, by omega⟩, fun _ => ⟨by omega, by omega⟩, fun k' n' t' c' rest h1 h2 h3 => ?_⟩
      obtain ⟨hk3, e1, e2⟩ := hword k' n' t' c' rest h1 h2 h3
      rw [hw] at e1
      rcases val_cases h1 with ⟨g1, g2, g3, g4⟩ | ⟨g1, g2, g3, g4⟩ | ⟨g1, g2, g3, g4⟩ | ⟨g1, g4⟩ | ⟨g1, g3, g4⟩ | ⟨g1, g3, g4⟩ | ⟨g1, g3, g4⟩ | ⟨g1, g3, g4⟩
      all_goals first
        | exact ⟨⟨g1.symm, g2.symm, g3.symm⟩, rfl, e2⟩
        | exact absurd g1 hk3
        | (exfalso; rw [g4] at e1; simp at e1; done)
        | (exfalso; rw [g4] at e1; exact itoa_not (by decide) e1.symm)
        | (exfalso; rw [g4] at e1; exact itoa_not (by decide) (List.cons.inj e1).2.symm)
        | (exfalso; rw [g4] at e1; exact itoa_ne _ e1.symm)
    intro w3
    apply RunP.condF rfl
    apply RunP.skip
    obtain ⟨c, r, hw⟩ : ∃ c r, (wordQ (s.drop a)) = c :: r := by
      cases h : (wordQ (s.drop a)) with
      | nil => exact absurd h w3
      | cons c r => exact ⟨c, r, rfl⟩
    have hr0 : List.drop (Int.toNat 1) (List.take (wordQ (s.drop a)).length (wordQ (s.drop a))) = r := by rw [hw]; simp
    apply RunP.seq
    apply RunP.region
    apply RunP.seq
    apply RunP.seq
    apply RunP.region
    refine And.intro (by omega) (Exists.intro c (And.intro (by rw [hw]; rfl) ?_))
    apply RunP.block
    apply RunP.seq
    apply RunP.region
    apply And.intro
    · intro h99
      have := b8_eq (c := c) (d := 99) h99
      subst this
      apply RunP.condT rfl
      apply RunP.region
      apply RunP.seq
      apply RunP.seq
      apply RunP.region
      refine And.intro (fun hn => absurd hn (by decide)) (fun _ => ?_)
      apply RunP.condT rfl
      apply RunP.region
      apply And.intro
      · omega
      apply And.intro
      · rw [hw]; simp
      obtain ⟨n, b, q1, q2, q3, q4⟩ := rnum_has [.cells 23 [.int .i64 0, .int .i64 0, .str []], .cells 23 [.int .i64 0, .int .i64 0, .str []]] r (by have h9 := hwle; rw [hw] at h9; simp at h9 ⊢; omega)
      apply RunP.seq
      apply RunP.region
      refine CallK.of (by rw [hr0]; exact q1) ?_
      apply RunP.seq
      apply RunP.region
      apply RunP.seq
      apply RunP.drawn
      · decide +kernel
      have hfin : ∀ k' n' t' c' rest', okVal k' n' t' = true → (c' = 32 ∨ c' = 10) → s.drop a = valText k' n' t' ++ c' :: rest' → (4 = k' ∧ n = n' ∧ [] = t') ∧ (b && okVal 4 n []) = true ∧ (a + (wordQ (s.drop a)).length) + (rest'.length + 1) = s.length := fun k' n' t' c' rest' h1 h2 h3 => by
        obtain ⟨hk3, e1, e2⟩ := hword k' n' t' c' rest' h1 h2 h3
        have hnn := okVal_num h1
        rcases val_cases h1 with ⟨g1, g2, g3, g4⟩ | ⟨g1, g2, g3, g4⟩ | ⟨g1, g2, g3, g4⟩ | ⟨g1, g4⟩ | ⟨g1, g3, g4⟩ | ⟨g1, g3, g4⟩ | ⟨g1, g3, g4⟩ | ⟨g1, g3, g4⟩
        all_goals first
          | exact absurd g1 hk3
          | (exfalso; exact w0 (e1.trans g4))
          | (exfalso; exact w1 (e1.trans g4))
          | (exfalso; exact w2 (e1.trans g4))
          | (exfalso; rw [hw, g4] at e1; simp at e1; done)
          | (exfalso; rw [hw, g4] at e1; exact itoa_not (by decide) e1.symm)
          | (rw [hw, g4] at e1; obtain ⟨r1, r2⟩ := q4 n' (by omega) (by omega) (List.cons.inj e1).2
             subst r1 r2 g1 g3
             exact ⟨⟨rfl, rfl, rfl⟩, by simpa using h1, e2⟩)
      cases b
      · apply RunP.ret
        exact ⟨rfl, _, rfl, rfl, 4, n, [], (a + (wordQ (s.drop a)).length), false, rfl, q2, (fun h => by cases h), hfin⟩
      · refine CallK.of (rvalue_has _ 4 n []) ?_
        refine drawR (by decide +kernel) (by decide +kernel) ?_
        apply RunP.ret
        exact ⟨rfl, _, rfl, rfl, 4, n, [], (a + (wordQ (s.drop a)).length), okVal 4 n [], rfl, q2, (fun _ => ⟨by omega, by omega⟩), hfin⟩
    intro h99
    have n99 := b8_ne (c := c) (d := 99) h99
    apply RunP.condF rfl
    apply RunP.seq
    apply RunP.region
    apply And.intro
    · intro h116
      have := b8_eq (c := c) (d := 116) h116
      subst this
      apply RunP.condT rfl
      apply RunP.region
      apply RunP.seq
      apply RunP.seq
      apply RunP.region
      refine And.intro (fun hn => absurd hn (by decide)) (fun _ => ?_)
      apply RunP.condT rfl
      apply RunP.region
      apply And.intro
      · omega
      apply And.intro
      · rw [hw]; simp
      obtain ⟨n, b, q1, q2, q3, q4⟩ := rnum_has [.cells 23 [.int .i64 0, .int .i64 0, .str []], .cells 23 [.int .i64 0, .int .i64 0, .str []]] r (by have h9 := hwle; rw [hw] at h9; simp at h9 ⊢; omega)
      apply RunP.seq
      apply RunP.region
      refine CallK.of (by rw [hr0]; exact q1) ?_
      apply RunP.seq
      apply RunP.region
      apply RunP.seq
      apply RunP.drawn
      · decide +kernel
      have hfin : ∀ k' n' t' c' rest', okVal k' n' t' = true → (c' = 32 ∨ c' = 10) → s.drop a = valText k' n' t' ++ c' :: rest' → (5 = k' ∧ n = n' ∧ [] = t') ∧ (b && okVal 5 n []) = true ∧ (a + (wordQ (s.drop a)).length) + (rest'.length + 1) = s.length := fun k' n' t' c' rest' h1 h2 h3 => by
        obtain ⟨hk3, e1, e2⟩ := hword k' n' t' c' rest' h1 h2 h3
        have hnn := okVal_num h1
        rcases val_cases h1 with ⟨g1, g2, g3, g4⟩ | ⟨g1, g2, g3, g4⟩ | ⟨g1, g2, g3, g4⟩ | ⟨g1, g4⟩ | ⟨g1, g3, g4⟩ | ⟨g1, g3, g4⟩ | ⟨g1, g3, g4⟩ | ⟨g1, g3, g4⟩
        all_goals first
          | exact absurd g1 hk3
          | (exfalso; exact w0 (e1.trans g4))
          | (exfalso; exact w1 (e1.trans g4))
          | (exfalso; exact w2 (e1.trans g4))
          | (exfalso; rw [hw, g4] at e1; simp at e1; done)
          | (exfalso; rw [hw, g4] at e1; exact itoa_not (by decide) e1.symm)
          | (rw [hw, g4] at e1; obtain ⟨r1, r2⟩ := q4 n' (by omega) (by omega) (List.cons.inj e1).2
             subst r1 r2 g1 g3
             exact ⟨⟨rfl, rfl, rfl⟩, by simpa using h1, e2⟩)
      cases b
      · apply RunP.ret
        exact ⟨rfl, _, rfl, rfl, 5, n, [], (a + (wordQ (s.drop a)).length), false, rfl, q2, (fun h => by cases h), hfin⟩
      · refine CallK.of (rvalue_has _ 5 n []) ?_
        refine drawR (by decide +kernel) (by decide +kernel) ?_
        apply RunP.ret
        exact ⟨rfl, _, rfl, rfl, 5, n, [], (a + (wordQ (s.drop a)).length), okVal 5 n [], rfl, q2, (fun _ => ⟨by omega, by omega⟩), hfin⟩
    intro h116
    have n116 := b8_ne (c := c) (d := 116) h116
    apply RunP.condF rfl
    apply RunP.seq
    apply RunP.region
    apply And.intro
    · intro h108
      have := b8_eq (c := c) (d := 108) h108
      subst this
      apply RunP.condT rfl
      apply RunP.region
      apply RunP.seq
      apply RunP.seq
      apply RunP.region
      refine And.intro (fun hn => absurd hn (by decide)) (fun _ => ?_)
      apply RunP.condT rfl
      apply RunP.region
      apply And.intro
      · omega
      apply And.intro
      · rw [hw]; simp
      obtain ⟨n, b, q1, q2, q3, q4⟩ := rnum_has [.cells 23 [.int .i64 0, .int .i64 0, .str []], .cells 23 [.int .i64 0, .int .i64 0, .str []]] r (by have h9 := hwle; rw [hw] at h9; simp at h9 ⊢; omega)
      apply RunP.seq
      apply RunP.region
      refine CallK.of (by rw [hr0]; exact q1) ?_
      apply RunP.seq
      apply RunP.region
      apply RunP.seq
      apply RunP.drawn
      · decide +kernel
      have hfin : ∀ k' n' t' c' rest', okVal k' n' t' = true → (c' = 32 ∨ c' = 10) → s.drop a = valText k' n' t' ++ c' :: rest' → (6 = k' ∧ n = n' ∧ [] = t') ∧ (b && okVal 6 n []) = true ∧ (a + (wordQ (s.drop a)).length) + (rest'.length + 1) = s.length := fun k' n' t' c' rest' h1 h2 h3 => by
        obtain ⟨hk3, e1, e2⟩ := hword k' n' t' c' rest' h1 h2 h3
        have hnn := okVal_num h1
        rcases val_cases h1 with ⟨g1, g2, g3, g4⟩ | ⟨g1, g2, g3, g4⟩ | ⟨g1, g2, g3, g4⟩ | ⟨g1, g4⟩ | ⟨g1, g3, g4⟩ | ⟨g1, g3, g4⟩ | ⟨g1, g3, g4⟩ | ⟨g1, g3, g4⟩
        all_goals first
          | exact absurd g1 hk3
          | (exfalso; exact w0 (e1.trans g4))
          | (exfalso; exact w1 (e1.trans g4))
          | (exfalso; exact w2 (e1.trans g4))
          | (exfalso; rw [hw, g4] at e1; simp at e1; done)
          | (exfalso; rw [hw, g4] at e1; exact itoa_not (by decide) e1.symm)
          | (rw [hw, g4] at e1; obtain ⟨r1, r2⟩ := q4 n' (by omega) (by omega) (List.cons.inj e1).2
             subst r1 r2 g1 g3
             exact ⟨⟨rfl, rfl, rfl⟩, by simpa using h1, e2⟩)
      cases b
      · apply RunP.ret
        exact ⟨rfl, _, rfl, rfl, 6, n, [], (a + (wordQ (s.drop a)).length), false, rfl, q2, (fun h => by cases h), hfin⟩
      · refine CallK.of (rvalue_has _ 6 n []) ?_
        refine drawR (by decide +kernel) (by decide +kernel) ?_
        apply RunP.ret
        exact ⟨rfl, _, rfl, rfl, 6, n, [], (a + (wordQ (s.drop a)).length), okVal 6 n [], rfl, q2, (fun _ => ⟨by omega, by omega⟩), hfin⟩
    intro h108
    have n108 := b8_ne (c := c) (d := 108) h108
    apply RunP.condF rfl
    apply RunP.skip
    apply RunP.seq
    apply RunP.seq
    apply RunP.region
    refine And.intro (fun _ => ?_) (fun hn => absurd rfl hn)
    apply RunP.condF rfl
    apply RunP.skip
    obtain ⟨n, b, q1, q2, q3, q4⟩ := rnum_has [.cells 23 [.int .i64 0, .int .i64 0, .str []], .cells 23 [.int .i64 0, .int .i64 0, .str []]] (wordQ (s.drop a)) (by have h9 := hwle; rw [hw] at h9; simp at h9 ⊢; omega)
    apply RunP.seq
    apply RunP.region
    refine CallK.of q1 ?_
    apply RunP.seq
    apply RunP.region
    apply RunP.seq
    apply RunP.drawn
    · decide +kernel
    have hfin : ∀ k' n' t' c' rest', okVal k' n' t' = true → (c' = 32 ∨ c' = 10) → s.drop a = valText k' n' t' ++ c' :: rest' → (1 = k' ∧ n = n' ∧ [] = t') ∧ (b && okVal 1 n []) = true ∧ (a + (wordQ (s.drop a)).length) + (rest'.length + 1) = s.length := fun k' n' t' c' rest' h1 h2 h3 => by
      obtain ⟨hk3, e1, e2⟩ := hword k' n' t' c' rest' h1 h2 h3
      have hnn := okVal_num h1
      rcases val_cases h1 with ⟨g1, g2, g3, g4⟩ | ⟨g1, g2, g3, g4⟩ | ⟨g1, g2, g3, g4⟩ | ⟨g1, g4⟩ | ⟨g1, g3, g4⟩ | ⟨g1, g3, g4⟩ | ⟨g1, g3, g4⟩ | ⟨g1, g3, g4⟩
      all_goals first
        | exact absurd g1 hk3
        | (exfalso; exact w0 (e1.trans g4))
        | (exfalso; exact w1 (e1.trans g4))
        | (exfalso; exact w2 (e1.trans g4))
        | (exfalso; rw [hw, g4] at e1; simp [n99, n116, n108] at e1; done)
        | (exfalso; rw [hw, g4] at e1; exact itoa_not (by decide) e1.symm)
        | (obtain ⟨r1, r2⟩ := q4 n' (by omega) (by omega) (e1.trans g4)
           subst r1 r2 g1 g3
           exact ⟨⟨rfl, rfl, rfl⟩, by simpa using h1, e2⟩)
    cases b
    · apply RunP.ret
      exact ⟨rfl, _, rfl, rfl, 1, n, [], (a + (wordQ (s.drop a)).length), false, rfl, q2, (fun h => by cases h), hfin⟩
    · refine CallK.of (rvalue_has _ 1 n []) ?_
      refine drawR (by decide +kernel) (by decide +kernel) ?_
      apply RunP.ret
      exact ⟨rfl, _, rfl, rfl, 1, n, [], (a + (wordQ (s.drop a)).length), okVal 1 n [], rfl, q2, (fun _ => ⟨by omega, by omega⟩), hfin⟩
end Go.Proofs.YtnefminojpandaaDoor

