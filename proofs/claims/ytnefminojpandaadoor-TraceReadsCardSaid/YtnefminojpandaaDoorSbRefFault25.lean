/- The reference's reader: faults. -/
import Derived.Test.YtnefminojpandaaDoorSbRefValue25
set_option linter.unusedVariables false
set_option linter.unusedSimpArgs false
namespace Go.Proofs.YtnefminojpandaaDoor
open Go.Sb
set_option maxRecDepth 100000

set_option maxHeartbeats 4000000 in
theorem rreadfault_has (h : Heap) (s : List UInt8) {a : Nat} (ha : a ≤ s.length) (hl : s.length ≤ 2 ^ 38) : ∃ (k : Int) (t : List UInt8) (to : Nat) (ok : Bool), Has env2 .own 84 [.str s, .int .i64 a] h (.val (.tup [faultV k t, .int .i64 to, .bool ok]) h) ∧ (ok = true → a ≤ to ∧ to ≤ s.length) ∧
    ∀ k' t' rest, okFault k' t' = true → s.drop a = faultText k' t' ++ 10 :: rest → (k = k' ∧ t = t') ∧ ok = true ∧ to + (rest.length + 1) = s.length := by
  suffices hs : ∃ w, Has env2 .own 84 [.str s, .int .i64 a] h (.val w h) ∧ ∃ (k : Int) (t : List UInt8) (to : Nat) (ok : Bool), w = .tup [faultV k t, .int .i64 to, .bool ok] ∧ (ok = true → a ≤ to ∧ to ≤ s.length) ∧
    ∀ k' t' rest, okFault k' t' = true → s.drop a = faultText k' t' ++ 10 :: rest → (k = k' ∧ t = t') ∧ ok = true ∧ to + (rest.length + 1) = s.length by
    obtain ⟨w, k1, k, t, to, ok, rfl, k2⟩ := hs
    exact ⟨k, t, to, ok, k1, k2⟩
  refine HasP.ownE (a := [.str s, .int .i64 a]) (d := fn84) rfl rfl rfl (of_decide_eq_true rfl) ?_
  have hwle : a + (wordQ (s.drop a)).length ≤ s.length := by
    have : (wordQ (s.drop a)).length ≤ (s.drop a).length := (List.takeWhile_prefix _).length_le
    rw [List.length_drop] at this; omega
  have hword : ∀ k' t' rest, okFault k' t' = true → s.drop a = faultText k' t' ++ 10 :: rest → True ∧ ((k' = 0 ∧ t' = [] ∧ (wordQ (s.drop a)) = [45] ∧ (a + (wordQ (s.drop a)).length) + (rest.length + 1) = s.length) ∨ (k' = 2 ∧ t' = [] ∧ (wordQ (s.drop a)) = [99, 97, 110, 99, 101, 108] ∧ (a + (wordQ (s.drop a)).length) + (rest.length + 1) = s.length) ∨
      (k' = 1 ∧ (wordQ (s.drop a)) = [116, 104, 114, 111, 119] ∧ s.drop a = [116, 104, 114, 111, 119] ++ 32 :: (valText 3 0 t' ++ 10 :: rest))) := fun k' t' rest h1 h3 => by
    refine ⟨trivial, ?_⟩
    have hlen := congrArg List.length h3
    rw [List.length_append, List.length_drop, List.length_cons] at hlen
    unfold okFault at h1
    split at h1
    · rename_i hk
      simp only [beq_iff_eq] at h1
      rcases hk with rfl | rfl
      · have hw : (wordQ (s.drop a)) = [45] := by rw [h3]; exact wordQ_app (w := [45]) (by simp) (.inr rfl)
        exact .inl ⟨rfl, h1, hw, by rw [hw]; simp [faultText] at hlen ⊢; omega⟩
      · have hw : (wordQ (s.drop a)) = [99, 97, 110, 99, 101, 108] := by rw [h3]; exact wordQ_app (w := [99, 97, 110, 99, 101, 108]) (by simp) (.inr rfl)
        exact .inr (.inl ⟨rfl, h1, hw, by rw [hw]; simp [faultText] at hlen ⊢; omega⟩)
    split at h1
    · rename_i hk; subst hk
      have hd : s.drop a = [116, 104, 114, 111, 119] ++ 32 :: (valText 3 0 t' ++ 10 :: rest) := by rw [h3]; simp [faultText]
      have hw : (wordQ (s.drop a)) = [116, 104, 114, 111, 119] := by rw [hd]; exact wordQ_app (w := [116, 104, 114, 111, 119]) (by simp) (.inl rfl)
      exact .inr (.inr ⟨rfl, hw, hd⟩)
    · cases h1
  apply RunP.seq
  apply RunP.region
  apply RunP.seq
  apply RunP.region
  refine CallK.of (rword_has _ s ha hl) ?_
  apply RunP.seq
  apply RunP.seq
  apply RunP.region
  apply RunP.block
  apply RunP.seq
  apply RunP.region
  apply And.intro
  · intro hw
    apply RunP.condT rfl
    apply RunP.seq
    apply RunP.region
    apply RunP.ret
    refine ⟨rfl, _, rfl, rfl, 0, [], (a + (wordQ (s.drop a)).length), true, rfl, fun _ => ⟨by omega, by omega⟩, fun k' t' rest h1 h3 => ?_⟩
    obtain ⟨e1, e2⟩ := hword k' t' rest h1 h3
    rcases e2 with ⟨g1, g2, g3, g4⟩ | ⟨g1, g2, g3, g4⟩ | ⟨g1, g3, g4⟩
    all_goals first
      | exact ⟨⟨g1.symm, g2.symm⟩, rfl, g4⟩
      | (exfalso; rw [hw] at g3; simp at g3; done)
      | (exfalso; exact hw g3)
      | (exfalso; exact w0 g3)
      | (exfalso; exact w1 g3)
  intro w0
  apply RunP.condF rfl
  apply RunP.seq
  apply RunP.region
  apply And.intro
  · intro hw
    apply RunP.condT rfl
    apply RunP.seq
    apply RunP.region
    apply RunP.ret
    refine ⟨rfl, _, rfl, rfl, 2, [], (a + (wordQ (s.drop a)).length), true, rfl, fun _ => ⟨by omega, by omega⟩, fun k' t' rest h1 h3 => ?_⟩
    obtain ⟨e1, e2⟩ := hword k' t' rest h1 h3
    rcases e2 with ⟨g1, g2, g3, g4⟩ | ⟨g1, g2, g3, g4⟩ | ⟨g1, g3, g4⟩
    all_goals first
      | exact ⟨⟨g1.symm, g2.symm⟩, rfl, g4⟩
      | (exfalso; rw [hw] at g3; simp at g3; done)
      | (exfalso; exact hw g3)
      | (exfalso; exact w0 g3)
      | (exfalso; exact w1 g3)
  intro w1
  apply RunP.condF rfl
  apply RunP.skip
  apply RunP.seq
  apply RunP.seq
  apply RunP.region
  have hat : ∀ t' rest, s.drop a = [116, 104, 114, 111, 119] ++ 32 :: (valText 3 0 t' ++ 10 :: rest) → (wordQ (s.drop a)) = [116, 104, 114, 111, 119] → s[(a + (wordQ (s.drop a)).length)]? = some 32 ∧ s.drop ((a + (wordQ (s.drop a)).length) + 1) = valText 3 0 t' ++ 10 :: rest := fun t' rest hd hw => by
    rw [hw]
    refine ⟨by rw [← List.getElem?_drop, hd]; rfl, ?_⟩
    rw [show a + List.length ([116, 104, 114, 111, 119] : List UInt8) + 1 = a + 6 from rfl, ← List.drop_drop, hd]; rfl
  apply And.intro
  · intro hw
    have hto : (0 : Int) ≤ (((a + (wordQ (s.drop a)).length) : Nat) : Int) := by omega
    apply And.intro
    · intro hge
      apply RunP.condT rfl
      apply RunP.seq
      apply RunP.region
      apply RunP.ret
      refine ⟨rfl, _, rfl, rfl, 0, [], (a + (wordQ (s.drop a)).length), false, rfl, (fun h => by cases h), fun k' t' rest h1 h3 => ?_⟩
      obtain ⟨e1, e2⟩ := hword k' t' rest h1 h3
      exfalso
      rcases e2 with ⟨g1, g2, g3, g4⟩ | ⟨g1, g2, g3, g4⟩ | ⟨g1, g3, g4⟩
      · exact w0 g3
      · exact w1 g3
      · have := (hat _ _ g4 g3).1; rw [List.getElem?_eq_none (by omega)] at this; cases this
    intro hlt
    obtain ⟨c, hc⟩ : ∃ c, s[(a + (wordQ (s.drop a)).length)]? = some c := ⟨_, List.getElem?_eq_getElem (by omega)⟩
    refine And.intro hto (Exists.intro c (And.intro hc ?_))
    apply And.intro
    · intro h32
      have := b8_eq (c := c) (d := 32) h32
      subst this
      apply RunP.condF rfl
      apply RunP.skip
      apply RunP.seq
      apply RunP.region
      obtain ⟨k, n, t, to, ok, q1, q2, q3, q4⟩ := rreadval_has [.cells 25 [.int .i64 0, .str []]] s (a := (a + (wordQ (s.drop a)).length) + 1) (by omega) hl
      have hwr : IntKind.i64.wrap ((((a + (wordQ (s.drop a)).length) : Nat) : Int) + 1) = (((a + (wordQ (s.drop a)).length) + 1 : Nat) : Int) := wrap_up _ (by omega)
      refine CallK.of (E := env2) (v := .tup [valV k n t, .int .i64 to, .bool ok]) (g := [.cells 25 [.int .i64 0, .str []]]) (by rw [hwr]; exact q1) ?_
      apply RunP.seq
      apply RunP.drawn
      · decide +kernel
      have hfin : ∀ k' t' rest, okFault k' t' = true → s.drop a = faultText k' t' ++ 10 :: rest → k' = 1 ∧ t = t' ∧ k = 3 ∧ ok = true ∧ to + (rest.length + 1) = s.length := fun k' t' rest h1 h3 => by
        obtain ⟨e1, e2⟩ := hword k' t' rest h1 h3
        rcases e2 with ⟨g1, g2, g3, g4⟩ | ⟨g1, g2, g3, g4⟩ | ⟨g1, g3, g4⟩
        · exact absurd g3 w0
        · exact absurd g3 w1
        · have hv : okVal 3 0 t' = true := by
            subst g1
            simp [okFault] at h1
            simp [okVal, h1]
          obtain ⟨⟨r1, r2, r3⟩, r4, r5⟩ := q4 3 0 t' 10 rest hv (.inr rfl) (hat _ _ g4 g3).2
          exact ⟨g1, r3, r1, r4, r5⟩
      cases ok
      · apply RunP.ret
        exact ⟨rfl, _, rfl, rfl, 1, t, to, false, rfl, (fun h => by cases h), fun k' t' rest h1 h3 => by
          have := (hfin k' t' rest h1 h3).2.2.2.1
          cases this⟩
      · have hb2 := q3 rfl
        apply And.intro
        · intro hk3
          refine drawZ (by decide +kernel) (by decide +kernel) ?_
          refine And.intro (StillK.of ?_) ?_
          · exact rfl
          apply RunP.ret
          exact ⟨rfl, _, rfl, rfl, 1, t, to, true, rfl, (fun _ => ⟨by omega, by omega⟩), fun k' t' rest h1 h3 => by
            obtain ⟨r1, r2, r3, r4, r5⟩ := hfin k' t' rest h1 h3
            exact ⟨⟨r1.symm, r2⟩, rfl, r5⟩⟩
        · intro hk3
          refine drawZ (by decide +kernel) (by decide +kernel) ?_
          refine And.intro (StillK.of ?_) ?_
          · exact rfl
          apply RunP.ret
          exact ⟨rfl, _, rfl, rfl, 1, t, to, false, rfl, (fun h => by cases h), fun k' t' rest h1 h3 => absurd (hfin k' t' rest h1 h3).2.2.1 hk3⟩
    · intro h32
      have n32 := b8_ne (c := c) (d := 32) h32
      apply RunP.condT rfl
      apply RunP.seq
      apply RunP.region
      apply RunP.ret
      refine ⟨rfl, _, rfl, rfl, 0, [], (a + (wordQ (s.drop a)).length), false, rfl, (fun h => by cases h), fun k' t' rest h1 h3 => ?_⟩
      obtain ⟨e1, e2⟩ := hword k' t' rest h1 h3
      exfalso
      rcases e2 with ⟨g1, g2, g3, g4⟩ | ⟨g1, g2, g3, g4⟩ | ⟨g1, g3, g4⟩
      · exact w0 g3
      · exact w1 g3
      · have := (hat _ _ g4 g3).1; rw [hc] at this; exact n32 (Option.some.inj this)
  · intro hw
    apply RunP.condT rfl
    apply RunP.seq
    apply RunP.region
    apply RunP.ret
    refine ⟨rfl, _, rfl, rfl, 0, [], (a + (wordQ (s.drop a)).length), false, rfl, (fun h => by cases h), fun k' t' rest h1 h3 => ?_⟩
    obtain ⟨e1, e2⟩ := hword k' t' rest h1 h3
    exfalso
    rcases e2 with ⟨g1, g2, g3, g4⟩ | ⟨g1, g2, g3, g4⟩ | ⟨g1, g3, g4⟩
    · exact w0 g3
    · exact w1 g3
    · exact hw g3
end Go.Proofs.YtnefminojpandaaDoor

