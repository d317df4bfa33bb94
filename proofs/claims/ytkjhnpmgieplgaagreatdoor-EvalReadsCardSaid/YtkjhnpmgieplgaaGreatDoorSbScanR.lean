/- The reference's blanks, runs, quotes. -/
import Derived.Test.YtkjhnpmgieplgaaGreatDoorSbNumeral
set_option linter.unusedVariables false
set_option linter.unusedSimpArgs false
namespace Go.Proofs.YtkjhnpmgieplgaaGreatDoor
open Go.Sb
set_option maxRecDepth 100000
def rbI (u : Bs) (i : Nat) (k : Nat) (s : List V) (h : Heap) : Prop :=
  ∃ (j : Nat) (z : Int), (j + k = u.length ∧ z = j ∧ i ≤ j ∧ Lex.skipS false (u.drop j) = Lex.skipS false (u.drop i)) ∧ s.length = 54 ∧ s.getD 0 und = und ∧ s.getD 1 und = .str u ∧ s.getD 2 und = .int .i64 z
theorem rbI_lit {u : Bs} {i : Nat} {k : Nat} {s : List V} {h : Heap} (hI : rbI u i k s h) : ∃ (j : Nat) (z : Int) (x : Nat → V), (j + k = u.length ∧ z = j ∧ i ≤ j ∧ Lex.skipS false (u.drop j) = Lex.skipS false (u.drop i)) ∧
    s = [und, .str u, .int .i64 z, x 3, x 4, x 5, x 6, x 7, x 8, x 9, x 10, x 11, x 12, x 13, x 14, x 15, x 16, x 17, x 18, x 19, x 20, x 21, x 22, x 23, x 24, x 25, x 26, x 27, x 28, x 29, x 30, x 31, x 32, x 33, x 34, x 35, x 36, x 37, x 38, x 39, x 40, x 41, x 42, x 43, x 44, x 45, x 46, x 47, x 48, x 49, x 50, x 51, x 52, x 53] := by
  obtain ⟨j, z, hF, hl, e0, e1, e2⟩ := hI
  refine ⟨j, z, fun n => s.getD n und, hF, (lit_of hl).trans ?_⟩
  show [s.getD 0 und, s.getD 1 und, s.getD 2 und, s.getD 3 und, s.getD 4 und, s.getD 5 und, s.getD 6 und, s.getD 7 und, s.getD 8 und, s.getD 9 und, s.getD 10 und, s.getD 11 und, s.getD 12 und, s.getD 13 und, s.getD 14 und, s.getD 15 und, s.getD 16 und, s.getD 17 und, s.getD 18 und, s.getD 19 und, s.getD 20 und, s.getD 21 und, s.getD 22 und, s.getD 23 und, s.getD 24 und, s.getD 25 und, s.getD 26 und, s.getD 27 und, s.getD 28 und, s.getD 29 und, s.getD 30 und, s.getD 31 und, s.getD 32 und, s.getD 33 und, s.getD 34 und, s.getD 35 und, s.getD 36 und, s.getD 37 und, s.getD 38 und, s.getD 39 und, s.getD 40 und, s.getD 41 und, s.getD 42 und, s.getD 43 und, s.getD 44 und, s.getD 45 und, s.getD 46 und, s.getD 47 und, s.getD 48 und, s.getD 49 und, s.getD 50 und, s.getD 51 und, s.getD 52 und, s.getD 53 und] = _
  rw [e0, e1, e2]
def rbJ (u : Bs) (i j0 : Nat) (k : Nat) (s : List V) (h : Heap) : Prop :=
  ∃ (j : Nat) (z : Int), (j + k = u.length ∧ z = j ∧ i ≤ j ∧ j0 ≤ j ∧ j0 < u.length ∧ ((j = j0 ∧ u[j0]? = some 35 ∧ Lex.skipS false (u.drop j) = Lex.skipS false (u.drop i)) ∨ (j0 < j ∧ Lex.skipS true (u.drop j) = Lex.skipS false (u.drop i)))) ∧ s.length = 54 ∧ s.getD 0 und = und ∧ s.getD 1 und = .str u ∧ s.getD 2 und = .int .i64 z
theorem rbJ_lit {u : Bs} {i j0 : Nat} {k : Nat} {s : List V} {h : Heap} (hI : rbJ u i j0 k s h) : ∃ (j : Nat) (z : Int) (x : Nat → V), (j + k = u.length ∧ z = j ∧ i ≤ j ∧ j0 ≤ j ∧ j0 < u.length ∧ ((j = j0 ∧ u[j0]? = some 35 ∧ Lex.skipS false (u.drop j) = Lex.skipS false (u.drop i)) ∨ (j0 < j ∧ Lex.skipS true (u.drop j) = Lex.skipS false (u.drop i)))) ∧
    s = [und, .str u, .int .i64 z, x 3, x 4, x 5, x 6, x 7, x 8, x 9, x 10, x 11, x 12, x 13, x 14, x 15, x 16, x 17, x 18, x 19, x 20, x 21, x 22, x 23, x 24, x 25, x 26, x 27, x 28, x 29, x 30, x 31, x 32, x 33, x 34, x 35, x 36, x 37, x 38, x 39, x 40, x 41, x 42, x 43, x 44, x 45, x 46, x 47, x 48, x 49, x 50, x 51, x 52, x 53] := by
  obtain ⟨j, z, hF, hl, e0, e1, e2⟩ := hI
  refine ⟨j, z, fun n => s.getD n und, hF, (lit_of hl).trans ?_⟩
  show [s.getD 0 und, s.getD 1 und, s.getD 2 und, s.getD 3 und, s.getD 4 und, s.getD 5 und, s.getD 6 und, s.getD 7 und, s.getD 8 und, s.getD 9 und, s.getD 10 und, s.getD 11 und, s.getD 12 und, s.getD 13 und, s.getD 14 und, s.getD 15 und, s.getD 16 und, s.getD 17 und, s.getD 18 und, s.getD 19 und, s.getD 20 und, s.getD 21 und, s.getD 22 und, s.getD 23 und, s.getD 24 und, s.getD 25 und, s.getD 26 und, s.getD 27 und, s.getD 28 und, s.getD 29 und, s.getD 30 und, s.getD 31 und, s.getD 32 und, s.getD 33 und, s.getD 34 und, s.getD 35 und, s.getD 36 und, s.getD 37 und, s.getD 38 und, s.getD 39 und, s.getD 40 und, s.getD 41 und, s.getD 42 und, s.getD 43 und, s.getD 44 und, s.getD 45 und, s.getD 46 und, s.getD 47 und, s.getD 48 und, s.getD 49 und, s.getD 50 und, s.getD 51 und, s.getD 52 und, s.getD 53 und] = _
  rw [e0, e1, e2]

theorem refBlank_has (h : Heap) (u : List UInt8) (i : Nat) (hu : u.length ≤ 2 ^ 40) (hi : i ≤ u.length) : Has envQ .own 82 [.str u, .int .i64 i] h (.val (.int .i64 (Lex.skipN u i)) h) := by
  refine HasP.own (a := [.str u, .int .i64 i]) (d := fn82) rfl rfl rfl (of_decide_eq_true rfl) ?_
  repeat (first | apply RunP.seq | apply RunP.region | apply RunP.condT rfl | apply RunP.condF rfl | apply RunP.skip | apply RunP.block | apply RunP.exit | apply RunP.ret)
  refine RunP.loop (rbI u i) ?_ (u.length - i) ⟨i, _, ⟨by omega, rfl, by omega, rfl⟩, rfl, rfl, rfl, rfl⟩
  intro k st g hI
  obtain ⟨j, z, x, ⟨hjk, hz, hij, hS⟩, rfl⟩ := rbI_lit hI
  clear hI
  subst hz
  repeat (first | apply RunP.seq | apply RunP.region | apply RunP.condT rfl | apply RunP.condF rfl | apply RunP.skip | apply RunP.block | apply RunP.exit | apply RunP.ret)
  refine And.intro (fun hlt => ?_) (fun hge => ?_)
  · have hj : j < u.length := by omega
    obtain ⟨c, hc⟩ : ∃ c, u[j]? = some c := ⟨_, List.getElem?_eq_getElem hj⟩
    repeat (first | apply RunP.seq | apply RunP.region | apply RunP.condT rfl | apply RunP.condF rfl | apply RunP.skip | apply RunP.block | apply RunP.exit | apply RunP.ret)
    refine And.intro (by omega) (Exists.intro c (And.intro hc ?_))
    have ceq : ∀ (n : Nat) (d : UInt8), d.toNat = n → (c.toNat : Int) = n → c = d := fun n d h1 h2 => UInt8.toNat_inj.1 (by omega)
    refine And.intro (fun h35 => ?_) (fun h35 => ?_)
    · have e : c = 35 := ceq 35 35 rfl h35
      subst e
      repeat (first | apply RunP.seq | apply RunP.region | apply RunP.condT rfl | apply RunP.condF rfl | apply RunP.skip | apply RunP.block | apply RunP.exit | apply RunP.ret)
      refine RunP.loop (rbJ u i j) ?_ (u.length - j) ⟨j, _, ⟨by omega, rfl, hij, by omega, hj, .inl ⟨rfl, hc, hS⟩⟩, rfl, rfl, rfl, rfl⟩
      intro m st2 g2 hJ
      obtain ⟨q, z, y, ⟨hqm, hz, hiq, hjq, _, hX⟩, rfl⟩ := rbJ_lit hJ
      clear hJ
      subst hz
      have atEnd : u.length ≤ q → Lex.skipS false (u.drop q) = Lex.skipS false (u.drop i) ∧ j < q := fun hq => by
        rcases hX with ⟨rfl, _, _⟩ | ⟨hlt2, hX⟩
        · omega
        · rw [Lex.skip_end hq] at hX ⊢; exact ⟨hX, hlt2⟩
      repeat (first | apply RunP.seq | apply RunP.region | apply RunP.condT rfl | apply RunP.condF rfl | apply RunP.skip | apply RunP.block | apply RunP.exit | apply RunP.ret)
      refine And.intro (fun hq => ?_) (fun hq => ?_)
      · have hq' : q < u.length := by omega
        obtain ⟨d, hd⟩ : ∃ d, u[q]? = some d := ⟨_, List.getElem?_eq_getElem hq'⟩
        refine And.intro (by omega) (Exists.intro d (And.intro hd ?_))
        refine And.intro (fun h10 => ?_) (fun h10 => ?_)
        · have e : d = 10 := UInt8.toNat_inj.1 (show d.toNat = 10 by omega)
          subst e
          have hfin : Lex.skipS false (u.drop q) = Lex.skipS false (u.drop i) ∧ j < q := by
            rcases hX with ⟨rfl, h1, _⟩ | ⟨hlt2, hX⟩
            · rw [hd] at h1; cases h1
            · rw [Lex.skip_lf hd] at hX; exact ⟨hX, hlt2⟩
          repeat (first | apply RunP.seq | apply RunP.region | apply RunP.condT rfl | apply RunP.condF rfl | apply RunP.skip | apply RunP.block | apply RunP.exit | apply RunP.ret)
          exact ⟨u.length - q, by omega, q, _, ⟨by omega, rfl, by omega, hfin.1⟩, rfl, rfl, rfl, rfl⟩
        · have e : d ≠ 10 := fun w => h10 (by rw [w]; rfl)
          repeat (first | apply RunP.seq | apply RunP.region | apply RunP.condT rfl | apply RunP.condF rfl | apply RunP.skip | apply RunP.block | apply RunP.exit | apply RunP.ret)
          refine ⟨m - 1, by omega, q + 1, _, ⟨by omega, wrap1 (by omega), by omega, by omega, hj, .inr ⟨by omega, ?_⟩⟩, rfl, rfl, rfl, rfl⟩
          rcases hX with ⟨rfl, h1, hX⟩ | ⟨hlt2, hX⟩
          · rw [← Lex.skip_hash h1]; exact hX
          · rw [← Lex.skip_com hd e]; exact hX
      · obtain ⟨hf1, hf2⟩ := atEnd (by omega)
        repeat (first | apply RunP.seq | apply RunP.region | apply RunP.condT rfl | apply RunP.condF rfl | apply RunP.skip | apply RunP.block | apply RunP.exit | apply RunP.ret)
        exact ⟨u.length - q, by omega, q, _, ⟨by omega, rfl, by omega, hf1⟩, rfl, rfl, rfl, rfl⟩
    · have e35 : c ≠ 35 := fun w => h35 (by rw [w]; rfl)
      repeat (first | apply RunP.seq | apply RunP.region | apply RunP.condT rfl | apply RunP.condF rfl | apply RunP.skip | apply RunP.block | apply RunP.exit | apply RunP.ret)
      refine And.intro (by omega) (Exists.intro c (And.intro hc ?_))
      refine And.intro (fun h9 => ?_) (fun h9 => ?_)
      · have eb : c = 9 := ceq 9 9 rfl h9
        have hbl : Lex.blankB c = true := by rw [eb]; decide
        repeat (first | apply RunP.seq | apply RunP.region | apply RunP.condT rfl | apply RunP.condF rfl | apply RunP.skip | apply RunP.block | apply RunP.exit | apply RunP.ret)
        exact ⟨k - 1, by omega, j + 1, _, ⟨by omega, wrap1 (by omega), by omega, by rw [← Lex.skip_blank hc hbl]; exact hS⟩, rfl, rfl, rfl, rfl⟩
      · repeat (first | apply RunP.seq | apply RunP.region | apply RunP.condT rfl | apply RunP.condF rfl | apply RunP.skip | apply RunP.block | apply RunP.exit | apply RunP.ret)
        refine And.intro (by omega) (Exists.intro c (And.intro hc ?_))
        refine And.intro (fun h10 => ?_) (fun h10 => ?_)
        · have eb : c = 10 := ceq 10 10 rfl h10
          have hbl : Lex.blankB c = true := by rw [eb]; decide
          repeat (first | apply RunP.seq | apply RunP.region | apply RunP.condT rfl | apply RunP.condF rfl | apply RunP.skip | apply RunP.block | apply RunP.exit | apply RunP.ret)
          exact ⟨k - 1, by omega, j + 1, _, ⟨by omega, wrap1 (by omega), by omega, by rw [← Lex.skip_blank hc hbl]; exact hS⟩, rfl, rfl, rfl, rfl⟩
        · repeat (first | apply RunP.seq | apply RunP.region | apply RunP.condT rfl | apply RunP.condF rfl | apply RunP.skip | apply RunP.block | apply RunP.exit | apply RunP.ret)
          refine And.intro (by omega) (Exists.intro c (And.intro hc ?_))
          refine And.intro (fun h13 => ?_) (fun h13 => ?_)
          · have eb : c = 13 := ceq 13 13 rfl h13
            have hbl : Lex.blankB c = true := by rw [eb]; decide
            repeat (first | apply RunP.seq | apply RunP.region | apply RunP.condT rfl | apply RunP.condF rfl | apply RunP.skip | apply RunP.block | apply RunP.exit | apply RunP.ret)
            exact ⟨k - 1, by omega, j + 1, _, ⟨by omega, wrap1 (by omega), by omega, by rw [← Lex.skip_blank hc hbl]; exact hS⟩, rfl, rfl, rfl, rfl⟩
          · repeat (first | apply RunP.seq | apply RunP.region | apply RunP.condT rfl | apply RunP.condF rfl | apply RunP.skip | apply RunP.block | apply RunP.exit | apply RunP.ret)
            refine And.intro (by omega) (Exists.intro c (And.intro hc ?_))
            refine And.intro (fun h32 => ?_) (fun h32 => ?_)
            · have eb : c = 32 := ceq 32 32 rfl h32
              have hbl : Lex.blankB c = true := by rw [eb]; decide
              repeat (first | apply RunP.seq | apply RunP.region | apply RunP.condT rfl | apply RunP.condF rfl | apply RunP.skip | apply RunP.block | apply RunP.exit | apply RunP.ret)
              exact ⟨k - 1, by omega, j + 1, _, ⟨by omega, wrap1 (by omega), by omega, by rw [← Lex.skip_blank hc hbl]; exact hS⟩, rfl, rfl, rfl, rfl⟩
            · have hb : Lex.blankB c = false := by
                simp only [Lex.blankB, decide_eq_false_iff_not]
                rintro (w | w | w | w)
                · exact h32 (by rw [w]; rfl)
                · exact h9 (by rw [w]; rfl)
                · exact h10 (by rw [w]; rfl)
                · exact h13 (by rw [w]; rfl)
              rw [Lex.skip_stop hc hb e35] at hS
              repeat (first | apply RunP.seq | apply RunP.region | apply RunP.condT rfl | apply RunP.condF rfl | apply RunP.skip | apply RunP.block | apply RunP.exit | apply RunP.ret)
              exact ⟨rfl, congrArg (fun b => some (V.int .i64 b)) (by rw [Lex.skipN_of (by omega) hS.symm]), rfl⟩
  · have hj : j = u.length := by omega
    rw [Lex.skip_end (by omega)] at hS
    repeat (first | apply RunP.seq | apply RunP.region | apply RunP.condT rfl | apply RunP.condF rfl | apply RunP.skip | apply RunP.block | apply RunP.exit | apply RunP.ret)
    exact ⟨rfl, congrArg (fun b => some (V.int .i64 b)) (by rw [Lex.skipN_of (by omega) hS.symm]), rfl⟩
def rrI (u : Bs) (i : Nat) (b : Bool) (k : Nat) (s : List V) (h : Heap) : Prop :=
  ∃ (j : Nat) (z : Int), (j + k = u.length ∧ z = j ∧ i ≤ j ∧ Lex.runE (Lex.runB b) u j = Lex.runE (Lex.runB b) u i) ∧ s.length = 30 ∧ s.getD 0 und = und ∧ s.getD 1 und = .str u ∧ s.getD 2 und = .int .i64 z ∧ s.getD 3 und = .bool b ∧ s.getD 7 und = .int .i64 0
theorem rrI_lit {u : Bs} {i : Nat} {b : Bool} {k : Nat} {s : List V} {h : Heap} (hI : rrI u i b k s h) : ∃ (j : Nat) (z : Int) (x : Nat → V), (j + k = u.length ∧ z = j ∧ i ≤ j ∧ Lex.runE (Lex.runB b) u j = Lex.runE (Lex.runB b) u i) ∧
    s = [und, .str u, .int .i64 z, .bool b, x 4, x 5, x 6, .int .i64 0, x 8, x 9, x 10, x 11, x 12, x 13, x 14, x 15, x 16, x 17, x 18, x 19, x 20, x 21, x 22, x 23, x 24, x 25, x 26, x 27, x 28, x 29] := by
  obtain ⟨j, z, hF, hl, e0, e1, e2, e3, e7⟩ := hI
  refine ⟨j, z, fun n => s.getD n und, hF, (lit_of hl).trans ?_⟩
  show [s.getD 0 und, s.getD 1 und, s.getD 2 und, s.getD 3 und, s.getD 4 und, s.getD 5 und, s.getD 6 und, s.getD 7 und, s.getD 8 und, s.getD 9 und, s.getD 10 und, s.getD 11 und, s.getD 12 und, s.getD 13 und, s.getD 14 und, s.getD 15 und, s.getD 16 und, s.getD 17 und, s.getD 18 und, s.getD 19 und, s.getD 20 und, s.getD 21 und, s.getD 22 und, s.getD 23 und, s.getD 24 und, s.getD 25 und, s.getD 26 und, s.getD 27 und, s.getD 28 und, s.getD 29 und] = _
  rw [e0, e1, e2, e3, e7]

theorem refRun_has (h : Heap) (u : List UInt8) (i : Nat) (b : Bool) (hu : u.length ≤ 2 ^ 40) (hi : i ≤ u.length) : Has envQ .own 120 [.str u, .int .i64 i, .bool b] h (.val (.int .i64 (Lex.runE (Lex.runB b) u i)) h) := by
  refine HasP.own (a := [.str u, .int .i64 i, .bool b]) (d := fn120) rfl rfl rfl (of_decide_eq_true rfl) ?_
  repeat (first | apply RunP.seq | apply RunP.region | apply RunP.condT rfl | apply RunP.condF rfl | apply RunP.skip | apply RunP.block | apply RunP.exit | apply RunP.ret)
  refine RunP.loop (rrI u i b) ?_ (u.length - i) ⟨i, _, ⟨by omega, rfl, by omega, rfl⟩, rfl, rfl, rfl, rfl, rfl, rfl⟩
  intro k st g hI
  obtain ⟨j, z, x, ⟨hjk, hz, hij, hS⟩, rfl⟩ := rrI_lit hI
  clear hI
  subst hz
  repeat (first | apply RunP.seq | apply RunP.region | apply RunP.condT rfl | apply RunP.condF rfl | apply RunP.skip | apply RunP.block | apply RunP.exit | apply RunP.ret)
  refine And.intro (fun hlt => ?_) (fun hge => ?_)
  · have hj : j < u.length := by omega
    obtain ⟨c, hc⟩ : ∃ c, u[j]? = some c := ⟨_, List.getElem?_eq_getElem hj⟩
    refine And.intro (by omega) (Exists.intro c (And.intro hc ?_))
    have hd := refDigit_has g c
    have hl := refLetter_has g c
    cases hD : Lex.digit c
    · rw [hD] at hd
      refine CallK.of hd ?_
      cases b
      · repeat (first | apply RunP.seq | apply RunP.region | apply RunP.condT rfl | apply RunP.condF rfl | apply RunP.skip | apply RunP.block | apply RunP.exit | apply RunP.ret)
        exact ⟨rfl, congrArg (fun b => some (V.int .i64 b)) (by rw [← hS, Lex.runE_stop hc (by simp [Lex.runB, hD])]), rfl⟩
      · refine And.intro (by omega) (Exists.intro c (And.intro hc ?_))
        cases hL : Lex.letter c
        · rw [hL] at hl
          refine CallK.of hl ?_
          repeat (first | apply RunP.seq | apply RunP.region | apply RunP.condT rfl | apply RunP.condF rfl | apply RunP.skip | apply RunP.block | apply RunP.exit | apply RunP.ret)
          exact ⟨rfl, congrArg (fun b => some (V.int .i64 b)) (by rw [← hS, Lex.runE_stop hc (by simp [Lex.runB, hD, hL])]), rfl⟩
        · rw [hL] at hl
          refine CallK.of hl ?_
          repeat (first | apply RunP.seq | apply RunP.region | apply RunP.condT rfl | apply RunP.condF rfl | apply RunP.skip | apply RunP.block | apply RunP.exit | apply RunP.ret)
          exact ⟨k - 1, by omega, j + 1, _, ⟨by omega, wrap1 (by omega), by omega, by rw [Lex.runE_up hc (by simp [Lex.runB, hL])]; exact hS⟩, rfl, rfl, rfl, rfl, rfl, rfl⟩
    · rw [hD] at hd
      refine CallK.of hd ?_
      repeat (first | apply RunP.seq | apply RunP.region | apply RunP.condT rfl | apply RunP.condF rfl | apply RunP.skip | apply RunP.block | apply RunP.exit | apply RunP.ret)
      exact ⟨k - 1, by omega, j + 1, _, ⟨by omega, wrap1 (by omega), by omega, by rw [Lex.runE_up hc (by simp [Lex.runB, hD])]; exact hS⟩, rfl, rfl, rfl, rfl, rfl, rfl⟩
  · repeat (first | apply RunP.seq | apply RunP.region | apply RunP.condT rfl | apply RunP.condF rfl | apply RunP.skip | apply RunP.block | apply RunP.exit | apply RunP.ret)
    exact ⟨rfl, congrArg (fun b => some (V.int .i64 b)) (by rw [← hS, Lex.runE_end (by omega)]), rfl⟩
def rqJ (u : Bs) (a : Nat) (k : Nat) (s : List V) (h : Heap) : Prop :=
  ∃ (j : Nat) (z : Int) (w : V) (bs : Bs), (j + k = u.length + 1 ∧ z = j ∧ a ≤ j ∧ bs.length ≤ j - a ∧ InRow h 5 1 w (bv bs) ∧ Lex.quoteL (u.drop a) = (Lex.quoteL (u.drop j)).map (fun p => (bs ++ p.1, p.2 + (j - a)))) ∧ s.length = 58 ∧ s.getD 0 und = und ∧ s.getD 1 und = .str u ∧ s.getD 8 und = w ∧ s.getD 9 und = .int .i64 z
theorem rqJ_lit {u : Bs} {a : Nat} {k : Nat} {s : List V} {h : Heap} (hI : rqJ u a k s h) : ∃ (j : Nat) (z : Int) (w : V) (bs : Bs) (x : Nat → V), (j + k = u.length + 1 ∧ z = j ∧ a ≤ j ∧ bs.length ≤ j - a ∧ InRow h 5 1 w (bv bs) ∧ Lex.quoteL (u.drop a) = (Lex.quoteL (u.drop j)).map (fun p => (bs ++ p.1, p.2 + (j - a)))) ∧
    s = [und, .str u, x 2, x 3, x 4, x 5, x 6, x 7, w, .int .i64 z, x 10, x 11, x 12, x 13, x 14, x 15, x 16, x 17, x 18, x 19, x 20, x 21, x 22, x 23, x 24, x 25, x 26, x 27, x 28, x 29, x 30, x 31, x 32, x 33, x 34, x 35, x 36, x 37, x 38, x 39, x 40, x 41, x 42, x 43, x 44, x 45, x 46, x 47, x 48, x 49, x 50, x 51, x 52, x 53, x 54, x 55, x 56, x 57] := by
  obtain ⟨j, z, w, bs, hF, hl, e0, e1, e8, e9⟩ := hI
  refine ⟨j, z, w, bs, fun n => s.getD n und, hF, (lit_of hl).trans ?_⟩
  show [s.getD 0 und, s.getD 1 und, s.getD 2 und, s.getD 3 und, s.getD 4 und, s.getD 5 und, s.getD 6 und, s.getD 7 und, s.getD 8 und, s.getD 9 und, s.getD 10 und, s.getD 11 und, s.getD 12 und, s.getD 13 und, s.getD 14 und, s.getD 15 und, s.getD 16 und, s.getD 17 und, s.getD 18 und, s.getD 19 und, s.getD 20 und, s.getD 21 und, s.getD 22 und, s.getD 23 und, s.getD 24 und, s.getD 25 und, s.getD 26 und, s.getD 27 und, s.getD 28 und, s.getD 29 und, s.getD 30 und, s.getD 31 und, s.getD 32 und, s.getD 33 und, s.getD 34 und, s.getD 35 und, s.getD 36 und, s.getD 37 und, s.getD 38 und, s.getD 39 und, s.getD 40 und, s.getD 41 und, s.getD 42 und, s.getD 43 und, s.getD 44 und, s.getD 45 und, s.getD 46 und, s.getD 47 und, s.getD 48 und, s.getD 49 und, s.getD 50 und, s.getD 51 und, s.getD 52 und, s.getD 53 und, s.getD 54 und, s.getD 55 und, s.getD 56 und, s.getD 57 und] = _
  rw [e0, e1, e8, e9]

/-- What the reference's quote answers. -/
def quoteR (u : List UInt8) (a : Nat) : V := match Lex.quoteL (u.drop a) with
  | some p => .tup [.str p.1, .int .i64 ((a + p.2 : Nat) : Int), .bool (Lex.isText p.1)]
  | none => .tup [.str [], .int .i64 0, .bool false]
theorem quoteR_none {u : List UInt8} {a : Nat} (h : Lex.quoteL (u.drop a) = none) : quoteR u a = .tup [.str [], .int .i64 0, .bool false] := by unfold quoteR; rw [h]
theorem quoteR_some {u : List UInt8} {a : Nat} {p : List UInt8 × Nat} (h : Lex.quoteL (u.drop a) = some p) : quoteR u a = .tup [.str p.1, .int .i64 ((a + p.2 : Nat) : Int), .bool (Lex.isText p.1)] := by unfold quoteR; rw [h]
theorem refQuoteAt_has (h : Heap) (u : List UInt8) (i : Nat) (hu : u.length ≤ 2 ^ 30) (hi : i < u.length) : Has envQ .own 125 [.str u, .int .i64 i] h (.val (quoteR u (i + 1)) h) := by
  refine HasP.own (a := [.str u, .int .i64 i]) (d := fn125) rfl rfl rfl (of_decide_eq_true rfl) ?_
  repeat (first | apply RunP.seq | apply RunP.region | apply RunP.condT rfl | apply RunP.condF rfl | apply RunP.skip | apply RunP.block | apply RunP.exit | apply RunP.ret)
  refine RunP.loop (rqJ u (i + 1)) ?_ (u.length - i) ⟨i + 1, _, _, [], ⟨by omega, wrap1 (by omega), by omega, by simp, .inl ⟨rfl, rfl⟩, by simp⟩, rfl, rfl, rfl, rfl, rfl⟩
  intro k st g hI
  obtain ⟨j, z, w, bs, x, ⟨hjk, hz, haj, hbl, hrow, hQ⟩, rfl⟩ := rqJ_lit hI
  clear hI
  subst hz
  repeat (first | apply RunP.seq | apply RunP.region | apply RunP.condT rfl | apply RunP.condF rfl | apply RunP.skip | apply RunP.block | apply RunP.exit | apply RunP.ret)
  refine And.intro (fun hlt => ?_) (fun hge => ?_)
  · have hj : j < u.length := by omega
    obtain ⟨c, hc⟩ : ∃ c, u[j]? = some c := ⟨_, List.getElem?_eq_getElem hj⟩
    repeat (first | apply RunP.seq | apply RunP.region | apply RunP.condT rfl | apply RunP.condF rfl | apply RunP.skip | apply RunP.block | apply RunP.exit | apply RunP.ret)
    refine And.intro (by omega) (Exists.intro c (And.intro hc ?_))
    repeat (first | apply RunP.seq | apply RunP.region | apply RunP.condT rfl | apply RunP.condF rfl | apply RunP.skip | apply RunP.block | apply RunP.exit | apply RunP.ret)
    refine And.intro (fun h34 => ?_) (fun h34 => ?_)
    · have e : c = 34 := UInt8.toNat_inj.1 (show c.toNat = 34 by omega)
      subst e
      rw [Lex.quote_close hc] at hQ
      simp only [Option.map_some, List.append_nil] at hQ
      repeat (first | apply RunP.seq | apply RunP.region | apply RunP.condT rfl | apply RunP.condF rfl | apply RunP.skip | apply RunP.block | apply RunP.exit | apply RunP.ret)
      apply RunP.drawn
      · decide +kernel
      refine conv_bytesK (E := envQ) (T := 5) (t := 107) (st := 9) rfl rfl rfl rfl rfl rfl rfl hrow ?_
      refine drawR (by decide +kernel) (by decide +kernel) ?_
      refine conv_bytesK (E := envQ) (T := 5) (t := 107) (st := 9) rfl rfl rfl rfl rfl rfl rfl hrow ?_
      refine drawR (by decide +kernel) (by decide +kernel) ?_
      refine CallK.of (refIsText_has _ bs (by omega)) ?_
      refine drawR (by decide +kernel) (by decide +kernel) ?_
      repeat (first | apply RunP.seq | apply RunP.region | apply RunP.condT rfl | apply RunP.condF rfl | apply RunP.skip | apply RunP.block | apply RunP.exit | apply RunP.ret)
      refine ⟨rfl, ?_, rfl⟩
      rw [quoteR_some hQ]
      show some (V.tup [.str bs, .int .i64 (IntKind.i64.wrap ((j : Int) + 1)), .bool (Lex.isText bs)]) = some (V.tup [.str bs, .int .i64 (((i + 1) + (1 + (j - (i + 1))) : Nat) : Int), .bool (Lex.isText bs)])
      rw [wrap1 (by omega), show (i + 1) + (1 + (j - (i + 1))) = j + 1 from by omega]
    · have e34 : c ≠ 34 := fun q => h34 (by rw [q]; rfl)
      repeat (first | apply RunP.seq | apply RunP.region | apply RunP.condT rfl | apply RunP.condF rfl | apply RunP.skip | apply RunP.block | apply RunP.exit | apply RunP.ret)
      refine And.intro (fun h92 => ?_) (fun h92 => ?_)
      · have e : c = 92 := UInt8.toNat_inj.1 (show c.toNat = 92 by omega)
        subst e
        have ew : IntKind.i64.wrap ((j : Int) + 1) = ((j + 1 : Nat) : Int) := wrap1 (by omega)
        repeat (first | apply RunP.seq | apply RunP.region | apply RunP.condT rfl | apply RunP.condF rfl | apply RunP.skip | apply RunP.block | apply RunP.exit | apply RunP.ret)
        have bad : (∀ d, u[j + 1]? = some d → d ≠ 34 ∧ d ≠ 92) → quoteR u (i + 1) = .tup [.str [], .int .i64 0, .bool false] := fun hb => by
          rw [Lex.quote_bad hc hb] at hQ
          exact quoteR_none hQ
        have esc : ∀ d, u[j + 1]? = some d → (d = 34 ∨ d = 92) → Lex.quoteL (u.drop (i + 1)) = (Lex.quoteL (u.drop (j + 1 + 1))).map (fun p => ((bs ++ [d]) ++ p.1, p.2 + (j + 1 + 1 - (i + 1)))) := fun d hd h => by
          rw [hQ, Lex.quote_esc hc hd h, Option.map_map]
          congr 1
          funext q
          refine Prod.ext (by simp) ?_
          show q.2 + 2 + (j - (i + 1)) = q.2 + (j + 1 + 1 - (i + 1))
          omega
        refine And.intro (fun hE => ?_) (fun hE => ?_)
        · rw [ew] at hE
          repeat (first | apply RunP.seq | apply RunP.region | apply RunP.condT rfl | apply RunP.condF rfl | apply RunP.skip | apply RunP.block | apply RunP.exit | apply RunP.ret)
          exact ⟨rfl, by rw [bad (fun d hd => by have := (List.getElem?_eq_some_iff.1 hd).1; omega)]; rfl, rfl⟩
        · rw [ew] at hE
          have hj1 : j + 1 < u.length := by omega
          obtain ⟨d, hd⟩ : ∃ d, u[j + 1]? = some d := ⟨_, List.getElem?_eq_getElem hj1⟩
          have hid : u[(IntKind.i64.wrap ((j : Int) + 1)).toNat]? = some d := by rw [ew, Int.toNat_natCast]; exact hd
          have hge0 : 0 ≤ IntKind.i64.wrap ((j : Int) + 1) := by rw [ew]; omega
          have ew2 : IntKind.i64.wrap (IntKind.i64.wrap ((j : Int) + 1) + 1) = ((j + 1 + 1 : Nat) : Int) := by rw [ew]; exact wrap1 (by omega)
          refine And.intro hge0 (Exists.intro d (And.intro hid ?_))
          refine And.intro (fun d34 => ?_) (fun d34 => ?_)
          · have e : d = 34 := UInt8.toNat_inj.1 (show d.toNat = 34 by omega)
            repeat (first | apply RunP.seq | apply RunP.region | apply RunP.condT rfl | apply RunP.condF rfl | apply RunP.skip | apply RunP.block | apply RunP.exit | apply RunP.ret)
            refine And.intro hge0 (Exists.intro d (And.intro hid ?_))
            repeat (first | apply RunP.seq | apply RunP.region | apply RunP.condT rfl | apply RunP.condF rfl | apply RunP.skip | apply RunP.block | apply RunP.exit | apply RunP.ret)
            refine app_byteK (E := envQ) (T := 5) (t := 107) rfl rfl rfl rfl rfl hrow d (by omega) ?_
            intro w2 g2 hr2 _ _
            repeat (first | apply RunP.seq | apply RunP.region | apply RunP.condT rfl | apply RunP.condF rfl | apply RunP.skip | apply RunP.block | apply RunP.exit | apply RunP.ret)
            exact ⟨k - 2, by omega, j + 1 + 1, _, _, bs ++ [d], ⟨by omega, ew2, by omega, by simp only [List.length_append, List.length_cons, List.length_nil]; omega, hr2, esc d hd (.inl e)⟩, rfl, rfl, rfl, rfl, rfl⟩
          · refine And.intro hge0 (Exists.intro d (And.intro hid ?_))
            refine And.intro (fun d92 => ?_) (fun d92 => ?_)
            · have e : d = 92 := UInt8.toNat_inj.1 (show d.toNat = 92 by omega)
              repeat (first | apply RunP.seq | apply RunP.region | apply RunP.condT rfl | apply RunP.condF rfl | apply RunP.skip | apply RunP.block | apply RunP.exit | apply RunP.ret)
              refine And.intro hge0 (Exists.intro d (And.intro hid ?_))
              repeat (first | apply RunP.seq | apply RunP.region | apply RunP.condT rfl | apply RunP.condF rfl | apply RunP.skip | apply RunP.block | apply RunP.exit | apply RunP.ret)
              refine app_byteK (E := envQ) (T := 5) (t := 107) rfl rfl rfl rfl rfl hrow d (by omega) ?_
              intro w2 g2 hr2 _ _
              repeat (first | apply RunP.seq | apply RunP.region | apply RunP.condT rfl | apply RunP.condF rfl | apply RunP.skip | apply RunP.block | apply RunP.exit | apply RunP.ret)
              exact ⟨k - 2, by omega, j + 1 + 1, _, _, bs ++ [d], ⟨by omega, ew2, by omega, by simp only [List.length_append, List.length_cons, List.length_nil]; omega, hr2, esc d hd (.inr e)⟩, rfl, rfl, rfl, rfl, rfl⟩
            · repeat (first | apply RunP.seq | apply RunP.region | apply RunP.condT rfl | apply RunP.condF rfl | apply RunP.skip | apply RunP.block | apply RunP.exit | apply RunP.ret)
              exact ⟨rfl, by rw [bad (fun d' hd' => by rw [hd] at hd'; cases hd'; exact ⟨fun q => d34 (by rw [q]; rfl), fun q => d92 (by rw [q]; rfl)⟩)]; rfl, rfl⟩
      · have e92 : c ≠ 92 := fun q => h92 (by rw [q]; rfl)
        repeat (first | apply RunP.seq | apply RunP.region | apply RunP.condT rfl | apply RunP.condF rfl | apply RunP.skip | apply RunP.block | apply RunP.exit | apply RunP.ret)
        refine app_byteK (E := envQ) (T := 5) (t := 107) rfl rfl rfl rfl rfl hrow c (by omega) ?_
        intro w2 g2 hr2 _ _
        repeat (first | apply RunP.seq | apply RunP.region | apply RunP.condT rfl | apply RunP.condF rfl | apply RunP.skip | apply RunP.block | apply RunP.exit | apply RunP.ret)
        refine ⟨k - 1, by omega, j + 1, _, _, bs ++ [c], ⟨by omega, wrap1 (by omega), by omega, by simp only [List.length_append, List.length_cons, List.length_nil]; omega, hr2, ?_⟩, rfl, rfl, rfl, rfl, rfl⟩
        rw [hQ, Lex.quote_plain hc e34 e92, Option.map_map]
        congr 1
        funext q
        refine Prod.ext (by simp) ?_
        show q.2 + 1 + (j - (i + 1)) = q.2 + (j + 1 - (i + 1))
        omega
  · rw [Lex.quote_end (u := u) (j := j) (by omega)] at hQ
    repeat (first | apply RunP.seq | apply RunP.region | apply RunP.condT rfl | apply RunP.condF rfl | apply RunP.skip | apply RunP.block | apply RunP.exit | apply RunP.ret)
    exact ⟨rfl, by rw [quoteR_none hQ]; rfl, rfl⟩
end Go.Proofs.YtkjhnpmgieplgaaGreatDoor
