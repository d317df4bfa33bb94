/- The program's scanner: blanks and comments, runs. -/
import Derived.Test.YtkjhnpmgieplgaaGreatDoorSbToksR
set_option linter.unusedVariables false
set_option linter.unusedSimpArgs false
namespace Go.Proofs.YtkjhnpmgieplgaaGreatDoor
open Go.Sb
set_option maxRecDepth 100000

/-- The scanner in memory. -/
def sc (u : List UInt8) (z : Int) : Blk := .cells 112 [.str u, .int .i64 z]
theorem sc_id {h : Heap} {b : Nat} {k : Blk} (hb : h[b]? = some k) : h.set b k = h := by
  apply List.ext_getElem? 
  intro i
  by_cases e : i = b
  · subst e; rw [set_same hb, hb]
  · rw [set_other e]
theorem sc_up {h0 h : Heap} {b : Nat} {u : List UInt8} {j : Nat} {x : Blk} {z : Int} (hg : h = h0.set b x) (hz : z = ((j + 1 : Nat) : Int)) : h.set b (.cells 112 (splice [.str u, .int .i64 j] 1 (V.int .i64 z).cells)) = h0.set b (sc u ((j + 1 : Nat) : Int)) := by
  rw [hg, List.set_set, hz]; rfl
def psI (h0 : Heap) (b : Nat) (u : Bs) (i : Nat) (k : Nat) (s : List V) (h : Heap) : Prop :=
  ∃ (j : Nat), (j + k = u.length ∧ i ≤ j ∧ h = h0.set b (sc u j) ∧ Lex.skipS false (u.drop j) = Lex.skipS false (u.drop i)) ∧ s.length = 77 ∧ s.getD 0 und = und ∧ s.getD 1 und = .ptr b 0 2
theorem psI_lit {h0 : Heap} {b : Nat} {u : Bs} {i : Nat} {k : Nat} {s : List V} {h : Heap} (hI : psI h0 b u i k s h) : ∃ (j : Nat) (x : Nat → V), (j + k = u.length ∧ i ≤ j ∧ h = h0.set b (sc u j) ∧ Lex.skipS false (u.drop j) = Lex.skipS false (u.drop i)) ∧
    s = [und, .ptr b 0 2, x 2, x 3, x 4, x 5, x 6, x 7, x 8, x 9, x 10, x 11, x 12, x 13, x 14, x 15, x 16, x 17, x 18, x 19, x 20, x 21, x 22, x 23, x 24, x 25, x 26, x 27, x 28, x 29, x 30, x 31, x 32, x 33, x 34, x 35, x 36, x 37, x 38, x 39, x 40, x 41, x 42, x 43, x 44, x 45, x 46, x 47, x 48, x 49, x 50, x 51, x 52, x 53, x 54, x 55, x 56, x 57, x 58, x 59, x 60, x 61, x 62, x 63, x 64, x 65, x 66, x 67, x 68, x 69, x 70, x 71, x 72, x 73, x 74, x 75, x 76] := by
  obtain ⟨j, hF, hl, e0, e1⟩ := hI
  refine ⟨j, fun n => s.getD n und, hF, (lit_of hl).trans ?_⟩
  show [s.getD 0 und, s.getD 1 und, s.getD 2 und, s.getD 3 und, s.getD 4 und, s.getD 5 und, s.getD 6 und, s.getD 7 und, s.getD 8 und, s.getD 9 und, s.getD 10 und, s.getD 11 und, s.getD 12 und, s.getD 13 und, s.getD 14 und, s.getD 15 und, s.getD 16 und, s.getD 17 und, s.getD 18 und, s.getD 19 und, s.getD 20 und, s.getD 21 und, s.getD 22 und, s.getD 23 und, s.getD 24 und, s.getD 25 und, s.getD 26 und, s.getD 27 und, s.getD 28 und, s.getD 29 und, s.getD 30 und, s.getD 31 und, s.getD 32 und, s.getD 33 und, s.getD 34 und, s.getD 35 und, s.getD 36 und, s.getD 37 und, s.getD 38 und, s.getD 39 und, s.getD 40 und, s.getD 41 und, s.getD 42 und, s.getD 43 und, s.getD 44 und, s.getD 45 und, s.getD 46 und, s.getD 47 und, s.getD 48 und, s.getD 49 und, s.getD 50 und, s.getD 51 und, s.getD 52 und, s.getD 53 und, s.getD 54 und, s.getD 55 und, s.getD 56 und, s.getD 57 und, s.getD 58 und, s.getD 59 und, s.getD 60 und, s.getD 61 und, s.getD 62 und, s.getD 63 und, s.getD 64 und, s.getD 65 und, s.getD 66 und, s.getD 67 und, s.getD 68 und, s.getD 69 und, s.getD 70 und, s.getD 71 und, s.getD 72 und, s.getD 73 und, s.getD 74 und, s.getD 75 und, s.getD 76 und] = _
  rw [e0, e1]
def psJ (h0 : Heap) (b : Nat) (u : Bs) (i j0 : Nat) (k : Nat) (s : List V) (h : Heap) : Prop :=
  ∃ (j : Nat), (j + k = u.length ∧ i ≤ j ∧ j0 ≤ j ∧ j0 < u.length ∧ h = h0.set b (sc u j) ∧ ((j = j0 ∧ u[j0]? = some 35 ∧ Lex.skipS false (u.drop j) = Lex.skipS false (u.drop i)) ∨ (j0 < j ∧ Lex.skipS true (u.drop j) = Lex.skipS false (u.drop i)))) ∧ s.length = 77 ∧ s.getD 0 und = und ∧ s.getD 1 und = .ptr b 0 2
theorem psJ_lit {h0 : Heap} {b : Nat} {u : Bs} {i j0 : Nat} {k : Nat} {s : List V} {h : Heap} (hI : psJ h0 b u i j0 k s h) : ∃ (j : Nat) (x : Nat → V), (j + k = u.length ∧ i ≤ j ∧ j0 ≤ j ∧ j0 < u.length ∧ h = h0.set b (sc u j) ∧ ((j = j0 ∧ u[j0]? = some 35 ∧ Lex.skipS false (u.drop j) = Lex.skipS false (u.drop i)) ∨ (j0 < j ∧ Lex.skipS true (u.drop j) = Lex.skipS false (u.drop i)))) ∧
    s = [und, .ptr b 0 2, x 2, x 3, x 4, x 5, x 6, x 7, x 8, x 9, x 10, x 11, x 12, x 13, x 14, x 15, x 16, x 17, x 18, x 19, x 20, x 21, x 22, x 23, x 24, x 25, x 26, x 27, x 28, x 29, x 30, x 31, x 32, x 33, x 34, x 35, x 36, x 37, x 38, x 39, x 40, x 41, x 42, x 43, x 44, x 45, x 46, x 47, x 48, x 49, x 50, x 51, x 52, x 53, x 54, x 55, x 56, x 57, x 58, x 59, x 60, x 61, x 62, x 63, x 64, x 65, x 66, x 67, x 68, x 69, x 70, x 71, x 72, x 73, x 74, x 75, x 76] := by
  obtain ⟨j, hF, hl, e0, e1⟩ := hI
  refine ⟨j, fun n => s.getD n und, hF, (lit_of hl).trans ?_⟩
  show [s.getD 0 und, s.getD 1 und, s.getD 2 und, s.getD 3 und, s.getD 4 und, s.getD 5 und, s.getD 6 und, s.getD 7 und, s.getD 8 und, s.getD 9 und, s.getD 10 und, s.getD 11 und, s.getD 12 und, s.getD 13 und, s.getD 14 und, s.getD 15 und, s.getD 16 und, s.getD 17 und, s.getD 18 und, s.getD 19 und, s.getD 20 und, s.getD 21 und, s.getD 22 und, s.getD 23 und, s.getD 24 und, s.getD 25 und, s.getD 26 und, s.getD 27 und, s.getD 28 und, s.getD 29 und, s.getD 30 und, s.getD 31 und, s.getD 32 und, s.getD 33 und, s.getD 34 und, s.getD 35 und, s.getD 36 und, s.getD 37 und, s.getD 38 und, s.getD 39 und, s.getD 40 und, s.getD 41 und, s.getD 42 und, s.getD 43 und, s.getD 44 und, s.getD 45 und, s.getD 46 und, s.getD 47 und, s.getD 48 und, s.getD 49 und, s.getD 50 und, s.getD 51 und, s.getD 52 und, s.getD 53 und, s.getD 54 und, s.getD 55 und, s.getD 56 und, s.getD 57 und, s.getD 58 und, s.getD 59 und, s.getD 60 und, s.getD 61 und, s.getD 62 und, s.getD 63 und, s.getD 64 und, s.getD 65 und, s.getD 66 und, s.getD 67 und, s.getD 68 und, s.getD 69 und, s.getD 70 und, s.getD 71 und, s.getD 72 und, s.getD 73 und, s.getD 74 und, s.getD 75 und, s.getD 76 und] = _
  rw [e0, e1]

theorem skip_has (h : Heap) (b : Nat) (u : List UInt8) (i : Nat) (hu : u.length ≤ 2 ^ 40) (hi : i ≤ u.length) (hb : h[b]? = some (sc u i)) : Has envQ .shared 111 [.ptr b 0 2] h (.val (.tup []) (h.set b (sc u (Lex.skipN u i)))) := by
  have key : ∃ v g, Has envQ .shared 111 [.ptr b 0 2] h (.val v g) ∧ v = .tup [] ∧ g = h.set b (sc u (Lex.skipN u i)) := by
    refine HasP.sharedE (d := fn111) rfl (of_decide_eq_true rfl) ?_
    repeat (first | apply RunP.seq | apply RunP.region | apply RunP.condT rfl | apply RunP.condF rfl | apply RunP.skip | apply RunP.block | apply RunP.exit | apply RunP.ret)
    refine RunP.loop (psI h b u i) ?_ (u.length - i) ⟨i, ⟨by omega, by omega, (sc_id hb).symm, rfl⟩, rfl, rfl, rfl⟩
    intro k st g hI
    obtain ⟨j, x, ⟨hjk, hij, hg, hS⟩, rfl⟩ := psI_lit hI
    clear hI
    have hsc : g[b]? = some (sc u j) := by rw [hg]; exact set_same hb
    repeat (first | apply RunP.seq | apply RunP.region | apply RunP.condT rfl | apply RunP.condF rfl | apply RunP.skip | apply RunP.block | apply RunP.exit | apply RunP.ret)
    apply RunP.drawn
    · decide +kernel
    refine bindK_of (load_at (E := envQ) (t := 3) (n := 2) hsc rfl) ?_
    refine drawR (by decide +kernel) (by decide +kernel) ?_
    refine bindK_of (load_at (E := envQ) (t := 9) (n := 2) hsc rfl) ?_
    refine drawR (by decide +kernel) (by decide +kernel) ?_
    refine And.intro (fun hlt => ?_) (fun hge => ?_)
    · have hj : j < u.length := by omega
      obtain ⟨c, hc⟩ : ∃ c, u[j]? = some c := ⟨_, List.getElem?_eq_getElem hj⟩
      have ceq : ∀ (n : Nat) (d : UInt8), d.toNat = n → (c.toNat : Int) = n → c = d := fun n d h1 h2 => UInt8.toNat_inj.1 (by omega)
      repeat (first | apply RunP.seq | apply RunP.region | apply RunP.condT rfl | apply RunP.condF rfl | apply RunP.skip | apply RunP.block | apply RunP.exit | apply RunP.ret)
      apply RunP.drawn
      · decide +kernel
      refine bindK_of (load_at (E := envQ) (t := 9) (n := 2) hsc rfl) ?_
      refine drawR (by decide +kernel) (by decide +kernel) ?_
      refine bindK_of (load_at (E := envQ) (t := 3) (n := 2) hsc rfl) ?_
      refine drawR (by decide +kernel) (by decide +kernel) ?_
      refine And.intro (by omega) (Exists.intro c (And.intro hc ?_))
      repeat (first | apply RunP.seq | apply RunP.region | apply RunP.condT rfl | apply RunP.condF rfl | apply RunP.skip | apply RunP.block | apply RunP.exit | apply RunP.ret)
      refine And.intro (fun h32 => ?_) (fun h32 => ?_)
      · have eb : c = 32 := ceq 32 32 rfl h32
        have hbl : Lex.blankB c = true := by rw [eb]; decide
        repeat (first | apply RunP.seq | apply RunP.region | apply RunP.condT rfl | apply RunP.condF rfl | apply RunP.skip | apply RunP.block | apply RunP.exit | apply RunP.ret)
        refine bindK_of (load_at (E := envQ) (t := 3) (n := 2) hsc rfl) ?_
        refine bindK_of (store_at (E := envQ) (t := 3) (n := 2) hsc rfl rfl rfl rfl (by decide)) ?_
        repeat (first | apply RunP.seq | apply RunP.region | apply RunP.condT rfl | apply RunP.condF rfl | apply RunP.skip | apply RunP.block | apply RunP.exit | apply RunP.ret)
        exact ⟨k - 1, by omega, j + 1, ⟨by omega, by omega, sc_up hg (wrap1 (by omega)), by rw [← Lex.skip_blank hc hbl]; exact hS⟩, rfl, rfl, rfl⟩
      · refine And.intro (fun h9 => ?_) (fun h9 => ?_)
        · have eb : c = 9 := ceq 9 9 rfl h9
          have hbl : Lex.blankB c = true := by rw [eb]; decide
          repeat (first | apply RunP.seq | apply RunP.region | apply RunP.condT rfl | apply RunP.condF rfl | apply RunP.skip | apply RunP.block | apply RunP.exit | apply RunP.ret)
          refine bindK_of (load_at (E := envQ) (t := 3) (n := 2) hsc rfl) ?_
          refine bindK_of (store_at (E := envQ) (t := 3) (n := 2) hsc rfl rfl rfl rfl (by decide)) ?_
          repeat (first | apply RunP.seq | apply RunP.region | apply RunP.condT rfl | apply RunP.condF rfl | apply RunP.skip | apply RunP.block | apply RunP.exit | apply RunP.ret)
          exact ⟨k - 1, by omega, j + 1, ⟨by omega, by omega, sc_up hg (wrap1 (by omega)), by rw [← Lex.skip_blank hc hbl]; exact hS⟩, rfl, rfl, rfl⟩
        · refine And.intro (fun h10 => ?_) (fun h10 => ?_)
          · have eb : c = 10 := ceq 10 10 rfl h10
            have hbl : Lex.blankB c = true := by rw [eb]; decide
            repeat (first | apply RunP.seq | apply RunP.region | apply RunP.condT rfl | apply RunP.condF rfl | apply RunP.skip | apply RunP.block | apply RunP.exit | apply RunP.ret)
            refine bindK_of (load_at (E := envQ) (t := 3) (n := 2) hsc rfl) ?_
            refine bindK_of (store_at (E := envQ) (t := 3) (n := 2) hsc rfl rfl rfl rfl (by decide)) ?_
            repeat (first | apply RunP.seq | apply RunP.region | apply RunP.condT rfl | apply RunP.condF rfl | apply RunP.skip | apply RunP.block | apply RunP.exit | apply RunP.ret)
            exact ⟨k - 1, by omega, j + 1, ⟨by omega, by omega, sc_up hg (wrap1 (by omega)), by rw [← Lex.skip_blank hc hbl]; exact hS⟩, rfl, rfl, rfl⟩
          · refine And.intro (fun h13 => ?_) (fun h13 => ?_)
            · have eb : c = 13 := ceq 13 13 rfl h13
              have hbl : Lex.blankB c = true := by rw [eb]; decide
              repeat (first | apply RunP.seq | apply RunP.region | apply RunP.condT rfl | apply RunP.condF rfl | apply RunP.skip | apply RunP.block | apply RunP.exit | apply RunP.ret)
              refine bindK_of (load_at (E := envQ) (t := 3) (n := 2) hsc rfl) ?_
              refine bindK_of (store_at (E := envQ) (t := 3) (n := 2) hsc rfl rfl rfl rfl (by decide)) ?_
              repeat (first | apply RunP.seq | apply RunP.region | apply RunP.condT rfl | apply RunP.condF rfl | apply RunP.skip | apply RunP.block | apply RunP.exit | apply RunP.ret)
              exact ⟨k - 1, by omega, j + 1, ⟨by omega, by omega, sc_up hg (wrap1 (by omega)), by rw [← Lex.skip_blank hc hbl]; exact hS⟩, rfl, rfl, rfl⟩
            · have hb : Lex.blankB c = false := by
                simp only [Lex.blankB, decide_eq_false_iff_not]
                rintro (w | w | w | w)
                · exact h32 (by rw [w]; rfl)
                · exact h9 (by rw [w]; rfl)
                · exact h10 (by rw [w]; rfl)
                · exact h13 (by rw [w]; rfl)
              repeat (first | apply RunP.seq | apply RunP.region | apply RunP.condT rfl | apply RunP.condF rfl | apply RunP.skip | apply RunP.block | apply RunP.exit | apply RunP.ret)
              refine And.intro (fun h35 => ?_) (fun h35 => ?_)
              · have e : c = 35 := ceq 35 35 rfl h35
                subst e
                repeat (first | apply RunP.seq | apply RunP.region | apply RunP.condT rfl | apply RunP.condF rfl | apply RunP.skip | apply RunP.block | apply RunP.exit | apply RunP.ret)
                refine RunP.loop (psJ h b u i j) ?_ (u.length - j) ⟨j, ⟨by omega, hij, by omega, hj, hg, .inl ⟨rfl, hc, hS⟩⟩, rfl, rfl, rfl⟩
                clear hsc hg
                intro m st2 g2 hJ
                obtain ⟨q, y, ⟨hqm, hiq, hjq, _, hg, hX⟩, rfl⟩ := psJ_lit hJ
                clear hJ
                have hsc : g2[b]? = some (sc u q) := by rw [hg]; exact set_same ‹h[b]? = some (sc u i)›
                have atEnd : u.length ≤ q → Lex.skipS false (u.drop q) = Lex.skipS false (u.drop i) ∧ j < q := fun hq => by
                  rcases hX with ⟨rfl, _, _⟩ | ⟨hlt2, hX⟩
                  · omega
                  · rw [Lex.skip_end hq] at hX ⊢; exact ⟨hX, hlt2⟩
                repeat (first | apply RunP.seq | apply RunP.region | apply RunP.condT rfl | apply RunP.condF rfl | apply RunP.skip | apply RunP.block | apply RunP.exit | apply RunP.ret)
                apply RunP.drawn
                · decide +kernel
                refine bindK_of (load_at (E := envQ) (t := 3) (n := 2) hsc rfl) ?_
                refine drawR (by decide +kernel) (by decide +kernel) ?_
                refine bindK_of (load_at (E := envQ) (t := 9) (n := 2) hsc rfl) ?_
                refine drawR (by decide +kernel) (by decide +kernel) ?_
                refine And.intro (fun hq => ?_) (fun hq => ?_)
                · have hq' : q < u.length := by omega
                  obtain ⟨d, hd⟩ : ∃ d, u[q]? = some d := ⟨_, List.getElem?_eq_getElem hq'⟩
                  refine bindK_of (load_at (E := envQ) (t := 9) (n := 2) hsc rfl) ?_
                  refine drawR (by decide +kernel) (by decide +kernel) ?_
                  refine bindK_of (load_at (E := envQ) (t := 3) (n := 2) hsc rfl) ?_
                  refine drawR (by decide +kernel) (by decide +kernel) ?_
                  refine And.intro (by omega) (Exists.intro d (And.intro hd ?_))
                  refine And.intro (fun h10b => ?_) (fun h10b => ?_)
                  · have e : d = 10 := UInt8.toNat_inj.1 (show d.toNat = 10 by omega)
                    subst e
                    have hfin : Lex.skipS false (u.drop q) = Lex.skipS false (u.drop i) ∧ j < q := by
                      rcases hX with ⟨rfl, h1, _⟩ | ⟨hlt2, hX⟩
                      · rw [hd] at h1; cases h1
                      · rw [Lex.skip_lf hd] at hX; exact ⟨hX, hlt2⟩
                    repeat (first | apply RunP.seq | apply RunP.region | apply RunP.condT rfl | apply RunP.condF rfl | apply RunP.skip | apply RunP.block | apply RunP.exit | apply RunP.ret)
                    exact ⟨u.length - q, by omega, q, ⟨by omega, by omega, hg, hfin.1⟩, rfl, rfl, rfl⟩
                  · have e : d ≠ 10 := fun w => h10b (by rw [w]; rfl)
                    repeat (first | apply RunP.seq | apply RunP.region | apply RunP.condT rfl | apply RunP.condF rfl | apply RunP.skip | apply RunP.block | apply RunP.exit | apply RunP.ret)
                    refine bindK_of (load_at (E := envQ) (t := 3) (n := 2) hsc rfl) ?_
                    refine bindK_of (store_at (E := envQ) (t := 3) (n := 2) hsc rfl rfl rfl rfl (by decide)) ?_
                    repeat (first | apply RunP.seq | apply RunP.region | apply RunP.condT rfl | apply RunP.condF rfl | apply RunP.skip | apply RunP.block | apply RunP.exit | apply RunP.ret)
                    refine ⟨m - 1, by omega, q + 1, ⟨by omega, by omega, by omega, hj, sc_up hg (wrap1 (by omega)), .inr ⟨by omega, ?_⟩⟩, rfl, rfl, rfl⟩
                    rcases hX with ⟨rfl, h1, hX⟩ | ⟨hlt2, hX⟩
                    · rw [← Lex.skip_hash h1]; exact hX
                    · rw [← Lex.skip_com hd e]; exact hX
                · obtain ⟨hf1, hf2⟩ := atEnd (by omega)
                  repeat (first | apply RunP.seq | apply RunP.region | apply RunP.condT rfl | apply RunP.condF rfl | apply RunP.skip | apply RunP.block | apply RunP.exit | apply RunP.ret)
                  exact ⟨u.length - q, by omega, q, ⟨by omega, by omega, hg, hf1⟩, rfl, rfl, rfl⟩
              · have e35 : c ≠ 35 := fun w => h35 (by rw [w]; rfl)
                rw [Lex.skip_stop hc hb e35] at hS
                repeat (first | apply RunP.seq | apply RunP.region | apply RunP.condT rfl | apply RunP.condF rfl | apply RunP.skip | apply RunP.block | apply RunP.exit | apply RunP.ret)
                exact ⟨rfl, rfl, by rw [hg, Lex.skipN_of (by omega) hS.symm]⟩
    · have hj : j = u.length := by omega
      rw [Lex.skip_end (by omega)] at hS
      repeat (first | apply RunP.seq | apply RunP.region | apply RunP.condT rfl | apply RunP.condF rfl | apply RunP.skip | apply RunP.block | apply RunP.exit | apply RunP.ret)
      exact ⟨rfl, rfl, by rw [hg, Lex.skipN_of (by omega) hS.symm]⟩
  obtain ⟨v, g, hv, rfl, rfl⟩ := key
  exact hv
end Go.Proofs.YtkjhnpmgieplgaaGreatDoor

/- The program's scanner: runs, names, numerals, signs. -/

namespace Go.Proofs.YtkjhnpmgieplgaaGreatDoor
open Go.Sb
set_option maxRecDepth 100000
def prI (h0 : Heap) (b : Nat) (u : Bs) (i : Nat) (g : FuncId) (p : UInt8 → Bool) (k : Nat) (s : List V) (h : Heap) : Prop :=
  ∃ (j : Nat) (z : Int), (j + k = u.length ∧ z = j ∧ i ≤ j ∧ h = h0 ∧ Lex.runE p u j = Lex.runE p u i) ∧ s.length = 40 ∧ s.getD 0 und = und ∧ s.getD 1 und = .ptr b 0 2 ∧ s.getD 2 und = .fn (.func g) [] ∧ s.getD 6 und = .int .i64 z
theorem prI_lit {h0 : Heap} {b : Nat} {u : Bs} {i : Nat} {g : FuncId} {p : UInt8 → Bool} {k : Nat} {s : List V} {h : Heap} (hI : prI h0 b u i g p k s h) : ∃ (j : Nat) (z : Int) (x : Nat → V), (j + k = u.length ∧ z = j ∧ i ≤ j ∧ h = h0 ∧ Lex.runE p u j = Lex.runE p u i) ∧
    s = [und, .ptr b 0 2, .fn (.func g) [], x 3, x 4, x 5, .int .i64 z, x 7, x 8, x 9, x 10, x 11, x 12, x 13, x 14, x 15, x 16, x 17, x 18, x 19, x 20, x 21, x 22, x 23, x 24, x 25, x 26, x 27, x 28, x 29, x 30, x 31, x 32, x 33, x 34, x 35, x 36, x 37, x 38, x 39] := by
  obtain ⟨j, z, hF, hl, e0, e1, e2, e6⟩ := hI
  refine ⟨j, z, fun n => s.getD n und, hF, (lit_of hl).trans ?_⟩
  show [s.getD 0 und, s.getD 1 und, s.getD 2 und, s.getD 3 und, s.getD 4 und, s.getD 5 und, s.getD 6 und, s.getD 7 und, s.getD 8 und, s.getD 9 und, s.getD 10 und, s.getD 11 und, s.getD 12 und, s.getD 13 und, s.getD 14 und, s.getD 15 und, s.getD 16 und, s.getD 17 und, s.getD 18 und, s.getD 19 und, s.getD 20 und, s.getD 21 und, s.getD 22 und, s.getD 23 und, s.getD 24 und, s.getD 25 und, s.getD 26 und, s.getD 27 und, s.getD 28 und, s.getD 29 und, s.getD 30 und, s.getD 31 und, s.getD 32 und, s.getD 33 und, s.getD 34 und, s.getD 35 und, s.getD 36 und, s.getD 37 und, s.getD 38 und, s.getD 39 und] = _
  rw [e0, e1, e2, e6]

theorem nameB_has (h : Heap) (c : UInt8) : Has envQ .shared 158 [.int .u8 c.toNat] h (.val (.bool (Lex.runB true c)) h) := by
  have key : ∃ v g, Has envQ .shared 158 [.int .u8 c.toNat] h (.val v g) ∧ v = .bool (Lex.runB true c) ∧ g = h := by
    refine HasP.sharedE (d := fn158) rfl (of_decide_eq_true rfl) ?_
    have h1 := fun g => isLetter_has g c
    have h2 := fun g => isDigit_has g c
    repeat (first | apply RunP.seq | apply RunP.region | apply RunP.condT rfl | apply RunP.condF rfl | apply RunP.skip | apply RunP.block | apply RunP.exit | apply RunP.ret)
    cases hL : Lex.letter c
    · simp only [hL] at h1
      refine CallK.of (h1 _) ?_
      refine CallK.of (h2 _) ?_
      repeat (first | apply RunP.seq | apply RunP.region | apply RunP.condT rfl | apply RunP.condF rfl | apply RunP.skip | apply RunP.block | apply RunP.exit | apply RunP.ret)
      exact ⟨rfl, by simp only [Lex.runB, hL]; simp; rfl, rfl⟩
    · simp only [hL] at h1
      refine CallK.of (h1 _) ?_
      repeat (first | apply RunP.seq | apply RunP.region | apply RunP.condT rfl | apply RunP.condF rfl | apply RunP.skip | apply RunP.block | apply RunP.exit | apply RunP.ret)
      exact ⟨rfl, by simp only [Lex.runB, hL]; simp; rfl, rfl⟩
  obtain ⟨v, g, hv, rfl, rfl⟩ := key
  exact hv
theorem digitB_has (h : Heap) (c : UInt8) : Has envQ .own 115 [.int .u8 c.toNat] h (.val (.bool (Lex.runB false c)) h) := by rw [Lex.runB_false]; exact isDigit_has h c

theorem runName_has (h : Heap) (b : Nat) (u : List UInt8) (i : Nat) (hu : u.length ≤ 2 ^ 40) (hi : i ≤ u.length) (hb : h[b]? = some (sc u i)) : Has envQ .shared 157 [.ptr b 0 2, .fn (.func 158) []] h (.val (.str ((u.take (Lex.runE (Lex.runB true) u i)).drop i)) h) := by
  have key : ∃ v g, Has envQ .shared 157 [.ptr b 0 2, .fn (.func 158) []] h (.val v g) ∧ v = .str ((u.take (Lex.runE (Lex.runB true) u i)).drop i) ∧ g = h := by
    refine HasP.sharedE (d := fn157) rfl (of_decide_eq_true rfl) ?_
    have hsc := hb
    repeat (first | apply RunP.seq | apply RunP.region | apply RunP.condT rfl | apply RunP.condF rfl | apply RunP.skip | apply RunP.block | apply RunP.exit | apply RunP.ret)
    refine bindK_of (load_at (E := envQ) (t := 3) (n := 2) hsc rfl) ?_
    repeat (first | apply RunP.seq | apply RunP.region | apply RunP.condT rfl | apply RunP.condF rfl | apply RunP.skip | apply RunP.block | apply RunP.exit | apply RunP.ret)
    refine RunP.loop (prI h b u i 158 (Lex.runB true)) ?_ (u.length - i) ⟨i, _, ⟨by omega, rfl, by omega, rfl, rfl⟩, rfl, rfl, rfl, rfl, rfl⟩
    intro k st g hI
    obtain ⟨j, z, x, ⟨hjk, hz, hij, rfl, hS⟩, rfl⟩ := prI_lit hI
    clear hI
    subst hz
    repeat (first | apply RunP.seq | apply RunP.region | apply RunP.condT rfl | apply RunP.condF rfl | apply RunP.skip | apply RunP.block | apply RunP.exit | apply RunP.ret)
    refine bindK_of (load_at (E := envQ) (t := 9) (n := 2) hsc rfl) ?_
    refine And.intro (fun hlt => ?_) (fun hge => ?_)
    · have hj : j < u.length := by omega
      obtain ⟨c, hc⟩ : ∃ c, u[j]? = some c := ⟨_, List.getElem?_eq_getElem hj⟩
      refine bindK_of (load_at (E := envQ) (t := 9) (n := 2) hsc rfl) ?_
      refine And.intro (by omega) (Exists.intro c (And.intro hc ?_))
      have hpc := fun g => nameB_has g c
      cases hv : (Lex.runB true) c
      · simp only [hv] at hpc
        refine CallK.of (hpc _) ?_
        rw [Lex.runE_stop hc hv] at hS
        repeat (first | apply RunP.seq | apply RunP.region | apply RunP.condT rfl | apply RunP.condF rfl | apply RunP.skip | apply RunP.block | apply RunP.exit | apply RunP.ret)
        apply RunP.drawn
        · decide +kernel
        refine bindK_of (load_at (E := envQ) (t := 9) (n := 2) hsc rfl) ?_
        refine drawR (by decide +kernel) (by decide +kernel) ?_
        refine bindK_of (load_at (E := envQ) (t := 3) (n := 2) hsc rfl) ?_
        refine drawR (by decide +kernel) (by decide +kernel) ?_
        refine And.intro (by omega) (And.intro (by omega) (And.intro ⟨by omega, by omega⟩ ?_))
        repeat (first | apply RunP.seq | apply RunP.region | apply RunP.condT rfl | apply RunP.condF rfl | apply RunP.skip | apply RunP.block | apply RunP.exit | apply RunP.ret)
        exact ⟨rfl, by rw [← hS]; rfl, rfl⟩
      · simp only [hv] at hpc
        refine CallK.of (hpc _) ?_
        repeat (first | apply RunP.seq | apply RunP.region | apply RunP.condT rfl | apply RunP.condF rfl | apply RunP.skip | apply RunP.block | apply RunP.exit | apply RunP.ret)
        exact ⟨k - 1, by omega, j + 1, _, ⟨by omega, wrap1 (by omega), by omega, rfl, by rw [Lex.runE_up hc hv]; exact hS⟩, rfl, rfl, rfl, rfl, rfl⟩
    · rw [Lex.runE_end (by omega)] at hS
      repeat (first | apply RunP.seq | apply RunP.region | apply RunP.condT rfl | apply RunP.condF rfl | apply RunP.skip | apply RunP.block | apply RunP.exit | apply RunP.ret)
      apply RunP.drawn
      · decide +kernel
      refine bindK_of (load_at (E := envQ) (t := 9) (n := 2) hsc rfl) ?_
      refine drawR (by decide +kernel) (by decide +kernel) ?_
      refine bindK_of (load_at (E := envQ) (t := 3) (n := 2) hsc rfl) ?_
      refine drawR (by decide +kernel) (by decide +kernel) ?_
      refine And.intro (by omega) (And.intro (by omega) (And.intro ⟨by omega, by omega⟩ ?_))
      repeat (first | apply RunP.seq | apply RunP.region | apply RunP.condT rfl | apply RunP.condF rfl | apply RunP.skip | apply RunP.block | apply RunP.exit | apply RunP.ret)
      exact ⟨rfl, by rw [← hS]; rfl, rfl⟩
  obtain ⟨v, g, hv, rfl, rfl⟩ := key
  exact hv

theorem runNum_has (h : Heap) (b : Nat) (u : List UInt8) (i : Nat) (hu : u.length ≤ 2 ^ 40) (hi : i ≤ u.length) (hb : h[b]? = some (sc u i)) : Has envQ .shared 157 [.ptr b 0 2, .fn (.func 115) []] h (.val (.str ((u.take (Lex.runE (Lex.runB false) u i)).drop i)) h) := by
  have key : ∃ v g, Has envQ .shared 157 [.ptr b 0 2, .fn (.func 115) []] h (.val v g) ∧ v = .str ((u.take (Lex.runE (Lex.runB false) u i)).drop i) ∧ g = h := by
    refine HasP.sharedE (d := fn157) rfl (of_decide_eq_true rfl) ?_
    have hsc := hb
    repeat (first | apply RunP.seq | apply RunP.region | apply RunP.condT rfl | apply RunP.condF rfl | apply RunP.skip | apply RunP.block | apply RunP.exit | apply RunP.ret)
    refine bindK_of (load_at (E := envQ) (t := 3) (n := 2) hsc rfl) ?_
    repeat (first | apply RunP.seq | apply RunP.region | apply RunP.condT rfl | apply RunP.condF rfl | apply RunP.skip | apply RunP.block | apply RunP.exit | apply RunP.ret)
    refine RunP.loop (prI h b u i 115 (Lex.runB false)) ?_ (u.length - i) ⟨i, _, ⟨by omega, rfl, by omega, rfl, rfl⟩, rfl, rfl, rfl, rfl, rfl⟩
    intro k st g hI
    obtain ⟨j, z, x, ⟨hjk, hz, hij, rfl, hS⟩, rfl⟩ := prI_lit hI
    clear hI
    subst hz
    repeat (first | apply RunP.seq | apply RunP.region | apply RunP.condT rfl | apply RunP.condF rfl | apply RunP.skip | apply RunP.block | apply RunP.exit | apply RunP.ret)
    refine bindK_of (load_at (E := envQ) (t := 9) (n := 2) hsc rfl) ?_
    refine And.intro (fun hlt => ?_) (fun hge => ?_)
    · have hj : j < u.length := by omega
      obtain ⟨c, hc⟩ : ∃ c, u[j]? = some c := ⟨_, List.getElem?_eq_getElem hj⟩
      refine bindK_of (load_at (E := envQ) (t := 9) (n := 2) hsc rfl) ?_
      refine And.intro (by omega) (Exists.intro c (And.intro hc ?_))
      have hpc := fun g => digitB_has g c
      cases hv : (Lex.runB false) c
      · simp only [hv] at hpc
        refine CallK.of (hpc _) ?_
        rw [Lex.runE_stop hc hv] at hS
        repeat (first | apply RunP.seq | apply RunP.region | apply RunP.condT rfl | apply RunP.condF rfl | apply RunP.skip | apply RunP.block | apply RunP.exit | apply RunP.ret)
        apply RunP.drawn
        · decide +kernel
        refine bindK_of (load_at (E := envQ) (t := 9) (n := 2) hsc rfl) ?_
        refine drawR (by decide +kernel) (by decide +kernel) ?_
        refine bindK_of (load_at (E := envQ) (t := 3) (n := 2) hsc rfl) ?_
        refine drawR (by decide +kernel) (by decide +kernel) ?_
        refine And.intro (by omega) (And.intro (by omega) (And.intro ⟨by omega, by omega⟩ ?_))
        repeat (first | apply RunP.seq | apply RunP.region | apply RunP.condT rfl | apply RunP.condF rfl | apply RunP.skip | apply RunP.block | apply RunP.exit | apply RunP.ret)
        exact ⟨rfl, by rw [← hS]; rfl, rfl⟩
      · simp only [hv] at hpc
        refine CallK.of (hpc _) ?_
        repeat (first | apply RunP.seq | apply RunP.region | apply RunP.condT rfl | apply RunP.condF rfl | apply RunP.skip | apply RunP.block | apply RunP.exit | apply RunP.ret)
        exact ⟨k - 1, by omega, j + 1, _, ⟨by omega, wrap1 (by omega), by omega, rfl, by rw [Lex.runE_up hc hv]; exact hS⟩, rfl, rfl, rfl, rfl, rfl⟩
    · rw [Lex.runE_end (by omega)] at hS
      repeat (first | apply RunP.seq | apply RunP.region | apply RunP.condT rfl | apply RunP.condF rfl | apply RunP.skip | apply RunP.block | apply RunP.exit | apply RunP.ret)
      apply RunP.drawn
      · decide +kernel
      refine bindK_of (load_at (E := envQ) (t := 9) (n := 2) hsc rfl) ?_
      refine drawR (by decide +kernel) (by decide +kernel) ?_
      refine bindK_of (load_at (E := envQ) (t := 3) (n := 2) hsc rfl) ?_
      refine drawR (by decide +kernel) (by decide +kernel) ?_
      refine And.intro (by omega) (And.intro (by omega) (And.intro ⟨by omega, by omega⟩ ?_))
      repeat (first | apply RunP.seq | apply RunP.region | apply RunP.condT rfl | apply RunP.condF rfl | apply RunP.skip | apply RunP.block | apply RunP.exit | apply RunP.ret)
      exact ⟨rfl, by rw [← hS]; rfl, rfl⟩
  obtain ⟨v, g, hv, rfl, rfl⟩ := key
  exact hv

/-- What a reader of a token answers. -/
def scanV : Option (Int × List UInt8 × Nat) → V
  | some p => .tup [.agg [.int .i64 p.1, .str p.2.1, .int .i64 0], .int .i64 p.2.2]
  | none => .tup [.agg [.int .i64 0, .str [], .int .i64 0], .int .i64 0]
theorem cut_len {u : List UInt8} {i : Nat} (p : UInt8 → Bool) (hi : i ≤ u.length) : ((u.take (Lex.runE p u i)).drop i).length = Lex.runE p u i - i := by
  have := Lex.runE_le (p := p) hi
  simp only [List.length_drop, List.length_take]; omega
theorem name_has (h : Heap) (b : Nat) (u : List UInt8) (i : Nat) (c : UInt8) (hu : u.length ≤ 2 ^ 40) (hc : u[i]? = some c) (hL : Lex.letter c = true) (hb : h[b]? = some (sc u i)) : ∃ v g, Has envQ .shared 114 [.ptr b 0 2] h (.val v g) ∧ v = scanV (Lex.tokL (u.drop i)) ∧ Keeps h g := by
  have hi := (List.getElem?_eq_some_iff.1 hc).1
  have hcl := cut_len (u := u) (i := i) (Lex.runB true) (by omega)
  refine HasP.sharedE (d := fn114) rfl (of_decide_eq_true rfl) ?_
  repeat (first | apply RunP.seq | apply RunP.region | apply RunP.condT rfl | apply RunP.condF rfl | apply RunP.skip | apply RunP.block | apply RunP.exit | apply RunP.ret)
  refine CallK.of (runName_has _ b u i (by omega) (by omega) (push_old hb)) ?_
  have hW := fun g => isWord_has g ((u.take (Lex.runE (Lex.runB true) u i)).drop i)
  have hN := fun g => isName_has g ((u.take (Lex.runE (Lex.runB true) u i)).drop i) (by have := Lex.runE_le (p := Lex.runB true) (u := u) (i := i) (by omega); omega)
  have t1 := fun hw => Lex.tok_word hc hL hw
  have t2 := fun hw hn => Lex.tok_name hc hL hw hn
  have t3 := fun hw hn => Lex.tok_noname hc hL hw hn
  rw [← hcl] at t1 t2
  generalize (u.take (Lex.runE (Lex.runB true) u i)).drop i = s at *
  repeat (first | apply RunP.seq | apply RunP.region | apply RunP.condT rfl | apply RunP.condF rfl | apply RunP.skip | apply RunP.block | apply RunP.exit | apply RunP.ret)
  cases hw : Lex.isWord s
  · simp only [hw] at hW
    refine CallK.of (hW _) ?_
    cases hn : Lex.isName s
    · simp only [hn] at hN
      repeat (first | apply RunP.seq | apply RunP.region | apply RunP.condT rfl | apply RunP.condF rfl | apply RunP.skip | apply RunP.block | apply RunP.exit | apply RunP.ret)
      refine CallK.of (hN _) ?_
      repeat (first | apply RunP.seq | apply RunP.region | apply RunP.condT rfl | apply RunP.condF rfl | apply RunP.skip | apply RunP.block | apply RunP.exit | apply RunP.ret)
      refine bindK_of (store_last (E := envQ) (t := 90) (n := 3) rfl rfl rfl rfl rfl) ?_
      repeat (first | apply RunP.seq | apply RunP.region | apply RunP.condT rfl | apply RunP.condF rfl | apply RunP.skip | apply RunP.block | apply RunP.exit | apply RunP.ret)
      refine ⟨rfl, bindK_of (res_ct ((load_last (E := envQ) (t := 90) (n := 3) rfl).trans rfl)) ⟨(by rw [t3 hw hn]; rfl), keeps_push _ _⟩⟩
    · simp only [hn] at hN
      repeat (first | apply RunP.seq | apply RunP.region | apply RunP.condT rfl | apply RunP.condF rfl | apply RunP.skip | apply RunP.block | apply RunP.exit | apply RunP.ret)
      refine CallK.of (hN _) ?_
      repeat (first | apply RunP.seq | apply RunP.region | apply RunP.condT rfl | apply RunP.condF rfl | apply RunP.skip | apply RunP.block | apply RunP.exit | apply RunP.ret)
      refine bindK_of (store_last (E := envQ) (t := 90) (n := 3) rfl rfl rfl rfl rfl) ?_
      repeat (first | apply RunP.seq | apply RunP.region | apply RunP.condT rfl | apply RunP.condF rfl | apply RunP.skip | apply RunP.block | apply RunP.exit | apply RunP.ret)
      refine ⟨rfl, bindK_of (res_ct ((load_last (E := envQ) (t := 90) (n := 3) rfl).trans rfl)) ⟨(by rw [t2 hw hn]; rfl), keeps_push _ _⟩⟩
  · simp only [hw] at hW
    refine CallK.of (hW _) ?_
    repeat (first | apply RunP.seq | apply RunP.region | apply RunP.condT rfl | apply RunP.condF rfl | apply RunP.skip | apply RunP.block | apply RunP.exit | apply RunP.ret)
    refine bindK_of (store_last (E := envQ) (t := 90) (n := 3) rfl rfl rfl rfl rfl) ?_
    repeat (first | apply RunP.seq | apply RunP.region | apply RunP.condT rfl | apply RunP.condF rfl | apply RunP.skip | apply RunP.block | apply RunP.exit | apply RunP.ret)
    refine ⟨rfl, bindK_of (res_ct ((load_last (E := envQ) (t := 90) (n := 3) rfl).trans rfl)) ⟨(by rw [t1 hw]; rfl), keeps_push _ _⟩⟩
theorem numeral_has (h : Heap) (b : Nat) (u : List UInt8) (i : Nat) (c : UInt8) (hu : u.length ≤ 2 ^ 40) (hc : u[i]? = some c) (hL : Lex.letter c = false) (hD : Lex.digit c = true) (hb : h[b]? = some (sc u i)) : ∃ v g, Has envQ .shared 116 [.ptr b 0 2] h (.val v g) ∧ v = scanV (Lex.tokL (u.drop i)) ∧ Keeps h g := by
  have hi := (List.getElem?_eq_some_iff.1 hc).1
  have hcl := cut_len (u := u) (i := i) (Lex.runB false) (by omega)
  refine HasP.sharedE (d := fn116) rfl (of_decide_eq_true rfl) ?_
  repeat (first | apply RunP.seq | apply RunP.region | apply RunP.condT rfl | apply RunP.condF rfl | apply RunP.skip | apply RunP.block | apply RunP.exit | apply RunP.ret)
  refine CallK.of (runNum_has _ b u i (by omega) (by omega) (push_old hb)) ?_
  have hN := fun g => isNumeral_has g ((u.take (Lex.runE (Lex.runB false) u i)).drop i) (by have := Lex.runE_le (p := Lex.runB false) (u := u) (i := i) (by omega); omega)
  have t2 := fun hn => Lex.tok_num hc hL hD hn
  have t3 := fun hn => Lex.tok_nonum hc hL hD hn
  rw [← hcl] at t2
  generalize (u.take (Lex.runE (Lex.runB false) u i)).drop i = s at *
  repeat (first | apply RunP.seq | apply RunP.region | apply RunP.condT rfl | apply RunP.condF rfl | apply RunP.skip | apply RunP.block | apply RunP.exit | apply RunP.ret)
  cases hn : Lex.isNumeral s
  · simp only [hn] at hN
    refine CallK.of (hN _) ?_
    repeat (first | apply RunP.seq | apply RunP.region | apply RunP.condT rfl | apply RunP.condF rfl | apply RunP.skip | apply RunP.block | apply RunP.exit | apply RunP.ret)
    refine bindK_of (store_last (E := envQ) (t := 90) (n := 3) rfl rfl rfl rfl rfl) ?_
    repeat (first | apply RunP.seq | apply RunP.region | apply RunP.condT rfl | apply RunP.condF rfl | apply RunP.skip | apply RunP.block | apply RunP.exit | apply RunP.ret)
    refine ⟨rfl, bindK_of (res_ct ((load_last (E := envQ) (t := 90) (n := 3) rfl).trans rfl)) ⟨(by rw [t3 hn]; rfl), keeps_push _ _⟩⟩
  · simp only [hn] at hN
    refine CallK.of (hN _) ?_
    repeat (first | apply RunP.seq | apply RunP.region | apply RunP.condT rfl | apply RunP.condF rfl | apply RunP.skip | apply RunP.block | apply RunP.exit | apply RunP.ret)
    refine bindK_of (store_last (E := envQ) (t := 90) (n := 3) rfl rfl rfl rfl rfl) ?_
    repeat (first | apply RunP.seq | apply RunP.region | apply RunP.condT rfl | apply RunP.condF rfl | apply RunP.skip | apply RunP.block | apply RunP.exit | apply RunP.ret)
    refine ⟨rfl, bindK_of (res_ct ((load_last (E := envQ) (t := 90) (n := 3) rfl).trans rfl)) ⟨(by rw [t2 hn]; rfl), keeps_push _ _⟩⟩
end Go.Proofs.YtkjhnpmgieplgaaGreatDoor
