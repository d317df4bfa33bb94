/- The law LexisNames. -/
import Derived.Test.YtmpgphjbeoboaaaDoorSbLexisQuotes
set_option linter.unusedVariables false
set_option linter.unusedSimpArgs false
namespace Go.Proofs.YtmpgphjbeoboaaaDoor
open Go.Sb
set_option maxRecDepth 100000
def lnI (u : Bs) (k : Nat) (s : List V) (h : Heap) : Prop :=
  ∃ (i : Nat) (z : Int), (i + k = Lex.words.length ∧ z = i) ∧ s.length = 65 ∧ s.getD 0 und = und ∧ s.getD 1 und = .str u ∧ s.getD 3 und = .bool false ∧ s.getD 4 und = .lst 1 (Lex.words.map V.str) ∧ s.getD 5 und = .lst 1 (Lex.words.map V.str) ∧ s.getD 6 und = .int .i64 z
theorem lnI_lit {u : Bs} {k : Nat} {s : List V} {h : Heap} (hI : lnI u k s h) : ∃ (i : Nat) (z : Int) (x : Nat → V), (i + k = Lex.words.length ∧ z = i) ∧
    s = [und, .str u, x 2, .bool false, .lst 1 (Lex.words.map V.str), .lst 1 (Lex.words.map V.str), .int .i64 z, x 7, x 8, x 9, x 10, x 11, x 12, x 13, x 14, x 15, x 16, x 17, x 18, x 19, x 20, x 21, x 22, x 23, x 24, x 25, x 26, x 27, x 28, x 29, x 30, x 31, x 32, x 33, x 34, x 35, x 36, x 37, x 38, x 39, x 40, x 41, x 42, x 43, x 44, x 45, x 46, x 47, x 48, x 49, x 50, x 51, x 52, x 53, x 54, x 55, x 56, x 57, x 58, x 59, x 60, x 61, x 62, x 63, x 64] := by
  obtain ⟨i, z, hF, hl, e0, e1, e3, e4, e5, e6⟩ := hI
  refine ⟨i, z, fun n => s.getD n und, hF, (lit_of hl).trans ?_⟩
  show [s.getD 0 und, s.getD 1 und, s.getD 2 und, s.getD 3 und, s.getD 4 und, s.getD 5 und, s.getD 6 und, s.getD 7 und, s.getD 8 und, s.getD 9 und, s.getD 10 und, s.getD 11 und, s.getD 12 und, s.getD 13 und, s.getD 14 und, s.getD 15 und, s.getD 16 und, s.getD 17 und, s.getD 18 und, s.getD 19 und, s.getD 20 und, s.getD 21 und, s.getD 22 und, s.getD 23 und, s.getD 24 und, s.getD 25 und, s.getD 26 und, s.getD 27 und, s.getD 28 und, s.getD 29 und, s.getD 30 und, s.getD 31 und, s.getD 32 und, s.getD 33 und, s.getD 34 und, s.getD 35 und, s.getD 36 und, s.getD 37 und, s.getD 38 und, s.getD 39 und, s.getD 40 und, s.getD 41 und, s.getD 42 und, s.getD 43 und, s.getD 44 und, s.getD 45 und, s.getD 46 und, s.getD 47 und, s.getD 48 und, s.getD 49 und, s.getD 50 und, s.getD 51 und, s.getD 52 und, s.getD 53 und, s.getD 54 und, s.getD 55 und, s.getD 56 und, s.getD 57 und, s.getD 58 und, s.getD 59 und, s.getD 60 und, s.getD 61 und, s.getD 62 und, s.getD 63 und, s.getD 64 und] = _
  rw [e0, e1, e3, e4, e5, e6]

theorem words_len : ∀ w ∈ Lex.words, w.length ≤ 2 ^ 50 := by decide +kernel
theorem lexisNames_has (s : List UInt8) : Has envQ .own 8 [.str s] [] (.val (.bool true) []) := by
  refine HasP.own (a := [.str s]) (d := fn8) rfl rfl rfl (of_decide_eq_true rfl) ?_
  repeat (first | apply RunP.seq | apply RunP.region | apply RunP.condT rfl | apply RunP.condF rfl | apply RunP.skip | apply RunP.block | apply RunP.exit | apply RunP.ret)
  refine CallK.of (Words_has _) ?_
  repeat (first | apply RunP.seq | apply RunP.region | apply RunP.condT rfl | apply RunP.condF rfl | apply RunP.skip | apply RunP.block | apply RunP.exit | apply RunP.ret)
  refine CallK.of (refWords_has _) ?_
  repeat (first | apply RunP.seq | apply RunP.region | apply RunP.condT rfl | apply RunP.condF rfl | apply RunP.skip | apply RunP.block | apply RunP.exit | apply RunP.ret)
  refine And.intro (fun _ => ?_) (fun h => absurd rfl h)
  repeat (first | apply RunP.seq | apply RunP.region | apply RunP.condT rfl | apply RunP.condF rfl | apply RunP.skip | apply RunP.block | apply RunP.exit | apply RunP.ret)
  refine RunP.loop (lnI s) ?_ Lex.words.length ⟨0, _, ⟨by omega, rfl⟩, rfl, rfl, rfl, rfl, rfl, rfl, rfl⟩
  intro k st g hI
  obtain ⟨i, z, x, ⟨hik, hz⟩, rfl⟩ := lnI_lit hI
  clear hI
  subst hz
  repeat (first | apply RunP.seq | apply RunP.region | apply RunP.condT rfl | apply RunP.condF rfl | apply RunP.skip | apply RunP.block | apply RunP.exit | apply RunP.ret)
  refine And.intro (fun hlt => ?_) (fun hge => ?_)
  · have hi : i < Lex.words.length := by simpa using hlt
    obtain ⟨w, hw⟩ : ∃ w, Lex.words[i]? = some w := ⟨_, List.getElem?_eq_getElem hi⟩
    have hm := List.mem_of_getElem? hw
    have hlen : Lex.words.length = 46 := rfl
    obtain ⟨n1, n2⟩ := Lex.words_name w hm
    have q1 := isWord_has g w
    have q2 := isName_has g w (words_len w hm)
    rw [n1] at q1
    rw [n2] at q2
    have hV : (Lex.words.map V.str)[i]? = some (V.str w) := by rw [List.getElem?_map]; simp [hw]
    repeat (first | apply RunP.seq | apply RunP.region | apply RunP.condT rfl | apply RunP.condF rfl | apply RunP.skip | apply RunP.block | apply RunP.exit | apply RunP.ret)
    apply RunP.drawn
    · decide +kernel
    refine And.intro (by omega) (And.intro rfl (Exists.intro (V.str w) (And.intro hV ?_)))
    refine And.intro (by omega) (And.intro rfl (Exists.intro (V.str w) (And.intro hV ?_)))
    refine And.intro (fun _ => ?_) (fun h => absurd rfl h)
    refine And.intro (by omega) (And.intro rfl (Exists.intro (V.str w) (And.intro hV ?_)))
    refine CallK.of q1 ?_
    refine And.intro (by omega) (And.intro rfl (Exists.intro (V.str w) (And.intro hV ?_)))
    refine CallK.of q2 ?_
    repeat (first | apply RunP.seq | apply RunP.region | apply RunP.condT rfl | apply RunP.condF rfl | apply RunP.skip | apply RunP.block | apply RunP.exit | apply RunP.ret)
    exact ⟨k - 1, by omega, i + 1, _, ⟨by omega, wrap1 (by omega)⟩, rfl, rfl, rfl, rfl, rfl, rfl, rfl⟩
  · repeat (first | apply RunP.seq | apply RunP.region | apply RunP.condT rfl | apply RunP.condF rfl | apply RunP.skip | apply RunP.block | apply RunP.exit | apply RunP.ret)
    apply And.intro
    · split <;> omega
    apply And.intro
    · split <;> omega
    have hx := brief_len 100 s
    generalize List.drop 0 (List.take (if (100 : Int) < (s.length : Int) then (100 : Int) else (s.length : Int)).toNat s) = u at hx ⊢
    repeat (first | apply RunP.seq | apply RunP.region | apply RunP.condT rfl | apply RunP.condF rfl | apply RunP.skip | apply RunP.block | apply RunP.exit | apply RunP.ret)
    have m1 := isName_has g u (by omega)
    have m2 := refIsName_has g u (by omega)
    have m3 := isWord_has g u
    have m4 := refIsWord_has g u
    have eqb : ∀ b : Bool, (b == b) = true := fun b => by cases b <;> rfl
    cases hN : Lex.isName u <;> cases hW : Lex.isWord u <;> rw [hN] at m1 m2 <;> rw [hW] at m3 m4
    all_goals
      refine CallK.of m1 ?_
      refine CallK.of m2 ?_
      refine CallK.of m3 ?_
      refine CallK.of m4 ?_
      refine CallK.of (awake_told _) ?_
      repeat (first | apply RunP.seq | apply RunP.region | apply RunP.condT rfl | apply RunP.condF rfl | apply RunP.skip | apply RunP.block | apply RunP.exit | apply RunP.ret)
      exact ⟨rfl, rfl, rfl⟩
end Go.Proofs.YtmpgphjbeoboaaaDoor
