/- Quotes: the program's and the reference's. -/
import Derived.Test.YtkjhnpmgieplgaaGreatDoorSbLex3
set_option linter.unusedVariables false
set_option linter.unusedSimpArgs false
namespace Go.Proofs.YtkjhnpmgieplgaaGreatDoor
open Go.Sb
set_option maxRecDepth 100000

theorem replace_told (h : Heap) (s o n : List UInt8) (h1 : s.length ≤ 1000000 ∧ 1 ≤ o.length ∧ o.length ≤ 1000 ∧ n.length ≤ 1000) : Has envQ .own 49 [.str s, .str o, .str n] h (.val (.str (Lib.replaceAll s o n)) h) :=
  Has.told (E := envQ) (a := [.str s, .str o, .str n]) (p := tellReplace) rfl rfl (by simp only [tellReplace]; rw [if_pos h1]) rfl
theorem esc_len (u : List UInt8) : (u.flatMap Lex.esc).length ≤ 2 * u.length := by
  induction u with
  | nil => simp
  | cons c u ih =>
    rw [List.flatMap_cons, List.length_append, List.length_cons]
    have : (Lex.esc c).length ≤ 2 := by unfold Lex.esc; split <;> simp
    omega
theorem rep_len (c : UInt8) (new u : List UInt8) (hn : new ≠ [c]) (h2 : 1 ≤ new.length ∧ new.length ≤ 2) : (Lib.replaceAll u [c] new).length ≤ 2 * u.length := by
  rw [Lex.replaceAll_one c new u hn]
  clear hn
  induction u with
  | nil => simp
  | cons d u ih =>
    rw [List.flatMap_cons, List.length_append, List.length_cons]
    have : (Lex.rep1 c new d).length ≤ 2 := by
      unfold Lex.rep1
      split
      · exact h2.2
      · simp
    omega
/-- What Quote answers: the quote and no error, or ErrArg. -/
def quoteV (u : List UInt8) : V := if Lex.isText u = true then .tup [.str (Lex.quote u), .int .i64 0] else .tup [.str [], .int .i64 2]
theorem Quote_has (h : Heap) (u : List UInt8) (hu : u.length ≤ 9223372036854775807) : Has envQ .own 44 [.str u] h (.val (quoteV u) h) := by
  refine HasP.own (a := [.str u]) (d := fn44) rfl rfl rfl (of_decide_eq_true rfl) ?_
  repeat (first | apply RunP.seq | apply RunP.region | apply RunP.condT rfl | apply RunP.condF rfl | apply RunP.skip | apply RunP.block | apply RunP.exit | apply RunP.ret)
  have ht := isText_has [] u hu
  cases hT : Lex.isText u
  · rw [hT] at ht
    refine CallK.of ht ?_
    repeat (first | apply RunP.seq | apply RunP.region | apply RunP.condT rfl | apply RunP.condF rfl | apply RunP.skip | apply RunP.block | apply RunP.exit | apply RunP.ret)
    exact ⟨rfl, by unfold quoteV; rw [hT]; rfl, rfl⟩
  · rw [hT] at ht
    have hlen : u.length ≤ 60 := by unfold Lex.isText at hT; simp at hT; exact hT.2
    refine CallK.of ht ?_
    repeat (first | apply RunP.seq | apply RunP.region | apply RunP.condT rfl | apply RunP.condF rfl | apply RunP.skip | apply RunP.block | apply RunP.exit | apply RunP.ret)
    have h1 := rep_len 92 [92, 92] u (by decide) (by decide)
    refine CallK.of (replace_told _ u [92] [92, 92] ⟨by omega, by decide, by decide, by decide⟩) ?_
    refine CallK.of (replace_told _ _ [34] [92, 34] ⟨by omega, by decide, by decide, by decide⟩) ?_
    have h2 := rep_len 34 [92, 34] (Lib.replaceAll u [92] [92, 92]) (by decide) (by decide)
    have hq := Lex.quote_two u
    rw [hq] at h2 ⊢
    refine And.intro (by simp only [List.length_cons, List.length_append, List.length_nil]; omega) ?_
    refine And.intro (by simp only [List.length_cons, List.length_append, List.length_nil]; omega) ?_
    repeat (first | apply RunP.seq | apply RunP.region | apply RunP.condT rfl | apply RunP.condF rfl | apply RunP.skip | apply RunP.block | apply RunP.exit | apply RunP.ret)
    exact ⟨rfl, by unfold quoteV; rw [hT]; rfl, rfl⟩
def rqI (u : Bs) (k : Nat) (s : List V) (h : Heap) : Prop :=
  ∃ (i : Nat) (z : Int) (w : V), (i + k = u.length ∧ z = i ∧ InRow h 5 1 w (bv (34 :: (u.take i).flatMap Lex.esc))) ∧ s.length = 36 ∧ s.getD 0 und = und ∧ s.getD 1 und = .str u ∧ s.getD 4 und = w ∧ s.getD 5 und = .int .i64 z
theorem rqI_lit {u : Bs} {k : Nat} {s : List V} {h : Heap} (hI : rqI u k s h) : ∃ (i : Nat) (z : Int) (w : V) (x : Nat → V), (i + k = u.length ∧ z = i ∧ InRow h 5 1 w (bv (34 :: (u.take i).flatMap Lex.esc))) ∧
    s = [und, .str u, x 2, x 3, w, .int .i64 z, x 6, x 7, x 8, x 9, x 10, x 11, x 12, x 13, x 14, x 15, x 16, x 17, x 18, x 19, x 20, x 21, x 22, x 23, x 24, x 25, x 26, x 27, x 28, x 29, x 30, x 31, x 32, x 33, x 34, x 35] := by
  obtain ⟨i, z, w, hF, hl, e0, e1, e4, e5⟩ := hI
  refine ⟨i, z, w, fun n => s.getD n und, hF, (lit_of hl).trans ?_⟩
  show [s.getD 0 und, s.getD 1 und, s.getD 2 und, s.getD 3 und, s.getD 4 und, s.getD 5 und, s.getD 6 und, s.getD 7 und, s.getD 8 und, s.getD 9 und, s.getD 10 und, s.getD 11 und, s.getD 12 und, s.getD 13 und, s.getD 14 und, s.getD 15 und, s.getD 16 und, s.getD 17 und, s.getD 18 und, s.getD 19 und, s.getD 20 und, s.getD 21 und, s.getD 22 und, s.getD 23 und, s.getD 24 und, s.getD 25 und, s.getD 26 und, s.getD 27 und, s.getD 28 und, s.getD 29 und, s.getD 30 und, s.getD 31 und, s.getD 32 und, s.getD 33 und, s.getD 34 und, s.getD 35 und] = _
  rw [e0, e1, e4, e5]

theorem esc_up {u : List UInt8} {i : Nat} {c : UInt8} (hc : u[i]? = some c) : (u.take (i + 1)).flatMap Lex.esc = (u.take i).flatMap Lex.esc ++ Lex.esc c := by
  rw [List.take_add_one, hc, List.flatMap_append]; simp
theorem refQuote_has (h : Heap) (u : List UInt8) (hu : u.length ≤ 2 ^ 30) : Has envQ .own 47 [.str u] h (.val (.str (Lex.quote u)) h) := by
  refine HasP.own (a := [.str u]) (d := fn47) rfl rfl rfl (of_decide_eq_true rfl) ?_
  repeat (first | apply RunP.seq | apply RunP.region | apply RunP.condT rfl | apply RunP.condF rfl | apply RunP.skip | apply RunP.block | apply RunP.exit | apply RunP.ret)
  refine RunP.loop (rqI u) ?_ u.length ⟨0, _, _, ⟨by omega, rfl, .inr ⟨0, rfl, rfl, by simp [bv]⟩⟩, rfl, rfl, rfl, rfl, rfl⟩
  intro k st g hI
  obtain ⟨i, z, w, x, ⟨hik, hz, hrow⟩, rfl⟩ := rqI_lit hI
  clear hI
  subst hz
  have hel := esc_len (u.take i)
  have htl : (u.take i).length ≤ u.length := by rw [List.length_take]; omega
  repeat (first | apply RunP.seq | apply RunP.region | apply RunP.condT rfl | apply RunP.condF rfl | apply RunP.skip | apply RunP.block | apply RunP.exit | apply RunP.ret)
  refine And.intro (fun hlt => ?_) (fun hge => ?_)
  · have hi : i < u.length := by omega
    obtain ⟨c, hc⟩ : ∃ c, u[i]? = some c := ⟨_, List.getElem?_eq_getElem hi⟩
    have hcl : c.toNat < 256 := c.toNat_lt
    repeat (first | apply RunP.seq | apply RunP.region | apply RunP.condT rfl | apply RunP.condF rfl | apply RunP.skip | apply RunP.block | apply RunP.exit | apply RunP.ret)
    refine And.intro (by omega) (Exists.intro c (And.intro hc ?_))
    have plain : Lex.esc c = [c] → ∀ (g' : Heap) (w' : V), InRow g' 5 1 w' (bv (34 :: (u.take i).flatMap Lex.esc ++ [c])) → InRow g' 5 1 w' (bv (34 :: (u.take (i + 1)).flatMap Lex.esc)) := fun he g' w' hr => by
      rw [esc_up hc, he]; exact hr
    have two : Lex.esc c = [92, c] → ∀ (g' : Heap) (w' : V), InRow g' 5 1 w' (bv ((34 :: (u.take i).flatMap Lex.esc ++ [92]) ++ [c])) → InRow g' 5 1 w' (bv (34 :: (u.take (i + 1)).flatMap Lex.esc)) := fun he g' w' hr => by
      rw [esc_up hc, he]; simpa using hr
    refine And.intro (fun h1 => ?_) (fun h1 => ?_)
    · repeat (first | apply RunP.seq | apply RunP.region | apply RunP.condT rfl | apply RunP.condF rfl | apply RunP.skip | apply RunP.block | apply RunP.exit | apply RunP.ret)
      refine app_byteK (E := envQ) (T := 5) (t := 107) rfl rfl rfl rfl rfl hrow 92 (by simp only [List.length_cons, List.length_append, List.length_nil]; omega) ?_
      intro w1 g1 hr1 _ _
      repeat (first | apply RunP.seq | apply RunP.region | apply RunP.condT rfl | apply RunP.condF rfl | apply RunP.skip | apply RunP.block | apply RunP.exit | apply RunP.ret)
      refine And.intro (by omega) (Exists.intro c (And.intro hc ?_))
      refine app_byteK (E := envQ) (T := 5) (t := 107) rfl rfl rfl rfl rfl hr1 c (by simp only [List.length_cons, List.length_append, List.length_nil]; omega) ?_
      intro w2 g2 hr2 _ _
      repeat (first | apply RunP.seq | apply RunP.region | apply RunP.condT rfl | apply RunP.condF rfl | apply RunP.skip | apply RunP.block | apply RunP.exit | apply RunP.ret)
      exact ⟨k - 1, by omega, i + 1, _, _, ⟨by omega, wrap1 (by omega), two (by unfold Lex.esc; rw [if_pos (.inl (UInt8.toNat_inj.1 (show c.toNat = 34 by omega)))]) _ _ hr2⟩, rfl, rfl, rfl, rfl, rfl⟩
    · repeat (first | apply RunP.seq | apply RunP.region | apply RunP.condT rfl | apply RunP.condF rfl | apply RunP.skip | apply RunP.block | apply RunP.exit | apply RunP.ret)
      refine And.intro (by omega) (Exists.intro c (And.intro hc ?_))
      refine And.intro (fun h2 => ?_) (fun h2 => ?_)
      · repeat (first | apply RunP.seq | apply RunP.region | apply RunP.condT rfl | apply RunP.condF rfl | apply RunP.skip | apply RunP.block | apply RunP.exit | apply RunP.ret)
        refine app_byteK (E := envQ) (T := 5) (t := 107) rfl rfl rfl rfl rfl hrow 92 (by simp only [List.length_cons, List.length_append, List.length_nil]; omega) ?_
        intro w1 g1 hr1 _ _
        repeat (first | apply RunP.seq | apply RunP.region | apply RunP.condT rfl | apply RunP.condF rfl | apply RunP.skip | apply RunP.block | apply RunP.exit | apply RunP.ret)
        refine And.intro (by omega) (Exists.intro c (And.intro hc ?_))
        refine app_byteK (E := envQ) (T := 5) (t := 107) rfl rfl rfl rfl rfl hr1 c (by simp only [List.length_cons, List.length_append, List.length_nil]; omega) ?_
        intro w2 g2 hr2 _ _
        repeat (first | apply RunP.seq | apply RunP.region | apply RunP.condT rfl | apply RunP.condF rfl | apply RunP.skip | apply RunP.block | apply RunP.exit | apply RunP.ret)
        exact ⟨k - 1, by omega, i + 1, _, _, ⟨by omega, wrap1 (by omega), two (by unfold Lex.esc; rw [if_pos (.inr (UInt8.toNat_inj.1 (show c.toNat = 92 by omega)))]) _ _ hr2⟩, rfl, rfl, rfl, rfl, rfl⟩
      · repeat (first | apply RunP.seq | apply RunP.region | apply RunP.condT rfl | apply RunP.condF rfl | apply RunP.skip | apply RunP.block | apply RunP.exit | apply RunP.ret)
        refine And.intro (by omega) (Exists.intro c (And.intro hc ?_))
        refine app_byteK (E := envQ) (T := 5) (t := 107) rfl rfl rfl rfl rfl hrow c (by simp only [List.length_cons, List.length_append, List.length_nil]; omega) ?_
        intro w2 g2 hr2 _ _
        repeat (first | apply RunP.seq | apply RunP.region | apply RunP.condT rfl | apply RunP.condF rfl | apply RunP.skip | apply RunP.block | apply RunP.exit | apply RunP.ret)
        refine ⟨k - 1, by omega, i + 1, _, _, ⟨by omega, wrap1 (by omega), plain ?_ _ _ hr2⟩, rfl, rfl, rfl, rfl, rfl⟩
        unfold Lex.esc
        rw [if_neg]
        rintro (rfl | rfl)
        · exact h1 rfl
        · exact h2 rfl
  · have hi : i = u.length := by omega
    rw [hi, List.take_length] at hrow
    rw [hi, List.take_length] at hel
    repeat (first | apply RunP.seq | apply RunP.region | apply RunP.condT rfl | apply RunP.condF rfl | apply RunP.skip | apply RunP.block | apply RunP.exit | apply RunP.ret)
    refine app_byteK (E := envQ) (T := 5) (t := 107) rfl rfl rfl rfl rfl hrow 34 (by simp only [List.length_cons, List.length_append, List.length_nil]; omega) ?_
    intro w1 g1 hr1 _ _
    refine conv_bytesK (E := envQ) (T := 5) (t := 107) (st := 9) rfl rfl rfl rfl rfl rfl rfl hr1 ?_
    repeat (first | apply RunP.seq | apply RunP.region | apply RunP.condT rfl | apply RunP.condF rfl | apply RunP.skip | apply RunP.block | apply RunP.exit | apply RunP.ret)
    exact ⟨rfl, rfl, rfl⟩
end Go.Proofs.YtkjhnpmgieplgaaGreatDoor
