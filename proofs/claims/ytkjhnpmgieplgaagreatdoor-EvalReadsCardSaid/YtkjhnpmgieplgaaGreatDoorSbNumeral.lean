/- Numerals and signs: the program's and the reference's. -/
import Derived.Test.YtkjhnpmgieplgaaGreatDoorSbLexisQuotes
import Derived.Test.YtkjhnpmgieplgaaGreatDoorSbLexT6
set_option linter.unusedVariables false
set_option linter.unusedSimpArgs false
namespace Go.Proofs.YtkjhnpmgieplgaaGreatDoor
open Go.Sb
set_option maxRecDepth 100000

theorem itoa_told (h : Heap) (n : Int) (h1 : -9223372036854775808 ≤ n ∧ n ≤ 9223372036854775807) : Has envQ .own 42 [.int .i64 n] h (.val (.str (Lib.itoa n)) h) :=
  Has.told (E := envQ) (a := [.int .i64 n]) (p := tellItoa) rfl rfl (by simp only [tellItoa]; rw [if_pos h1]) rfl
theorem atoi_told (h : Heap) (s : List UInt8) (h1 : s.length ≤ 281474976710656) : Has envQ .own 48 [.str s] h (.val (atoiV s) h) :=
  Has.told (E := envQ) (a := [.str s]) (p := tellAtoi) rfl rfl (by simp only [tellAtoi]; rw [if_pos h1]) rfl
theorem isNumeral_has (h : Heap) (u : List UInt8) (hu : u.length ≤ 2 ^ 47) : Has envQ .own 160 [.str u] h (.val (.bool (Lex.isNumeral u)) h) := by
  refine HasP.own (a := [.str u]) (d := fn160) rfl rfl rfl (of_decide_eq_true rfl) ?_
  repeat (first | apply RunP.seq | apply RunP.region | apply RunP.condT rfl | apply RunP.condF rfl | apply RunP.skip | apply RunP.block | apply RunP.exit | apply RunP.ret)
  have ha := atoi_told [] u (by omega)
  have hiff := Lex.numeral_iff u
  have no : (¬ ∃ v : Int, Lib.atoiAll u = .ok v ∧ Lib.itoa v = u ∧ 0 ≤ v ∧ v ≤ 1000000000000) → Lex.isNumeral u = false := fun hn => by
    cases hq : Lex.isNumeral u
    · rfl
    · exact absurd (hiff.1 hq) hn
  unfold atoiV at ha
  match he : Lib.atoiAll u with
  | .ok v =>
    rw [he] at ha
    have hb := Lib.atoiAll_bounds he
    refine CallK.of ha ?_
    repeat (first | apply RunP.seq | apply RunP.region | apply RunP.condT rfl | apply RunP.condF rfl | apply RunP.skip | apply RunP.block | apply RunP.exit | apply RunP.ret)
    refine CallK.of (itoa_told _ v hb) ?_
    refine And.intro (fun h1 => ?_) (fun h1 => ?_)
    · repeat (first | apply RunP.seq | apply RunP.region | apply RunP.condT rfl | apply RunP.condF rfl | apply RunP.skip | apply RunP.block | apply RunP.exit | apply RunP.ret)
      refine And.intro (fun h2 => ?_) (fun h2 => ?_)
      · repeat (first | apply RunP.seq | apply RunP.region | apply RunP.condT rfl | apply RunP.condF rfl | apply RunP.skip | apply RunP.block | apply RunP.exit | apply RunP.ret)
        refine And.intro (fun h3 => ?_) (fun h3 => ?_)
        · repeat (first | apply RunP.seq | apply RunP.region | apply RunP.condT rfl | apply RunP.condF rfl | apply RunP.skip | apply RunP.block | apply RunP.exit | apply RunP.ret)
          exact ⟨rfl, congrArg (fun b => some (V.bool b)) (hiff.2 ⟨v, he, h1, h2, h3⟩).symm, rfl⟩
        · repeat (first | apply RunP.seq | apply RunP.region | apply RunP.condT rfl | apply RunP.condF rfl | apply RunP.skip | apply RunP.block | apply RunP.exit | apply RunP.ret)
          exact ⟨rfl, congrArg (fun b => some (V.bool b)) (no (by rintro ⟨w, q1, q2, q3, q4⟩; rw [he] at q1; cases q1; omega)).symm, rfl⟩
      · repeat (first | apply RunP.seq | apply RunP.region | apply RunP.condT rfl | apply RunP.condF rfl | apply RunP.skip | apply RunP.block | apply RunP.exit | apply RunP.ret)
        exact ⟨rfl, congrArg (fun b => some (V.bool b)) (no (by rintro ⟨w, q1, q2, q3, q4⟩; rw [he] at q1; cases q1; omega)).symm, rfl⟩
    · repeat (first | apply RunP.seq | apply RunP.region | apply RunP.condT rfl | apply RunP.condF rfl | apply RunP.skip | apply RunP.block | apply RunP.exit | apply RunP.ret)
      exact ⟨rfl, congrArg (fun b => some (V.bool b)) (no (by rintro ⟨w, q1, q2, q3, q4⟩; rw [he] at q1; cases q1; exact h1 q2)).symm, rfl⟩
  | Lib.NumEnd.syntax =>
    rw [he] at ha
    refine CallK.of ha ?_
    repeat (first | apply RunP.seq | apply RunP.region | apply RunP.condT rfl | apply RunP.condF rfl | apply RunP.skip | apply RunP.block | apply RunP.exit | apply RunP.ret)
    exact ⟨rfl, congrArg (fun b => some (V.bool b)) (no (by rintro ⟨w, q1, _⟩; rw [he] at q1; cases q1)).symm, rfl⟩
  | .range =>
    rw [he] at ha
    refine CallK.of ha ?_
    repeat (first | apply RunP.seq | apply RunP.region | apply RunP.condT rfl | apply RunP.condF rfl | apply RunP.skip | apply RunP.block | apply RunP.exit | apply RunP.ret)
    exact ⟨rfl, congrArg (fun b => some (V.bool b)) (no (by rintro ⟨w, q1, _⟩; rw [he] at q1; cases q1)).symm, rfl⟩
def rnI (u : Bs) (k : Nat) (s : List V) (h : Heap) : Prop :=
  ∃ (i : Nat) (z a : Int), (i + k = u.length ∧ z = i ∧ a = decPre (u.take i) ∧ (u.take i).all Lex.digit = true ∧ decPre (u.take i) ≤ 1000000000000 ∧ (i ≤ 1 ∨ u.head? ≠ some 48)) ∧ s.length = 38 ∧ s.getD 0 und = und ∧ s.getD 1 und = .str u ∧ s.getD 3 und = .bool false ∧ s.getD 4 und = .int .i64 a ∧ s.getD 5 und = .int .i64 z
theorem rnI_lit {u : Bs} {k : Nat} {s : List V} {h : Heap} (hI : rnI u k s h) : ∃ (i : Nat) (z a : Int) (x : Nat → V), (i + k = u.length ∧ z = i ∧ a = decPre (u.take i) ∧ (u.take i).all Lex.digit = true ∧ decPre (u.take i) ≤ 1000000000000 ∧ (i ≤ 1 ∨ u.head? ≠ some 48)) ∧
    s = [und, .str u, x 2, .bool false, .int .i64 a, .int .i64 z, x 6, x 7, x 8, x 9, x 10, x 11, x 12, x 13, x 14, x 15, x 16, x 17, x 18, x 19, x 20, x 21, x 22, x 23, x 24, x 25, x 26, x 27, x 28, x 29, x 30, x 31, x 32, x 33, x 34, x 35, x 36, x 37] := by
  obtain ⟨i, z, a, hF, hl, e0, e1, e3, e4, e5⟩ := hI
  refine ⟨i, z, a, fun n => s.getD n und, hF, (lit_of hl).trans ?_⟩
  show [s.getD 0 und, s.getD 1 und, s.getD 2 und, s.getD 3 und, s.getD 4 und, s.getD 5 und, s.getD 6 und, s.getD 7 und, s.getD 8 und, s.getD 9 und, s.getD 10 und, s.getD 11 und, s.getD 12 und, s.getD 13 und, s.getD 14 und, s.getD 15 und, s.getD 16 und, s.getD 17 und, s.getD 18 und, s.getD 19 und, s.getD 20 und, s.getD 21 und, s.getD 22 und, s.getD 23 und, s.getD 24 und, s.getD 25 und, s.getD 26 und, s.getD 27 und, s.getD 28 und, s.getD 29 und, s.getD 30 und, s.getD 31 und, s.getD 32 und, s.getD 33 und, s.getD 34 und, s.getD 35 und, s.getD 36 und, s.getD 37 und] = _
  rw [e0, e1, e3, e4, e5]

theorem numeral_no1 {u : List UInt8} {i : Nat} {c : UInt8} (hc : u[i]? = some c) (hd : Lex.digit c = false) : Lex.isNumeral u = false := by
  unfold Lex.isNumeral; rw [not_all hc hd]; simp
theorem refNumeral_has (h : Heap) (u : List UInt8) (hu : u.length ≤ 2 ^ 47) : Has envQ .own 124 [.str u] h (.val (.bool (Lex.isNumeral u)) h) := by
  refine HasP.own (a := [.str u]) (d := fn124) rfl rfl rfl (of_decide_eq_true rfl) ?_
  repeat (first | apply RunP.seq | apply RunP.region | apply RunP.condT rfl | apply RunP.condF rfl | apply RunP.skip | apply RunP.block | apply RunP.exit | apply RunP.ret)
  refine RunP.loop (rnI u) ?_ u.length ⟨0, _, _, ⟨by omega, rfl, rfl, by simp, by simp [decPre], .inl (by omega)⟩, rfl, rfl, rfl, rfl, rfl, rfl⟩
  intro k st g hI
  obtain ⟨i, z, a, x, ⟨hik, hz, ha, hall, hmax, h48⟩, rfl⟩ := rnI_lit hI
  clear hI
  subst hz ha
  repeat (first | apply RunP.seq | apply RunP.region | apply RunP.condT rfl | apply RunP.condF rfl | apply RunP.skip | apply RunP.block | apply RunP.exit | apply RunP.ret)
  refine And.intro (fun hlt => ?_) (fun hge => ?_)
  · have hi : i < u.length := by omega
    obtain ⟨c, hc⟩ : ∃ c, u[i]? = some c := ⟨_, List.getElem?_eq_getElem hi⟩
    obtain ⟨c0, hc0⟩ : ∃ c, u[0]? = some c := ⟨_, List.getElem?_eq_getElem (by omega)⟩
    have hhead : u.head? = some c0 := by rw [List.head?_eq_getElem?]; exact hc0
    have hcl : c.toNat < 256 := c.toNat_lt
    repeat (first | apply RunP.seq | apply RunP.region | apply RunP.condT rfl | apply RunP.condF rfl | apply RunP.skip | apply RunP.block | apply RunP.exit | apply RunP.ret)
    refine And.intro (by omega) (Exists.intro c (And.intro hc ?_))
    have hd := refDigit_has g c
    cases hD : Lex.digit c
    · rw [hD] at hd
      refine CallK.of hd ?_
      repeat (first | apply RunP.seq | apply RunP.region | apply RunP.condT rfl | apply RunP.condF rfl | apply RunP.skip | apply RunP.block | apply RunP.exit | apply RunP.ret)
      exact ⟨rfl, congrArg (fun b => some (V.bool b)) (numeral_no1 hc hD).symm, rfl⟩
    · rw [hD] at hd
      have hdg := Lex.dig_of hD
      refine CallK.of hd ?_
      have hpre : decPre (u.take (i + 1)) = 10 * decPre (u.take i) + (c.toNat - 48) := by rw [take_snoc hc, decPre_snoc]
      have hle := decPre_take u (i + 1)
      have hsub : IntKind.u8.wrap ((c.toNat : Int) - 48) = ((c.toNat - 48 : Nat) : Int) := by simp [IntKind.wrap, IntKind.signed, IntKind.bits]; omega
      have eval : IntKind.i64.wrap (IntKind.i64.wrap (10 * (decPre (u.take i) : Int)) + IntKind.i64.wrap (IntKind.u8.wrap ((c.toNat : Int) - 48))) = ((decPre (u.take (i + 1)) : Nat) : Int) := by
        rw [hsub, hpre, wrapS (x := 10 * (decPre (u.take i) : Int)) (by omega) (by omega), wrapS (x := ((c.toNat - 48 : Nat) : Int)) (by omega) (by omega), wrapS (by omega) (by omega)]; omega
      have go : (i + 1 ≤ 1 ∨ u.head? ≠ some 48) → ∀ (st : List V), st = [und] → True := fun _ _ _ => trivial
      repeat (first | apply RunP.seq | apply RunP.region | apply RunP.condT rfl | apply RunP.condF rfl | apply RunP.skip | apply RunP.block | apply RunP.exit | apply RunP.ret)
      refine And.intro (fun h1 => ?_) (fun h1 => ?_)
      · have hi1 : i = 1 := by omega
        refine And.intro (by decide) (Exists.intro c0 (And.intro hc0 ?_))
        refine And.intro (fun h2 => ?_) (fun h2 => ?_)
        · have e : c0 = 48 := UInt8.toNat_inj.1 (show c0.toNat = 48 by omega)
          repeat (first | apply RunP.seq | apply RunP.region | apply RunP.condT rfl | apply RunP.condF rfl | apply RunP.skip | apply RunP.block | apply RunP.exit | apply RunP.ret)
          refine ⟨rfl, congrArg (fun b => some (V.bool b)) ?_, rfl⟩
          unfold Lex.isNumeral
          rw [hhead, e]
          rw [show decide (u.length ≤ 1) = false from by simp; omega]
          simp
        · have e : c0 ≠ 48 := fun q => h2 (by rw [q]; rfl)
          repeat (first | apply RunP.seq | apply RunP.region | apply RunP.condT rfl | apply RunP.condF rfl | apply RunP.skip | apply RunP.block | apply RunP.exit | apply RunP.ret)
          refine And.intro (by omega) (Exists.intro c (And.intro hc ?_))
          repeat (first | apply RunP.seq | apply RunP.region | apply RunP.condT rfl | apply RunP.condF rfl | apply RunP.skip | apply RunP.block | apply RunP.exit | apply RunP.ret)
          refine And.intro (fun h3 => ?_) (fun h3 => ?_)
          · repeat (first | apply RunP.seq | apply RunP.region | apply RunP.condT rfl | apply RunP.condF rfl | apply RunP.skip | apply RunP.block | apply RunP.exit | apply RunP.ret)
            refine ⟨rfl, congrArg (fun b => some (V.bool b)) ?_, rfl⟩
            rw [eval] at h3
            unfold Lex.isNumeral
            rw [show decide (decPre u ≤ 1000000000000) = false from by simp; omega]
            simp
          · rw [eval] at h3
            repeat (first | apply RunP.seq | apply RunP.region | apply RunP.condT rfl | apply RunP.condF rfl | apply RunP.skip | apply RunP.block | apply RunP.exit | apply RunP.ret)
            exact ⟨k - 1, by omega, i + 1, _, _, ⟨by omega, wrap1 (by omega), eval, take_all hc hall hD, by omega, .inr (by rw [hhead]; simpa using e)⟩, rfl, rfl, rfl, rfl, rfl, rfl⟩
      · have h48' : i + 1 ≤ 1 ∨ u.head? ≠ some 48 := by
          rcases h48 with q | q
          · exact .inl (by omega)
          · exact .inr q
        repeat (first | apply RunP.seq | apply RunP.region | apply RunP.condT rfl | apply RunP.condF rfl | apply RunP.skip | apply RunP.block | apply RunP.exit | apply RunP.ret)
        refine And.intro (by omega) (Exists.intro c (And.intro hc ?_))
        repeat (first | apply RunP.seq | apply RunP.region | apply RunP.condT rfl | apply RunP.condF rfl | apply RunP.skip | apply RunP.block | apply RunP.exit | apply RunP.ret)
        refine And.intro (fun h3 => ?_) (fun h3 => ?_)
        · repeat (first | apply RunP.seq | apply RunP.region | apply RunP.condT rfl | apply RunP.condF rfl | apply RunP.skip | apply RunP.block | apply RunP.exit | apply RunP.ret)
          refine ⟨rfl, congrArg (fun b => some (V.bool b)) ?_, rfl⟩
          rw [eval] at h3
          unfold Lex.isNumeral
          rw [show decide (decPre u ≤ 1000000000000) = false from by simp; omega]
          simp
        · rw [eval] at h3
          repeat (first | apply RunP.seq | apply RunP.region | apply RunP.condT rfl | apply RunP.condF rfl | apply RunP.skip | apply RunP.block | apply RunP.exit | apply RunP.ret)
          exact ⟨k - 1, by omega, i + 1, _, _, ⟨by omega, wrap1 (by omega), eval, take_all hc hall hD, by omega, h48'⟩, rfl, rfl, rfl, rfl, rfl, rfl⟩
  · have hi : i = u.length := by omega
    rw [hi, List.take_length] at hall hmax
    rw [hi] at h48
    repeat (first | apply RunP.seq | apply RunP.region | apply RunP.condT rfl | apply RunP.condF rfl | apply RunP.skip | apply RunP.block | apply RunP.exit | apply RunP.ret)
    refine And.intro (fun h0 => ?_) (fun h0 => ?_)
    · repeat (first | apply RunP.seq | apply RunP.region | apply RunP.condT rfl | apply RunP.condF rfl | apply RunP.skip | apply RunP.block | apply RunP.exit | apply RunP.ret)
      exact ⟨rfl, congrArg (fun b => some (V.bool b)) (by rw [show u = [] from h0]; rfl), rfl⟩
    · repeat (first | apply RunP.seq | apply RunP.region | apply RunP.condT rfl | apply RunP.condF rfl | apply RunP.skip | apply RunP.block | apply RunP.exit | apply RunP.ret)
      refine ⟨rfl, congrArg (fun b => some (V.bool b)) ?_, rfl⟩
      have hne : u ≠ [] := h0
      unfold Lex.isNumeral
      rw [hall]
      cases u with
      | nil => exact absurd rfl hne
      | cons d t =>
        simp only [List.isEmpty_cons, Bool.not_false, Bool.true_and]
        rcases h48 with q | q
        · rw [show decide ((d :: t).length ≤ 1) = true from by simpa using q]; simpa using hmax
        · rw [show decide ((d :: t).head? ≠ some 48) = true from by simpa using q]; simpa using hmax
def rsI (v : Bs) (k : Nat) (s : List V) (h : Heap) : Prop :=
  ∃ (i : Nat) (z : Int), (i + k = Lex.signs.length ∧ z = i ∧ v ∉ Lex.signs.take i ∧ h = [.cells 183 (Lex.signs.map V.str)]) ∧ s.length = 16 ∧ s.getD 0 und = und ∧ s.getD 1 und = .str v ∧ s.getD 4 und = .ptr 0 0 21 ∧ s.getD 5 und = .int .i64 z
theorem rsI_lit {v : Bs} {k : Nat} {s : List V} {h : Heap} (hI : rsI v k s h) : ∃ (i : Nat) (z : Int) (x : Nat → V), (i + k = Lex.signs.length ∧ z = i ∧ v ∉ Lex.signs.take i ∧ h = [.cells 183 (Lex.signs.map V.str)]) ∧
    s = [und, .str v, x 2, x 3, .ptr 0 0 21, .int .i64 z, x 6, x 7, x 8, x 9, x 10, x 11, x 12, x 13, x 14, x 15] := by
  obtain ⟨i, z, hF, hl, e0, e1, e4, e5⟩ := hI
  refine ⟨i, z, fun n => s.getD n und, hF, (lit_of hl).trans ?_⟩
  show [s.getD 0 und, s.getD 1 und, s.getD 2 und, s.getD 3 und, s.getD 4 und, s.getD 5 und, s.getD 6 und, s.getD 7 und, s.getD 8 und, s.getD 9 und, s.getD 10 und, s.getD 11 und, s.getD 12 und, s.getD 13 und, s.getD 14 und, s.getD 15 und] = _
  rw [e0, e1, e4, e5]

theorem refIsSign_has (h : Heap) (v : List UInt8) : Has envQ .own 126 [.str v] h (.val (.bool (Lex.isSign v)) h) := by
  refine HasP.own (a := [.str v]) (d := fn126) rfl rfl rfl (of_decide_eq_true rfl) ?_
  have hlen : Lex.signs.length = 21 := rfl
  repeat (first | apply RunP.seq | apply RunP.region | apply RunP.condT rfl | apply RunP.condF rfl | apply RunP.skip | apply RunP.block | apply RunP.exit | apply RunP.ret)
  refine RunP.loop (rsI v) ?_ Lex.signs.length ⟨0, _, ⟨by omega, rfl, by simp, rfl⟩, rfl, rfl, rfl, rfl, rfl⟩
  intro k st g hI
  obtain ⟨i, z, x, ⟨hik, hz, hnot, hg⟩, rfl⟩ := rsI_lit hI
  clear hI
  subst hz hg
  repeat (first | apply RunP.seq | apply RunP.region | apply RunP.condT rfl | apply RunP.condF rfl | apply RunP.skip | apply RunP.block | apply RunP.exit | apply RunP.ret)
  refine And.intro (fun hlt => ?_) (fun hge => ?_)
  · have hi : i < Lex.signs.length := by omega
    obtain ⟨w, hw⟩ : ∃ w, Lex.signs[i]? = some w := ⟨_, List.getElem?_eq_getElem hi⟩
    repeat (first | apply RunP.seq | apply RunP.region | apply RunP.condT rfl | apply RunP.condF rfl | apply RunP.skip | apply RunP.block | apply RunP.exit | apply RunP.ret)
    refine And.intro ⟨by omega, by omega⟩ ?_
    refine bindK_of (v := .str w) ?_ ?_
    · rw [load_at (E := envQ) (t := 9) (n := 21) (b := 0) (T := 183) (cs := Lex.signs.map V.str) rfl rfl]
      show (((Lex.signs.map V.str).drop (0 + ((i : Int)).toNat * 1)).head? : Option V) = some (.str w)
      rw [List.head?_drop, show 0 + ((i : Int)).toNat * 1 = i from by simp, List.getElem?_map, hw]; rfl
    refine And.intro (fun he => ?_) (fun hne => ?_)
    · repeat (first | apply RunP.seq | apply RunP.region | apply RunP.condT rfl | apply RunP.condF rfl | apply RunP.skip | apply RunP.block | apply RunP.exit | apply RunP.ret)
      exact ⟨rfl, congrArg (fun b => some (V.bool b)) (by unfold Lex.isSign; rw [← he]; simp; exact List.mem_of_getElem? hw), rfl⟩
    · repeat (first | apply RunP.seq | apply RunP.region | apply RunP.condT rfl | apply RunP.condF rfl | apply RunP.skip | apply RunP.block | apply RunP.exit | apply RunP.ret)
      exact ⟨k - 1, by omega, i + 1, _, ⟨by omega, wrap1 (by omega), take_not hw hnot (fun e => hne e.symm), rfl⟩, rfl, rfl, rfl, rfl, rfl⟩
  · have hi : i = Lex.signs.length := by omega
    rw [hi, List.take_length] at hnot
    repeat (first | apply RunP.seq | apply RunP.region | apply RunP.condT rfl | apply RunP.condF rfl | apply RunP.skip | apply RunP.block | apply RunP.exit | apply RunP.ret)
    exact ⟨rfl, congrArg (fun b => some (V.bool b)) (by unfold Lex.isSign; simp; exact hnot), rfl⟩
end Go.Proofs.YtkjhnpmgieplgaaGreatDoor
