/- Letters, digits, texts: the program's and the reference's. -/
import Derived.Test.YtkjhnpmgieplgaaGreatDoorSbAwake
import Derived.Test.YtkjhnpmgieplgaaGreatDoorSbOwnE
import Derived.Test.YtkjhnpmgieplgaaGreatDoorSbIter
set_option linter.unusedVariables false
set_option linter.unusedSimpArgs false
namespace Go.Proofs.YtkjhnpmgieplgaaGreatDoor
open Go.Sb
set_option maxRecDepth 100000

theorem wrapS {x : Int} (h0 : -9223372036854775808 ≤ x) (h1 : x ≤ 9223372036854775807) : IntKind.i64.wrap x = x := by
  simp [IntKind.wrap, IntKind.signed, IntKind.bits]; split <;> omega
theorem wrap1 {i : Nat} (h : i ≤ 2 ^ 60) : IntKind.i64.wrap ((i : Int) + 1) = ((i + 1 : Nat) : Int) := by
  rw [wrapS (by omega) (by omega)]; omega
theorem take_all {p : UInt8 → Bool} {u : List UInt8} {i : Nat} {c : UInt8} (hc : u[i]? = some c) (h : (u.take i).all p = true) (hp : p c = true) : (u.take (i + 1)).all p = true := by
  rw [List.take_add_one, List.all_append, h, hc]; simp [hp]
theorem not_all {p : UInt8 → Bool} {u : List UInt8} {i : Nat} {c : UInt8} (hc : u[i]? = some c) (hp : p c = false) : u.all p = false := by
  rw [List.all_eq_false]; exact ⟨c, List.mem_of_getElem? hc, by simp [hp]⟩

theorem isLetter_has (h : Heap) (c : UInt8) : Has envQ .own 113 [.int .u8 c.toNat] h (.val (.bool (Lex.letter c)) h) := by
  refine HasP.own (a := [.int .u8 c.toNat]) (d := fn113) rfl rfl rfl (of_decide_eq_true rfl) ?_
  repeat (first | apply RunP.seq | apply RunP.region | apply RunP.condT rfl | apply RunP.condF rfl | apply RunP.skip | apply RunP.block | apply RunP.exit | apply RunP.ret)
  refine And.intro (fun h1 => ?_) (fun h1 => ?_)
  · repeat (first | apply RunP.seq | apply RunP.region | apply RunP.condT rfl | apply RunP.condF rfl | apply RunP.skip | apply RunP.block | apply RunP.exit | apply RunP.ret)
    refine And.intro (fun h2 => ?_) (fun h2 => ?_)
    · repeat (first | apply RunP.seq | apply RunP.region | apply RunP.condT rfl | apply RunP.condF rfl | apply RunP.skip | apply RunP.block | apply RunP.exit | apply RunP.ret)
      exact ⟨rfl, congrArg (fun b => some (V.bool b)) (by simp [Lex.letter]; omega), rfl⟩
    · repeat (first | apply RunP.seq | apply RunP.region | apply RunP.condT rfl | apply RunP.condF rfl | apply RunP.skip | apply RunP.block | apply RunP.exit | apply RunP.ret)
      exact ⟨rfl, congrArg (fun b => some (V.bool b)) (by simp [Lex.letter]; omega), rfl⟩
  · repeat (first | apply RunP.seq | apply RunP.region | apply RunP.condT rfl | apply RunP.condF rfl | apply RunP.skip | apply RunP.block | apply RunP.exit | apply RunP.ret)
    exact ⟨rfl, congrArg (fun b => some (V.bool b)) (by simp [Lex.letter]; omega), rfl⟩

theorem isDigit_has (h : Heap) (c : UInt8) : Has envQ .own 115 [.int .u8 c.toNat] h (.val (.bool (Lex.digit c)) h) := by
  refine HasP.own (a := [.int .u8 c.toNat]) (d := fn115) rfl rfl rfl (of_decide_eq_true rfl) ?_
  repeat (first | apply RunP.seq | apply RunP.region | apply RunP.condT rfl | apply RunP.condF rfl | apply RunP.skip | apply RunP.block | apply RunP.exit | apply RunP.ret)
  refine And.intro (fun h1 => ?_) (fun h1 => ?_)
  · repeat (first | apply RunP.seq | apply RunP.region | apply RunP.condT rfl | apply RunP.condF rfl | apply RunP.skip | apply RunP.block | apply RunP.exit | apply RunP.ret)
    refine And.intro (fun h2 => ?_) (fun h2 => ?_)
    · repeat (first | apply RunP.seq | apply RunP.region | apply RunP.condT rfl | apply RunP.condF rfl | apply RunP.skip | apply RunP.block | apply RunP.exit | apply RunP.ret)
      exact ⟨rfl, congrArg (fun b => some (V.bool b)) (by simp [Lex.digit]; omega), rfl⟩
    · repeat (first | apply RunP.seq | apply RunP.region | apply RunP.condT rfl | apply RunP.condF rfl | apply RunP.skip | apply RunP.block | apply RunP.exit | apply RunP.ret)
      exact ⟨rfl, congrArg (fun b => some (V.bool b)) (by simp [Lex.digit]; omega), rfl⟩
  · repeat (first | apply RunP.seq | apply RunP.region | apply RunP.condT rfl | apply RunP.condF rfl | apply RunP.skip | apply RunP.block | apply RunP.exit | apply RunP.ret)
    exact ⟨rfl, congrArg (fun b => some (V.bool b)) (by simp [Lex.digit]; omega), rfl⟩

theorem refLetter_has (h : Heap) (c : UInt8) : Has envQ .own 119 [.int .u8 c.toNat] h (.val (.bool (Lex.letter c)) h) := by
  refine HasP.own (a := [.int .u8 c.toNat]) (d := fn119) rfl rfl rfl (of_decide_eq_true rfl) ?_
  repeat (first | apply RunP.seq | apply RunP.region | apply RunP.condT rfl | apply RunP.condF rfl | apply RunP.skip | apply RunP.block | apply RunP.exit | apply RunP.ret)
  refine And.intro (fun h1 => ?_) (fun h1 => ?_)
  · repeat (first | apply RunP.seq | apply RunP.region | apply RunP.condT rfl | apply RunP.condF rfl | apply RunP.skip | apply RunP.block | apply RunP.exit | apply RunP.ret)
    refine And.intro (fun h2 => ?_) (fun h2 => ?_)
    · repeat (first | apply RunP.seq | apply RunP.region | apply RunP.condT rfl | apply RunP.condF rfl | apply RunP.skip | apply RunP.block | apply RunP.exit | apply RunP.ret)
      exact ⟨rfl, congrArg (fun b => some (V.bool b)) (by simp [Lex.letter]; omega), rfl⟩
    · repeat (first | apply RunP.seq | apply RunP.region | apply RunP.condT rfl | apply RunP.condF rfl | apply RunP.skip | apply RunP.block | apply RunP.exit | apply RunP.ret)
      exact ⟨rfl, congrArg (fun b => some (V.bool b)) (by simp [Lex.letter]; omega), rfl⟩
  · repeat (first | apply RunP.seq | apply RunP.region | apply RunP.condT rfl | apply RunP.condF rfl | apply RunP.skip | apply RunP.block | apply RunP.exit | apply RunP.ret)
    exact ⟨rfl, congrArg (fun b => some (V.bool b)) (by simp [Lex.letter]; omega), rfl⟩

theorem refDigit_has (h : Heap) (c : UInt8) : Has envQ .own 123 [.int .u8 c.toNat] h (.val (.bool (Lex.digit c)) h) := by
  refine HasP.own (a := [.int .u8 c.toNat]) (d := fn123) rfl rfl rfl (of_decide_eq_true rfl) ?_
  repeat (first | apply RunP.seq | apply RunP.region | apply RunP.condT rfl | apply RunP.condF rfl | apply RunP.skip | apply RunP.block | apply RunP.exit | apply RunP.ret)
  refine And.intro (fun h1 => ?_) (fun h1 => ?_)
  · repeat (first | apply RunP.seq | apply RunP.region | apply RunP.condT rfl | apply RunP.condF rfl | apply RunP.skip | apply RunP.block | apply RunP.exit | apply RunP.ret)
    refine And.intro (fun h2 => ?_) (fun h2 => ?_)
    · repeat (first | apply RunP.seq | apply RunP.region | apply RunP.condT rfl | apply RunP.condF rfl | apply RunP.skip | apply RunP.block | apply RunP.exit | apply RunP.ret)
      exact ⟨rfl, congrArg (fun b => some (V.bool b)) (by simp [Lex.digit]; omega), rfl⟩
    · repeat (first | apply RunP.seq | apply RunP.region | apply RunP.condT rfl | apply RunP.condF rfl | apply RunP.skip | apply RunP.block | apply RunP.exit | apply RunP.ret)
      exact ⟨rfl, congrArg (fun b => some (V.bool b)) (by simp [Lex.digit]; omega), rfl⟩
  · repeat (first | apply RunP.seq | apply RunP.region | apply RunP.condT rfl | apply RunP.condF rfl | apply RunP.skip | apply RunP.block | apply RunP.exit | apply RunP.ret)
    exact ⟨rfl, congrArg (fun b => some (V.bool b)) (by simp [Lex.digit]; omega), rfl⟩
theorem wrapB {i : Nat} (h : i < 9223372036854775807) : IntKind.i64.wrap ((i : Int) + 1) = ((i + 1 : Nat) : Int) := by
  rw [wrapS (by omega) (by omega)]; omega
def tpI (u : List UInt8) (k : Nat) (s : List V) (h : Heap) : Prop :=
  ∃ (i : Nat) (z : Int), (i + k = u.length ∧ z = i ∧ (u.take i).all Lex.textByte = true) ∧ s.length = 24 ∧ s.getD 0 und = und ∧ s.getD 1 und = .str u ∧ s.getD 3 und = .bool false ∧ s.getD 6 und = .int .i64 u.length ∧ s.getD 7 und = .int .i64 z
theorem tpI_lit {u : List UInt8} {k : Nat} {s : List V} {h : Heap} (hI : tpI u k s h) : ∃ (i : Nat) (z : Int) (x : Nat → V), (i + k = u.length ∧ z = i ∧ (u.take i).all Lex.textByte = true) ∧
    s = [und, .str u, x 2, .bool false, x 4, x 5, .int .i64 u.length, .int .i64 z, x 8, x 9, x 10, x 11, x 12, x 13, x 14, x 15, x 16, x 17, x 18, x 19, x 20, x 21, x 22, x 23] := by
  obtain ⟨i, z, hF, hl, e0, e1, e3, e6, e7⟩ := hI
  refine ⟨i, z, fun n => s.getD n und, hF, (lit_of hl).trans ?_⟩
  show [s.getD 0 und, s.getD 1 und, s.getD 2 und, s.getD 3 und, s.getD 4 und, s.getD 5 und, s.getD 6 und, s.getD 7 und, s.getD 8 und, s.getD 9 und, s.getD 10 und, s.getD 11 und, s.getD 12 und, s.getD 13 und, s.getD 14 und, s.getD 15 und, s.getD 16 und, s.getD 17 und, s.getD 18 und, s.getD 19 und, s.getD 20 und, s.getD 21 und, s.getD 22 und, s.getD 23 und] = _
  rw [e0, e1, e3, e6, e7]

theorem isText_has (h : Heap) (u : List UInt8) (hu : u.length ≤ 9223372036854775807) : Has envQ .own 76 [.str u] h (.val (.bool (Lex.isText u)) h) := by
  refine HasP.own (a := [.str u]) (d := fn76) rfl rfl rfl (of_decide_eq_true rfl) ?_
  repeat (first | apply RunP.seq | apply RunP.region | apply RunP.condT rfl | apply RunP.condF rfl | apply RunP.skip | apply RunP.block | apply RunP.exit | apply RunP.ret)
  refine RunP.loop (tpI u) ?_ u.length ⟨0, _, ⟨by omega, rfl, by simp⟩, rfl, rfl, rfl, rfl, rfl, rfl⟩
  intro k st g hI
  obtain ⟨i, z, x, ⟨hik, hz, hall⟩, rfl⟩ := tpI_lit hI
  clear hI
  subst hz
  repeat (first | apply RunP.seq | apply RunP.region | apply RunP.condT rfl | apply RunP.condF rfl | apply RunP.skip | apply RunP.block | apply RunP.exit | apply RunP.ret)
  refine And.intro (fun hlt => ?_) (fun hge => ?_)
  · have hi : i < u.length := by omega
    obtain ⟨c, hc⟩ : ∃ c, u[i]? = some c := ⟨_, List.getElem?_eq_getElem hi⟩
    have hcl : c.toNat < 256 := c.toNat_lt
    repeat (first | apply RunP.seq | apply RunP.region | apply RunP.condT rfl | apply RunP.condF rfl | apply RunP.skip | apply RunP.block | apply RunP.exit | apply RunP.ret)
    refine And.intro (by omega) (Exists.intro c (And.intro hc ?_))
    refine And.intro (fun h1 => ?_) (fun h1 => ?_)
    · repeat (first | apply RunP.seq | apply RunP.region | apply RunP.condT rfl | apply RunP.condF rfl | apply RunP.skip | apply RunP.block | apply RunP.exit | apply RunP.ret)
      exact ⟨rfl, congrArg (fun b => some (V.bool b)) (by unfold Lex.isText; rw [not_all hc (by simp [Lex.textByte]; omega)]; rfl), rfl⟩
    · repeat (first | apply RunP.seq | apply RunP.region | apply RunP.condT rfl | apply RunP.condF rfl | apply RunP.skip | apply RunP.block | apply RunP.exit | apply RunP.ret)
      refine And.intro (by omega) (Exists.intro c (And.intro hc ?_))
      refine And.intro (fun h2 => ?_) (fun h2 => ?_)
      · repeat (first | apply RunP.seq | apply RunP.region | apply RunP.condT rfl | apply RunP.condF rfl | apply RunP.skip | apply RunP.block | apply RunP.exit | apply RunP.ret)
        exact ⟨rfl, congrArg (fun b => some (V.bool b)) (by unfold Lex.isText; rw [not_all hc (by simp [Lex.textByte]; omega)]; rfl), rfl⟩
      · repeat (first | apply RunP.seq | apply RunP.region | apply RunP.condT rfl | apply RunP.condF rfl | apply RunP.skip | apply RunP.block | apply RunP.exit | apply RunP.ret)
        exact ⟨k - 1, by omega, i + 1, _, ⟨by omega, wrapB (by omega), take_all hc hall (by simp [Lex.textByte]; omega)⟩, rfl, rfl, rfl, rfl, rfl, rfl⟩
  · have hi : i = u.length := by omega
    rw [hi, List.take_length] at hall
    repeat (first | apply RunP.seq | apply RunP.region | apply RunP.condT rfl | apply RunP.condF rfl | apply RunP.skip | apply RunP.block | apply RunP.exit | apply RunP.ret)
    refine And.intro (fun h1 => ?_) (fun h1 => ?_)
    · repeat (first | apply RunP.seq | apply RunP.region | apply RunP.condT rfl | apply RunP.condF rfl | apply RunP.skip | apply RunP.block | apply RunP.exit | apply RunP.ret)
      exact ⟨rfl, congrArg (fun b => some (V.bool b)) (by unfold Lex.isText; rw [hall]; simp; omega), rfl⟩
    · repeat (first | apply RunP.seq | apply RunP.region | apply RunP.condT rfl | apply RunP.condF rfl | apply RunP.skip | apply RunP.block | apply RunP.exit | apply RunP.ret)
      exact ⟨rfl, congrArg (fun b => some (V.bool b)) (by unfold Lex.isText; rw [hall]; simp; omega), rfl⟩
def trI (u : List UInt8) (k : Nat) (s : List V) (h : Heap) : Prop :=
  ∃ (i : Nat) (z : Int), (i + k = u.length ∧ z = i ∧ (u.take i).all Lex.textByte = true) ∧ s.length = 24 ∧ s.getD 0 und = und ∧ s.getD 1 und = .str u ∧ s.getD 3 und = .bool false ∧ s.getD 4 und = .int .i64 z
theorem trI_lit {u : List UInt8} {k : Nat} {s : List V} {h : Heap} (hI : trI u k s h) : ∃ (i : Nat) (z : Int) (x : Nat → V), (i + k = u.length ∧ z = i ∧ (u.take i).all Lex.textByte = true) ∧
    s = [und, .str u, x 2, .bool false, .int .i64 z, x 5, x 6, x 7, x 8, x 9, x 10, x 11, x 12, x 13, x 14, x 15, x 16, x 17, x 18, x 19, x 20, x 21, x 22, x 23] := by
  obtain ⟨i, z, hF, hl, e0, e1, e3, e4⟩ := hI
  refine ⟨i, z, fun n => s.getD n und, hF, (lit_of hl).trans ?_⟩
  show [s.getD 0 und, s.getD 1 und, s.getD 2 und, s.getD 3 und, s.getD 4 und, s.getD 5 und, s.getD 6 und, s.getD 7 und, s.getD 8 und, s.getD 9 und, s.getD 10 und, s.getD 11 und, s.getD 12 und, s.getD 13 und, s.getD 14 und, s.getD 15 und, s.getD 16 und, s.getD 17 und, s.getD 18 und, s.getD 19 und, s.getD 20 und, s.getD 21 und, s.getD 22 und, s.getD 23 und] = _
  rw [e0, e1, e3, e4]

theorem refIsText_has (h : Heap) (u : List UInt8) (hu : u.length ≤ 9223372036854775807) : Has envQ .own 166 [.str u] h (.val (.bool (Lex.isText u)) h) := by
  refine HasP.own (a := [.str u]) (d := fn166) rfl rfl rfl (of_decide_eq_true rfl) ?_
  repeat (first | apply RunP.seq | apply RunP.region | apply RunP.condT rfl | apply RunP.condF rfl | apply RunP.skip | apply RunP.block | apply RunP.exit | apply RunP.ret)
  refine RunP.loop (trI u) ?_ u.length ⟨0, _, ⟨by omega, rfl, by simp⟩, rfl, rfl, rfl, rfl, rfl⟩
  intro k st g hI
  obtain ⟨i, z, x, ⟨hik, hz, hall⟩, rfl⟩ := trI_lit hI
  clear hI
  subst hz
  repeat (first | apply RunP.seq | apply RunP.region | apply RunP.condT rfl | apply RunP.condF rfl | apply RunP.skip | apply RunP.block | apply RunP.exit | apply RunP.ret)
  refine And.intro (fun hlt => ?_) (fun hge => ?_)
  · have hi : i < u.length := by omega
    obtain ⟨c, hc⟩ : ∃ c, u[i]? = some c := ⟨_, List.getElem?_eq_getElem hi⟩
    have hcl : c.toNat < 256 := c.toNat_lt
    repeat (first | apply RunP.seq | apply RunP.region | apply RunP.condT rfl | apply RunP.condF rfl | apply RunP.skip | apply RunP.block | apply RunP.exit | apply RunP.ret)
    refine And.intro (by omega) (Exists.intro c (And.intro hc ?_))
    refine And.intro (fun h1 => ?_) (fun h1 => ?_)
    · repeat (first | apply RunP.seq | apply RunP.region | apply RunP.condT rfl | apply RunP.condF rfl | apply RunP.skip | apply RunP.block | apply RunP.exit | apply RunP.ret)
      exact ⟨rfl, congrArg (fun b => some (V.bool b)) (by unfold Lex.isText; rw [not_all hc (by simp [Lex.textByte]; omega)]; rfl), rfl⟩
    · repeat (first | apply RunP.seq | apply RunP.region | apply RunP.condT rfl | apply RunP.condF rfl | apply RunP.skip | apply RunP.block | apply RunP.exit | apply RunP.ret)
      refine And.intro (by omega) (Exists.intro c (And.intro hc ?_))
      refine And.intro (fun h2 => ?_) (fun h2 => ?_)
      · repeat (first | apply RunP.seq | apply RunP.region | apply RunP.condT rfl | apply RunP.condF rfl | apply RunP.skip | apply RunP.block | apply RunP.exit | apply RunP.ret)
        exact ⟨rfl, congrArg (fun b => some (V.bool b)) (by unfold Lex.isText; rw [not_all hc (by simp [Lex.textByte]; omega)]; rfl), rfl⟩
      · repeat (first | apply RunP.seq | apply RunP.region | apply RunP.condT rfl | apply RunP.condF rfl | apply RunP.skip | apply RunP.block | apply RunP.exit | apply RunP.ret)
        exact ⟨k - 1, by omega, i + 1, _, ⟨by omega, wrapB (by omega), take_all hc hall (by simp [Lex.textByte]; omega)⟩, rfl, rfl, rfl, rfl, rfl⟩
  · have hi : i = u.length := by omega
    rw [hi, List.take_length] at hall
    repeat (first | apply RunP.seq | apply RunP.region | apply RunP.condT rfl | apply RunP.condF rfl | apply RunP.skip | apply RunP.block | apply RunP.exit | apply RunP.ret)
    refine And.intro (fun h1 => ?_) (fun h1 => ?_)
    · repeat (first | apply RunP.seq | apply RunP.region | apply RunP.condT rfl | apply RunP.condF rfl | apply RunP.skip | apply RunP.block | apply RunP.exit | apply RunP.ret)
      exact ⟨rfl, congrArg (fun b => some (V.bool b)) (by unfold Lex.isText; rw [hall]; simp; omega), rfl⟩
    · repeat (first | apply RunP.seq | apply RunP.region | apply RunP.condT rfl | apply RunP.condF rfl | apply RunP.skip | apply RunP.block | apply RunP.exit | apply RunP.ret)
      exact ⟨rfl, congrArg (fun b => some (V.bool b)) (by unfold Lex.isText; rw [hall]; simp; omega), rfl⟩
end Go.Proofs.YtkjhnpmgieplgaaGreatDoor
