/- Letters, digits, texts: the program's and the reference's. -/
import Derived.Test.YtkjhnpmgieplgaaGreatDoorSbAwake
import Derived.Test.YtkjhnpmgieplgaaGreatDoorSbOwnE
import Derived.Test.YtkjhnpmgieplgaaGreatDoorSbIter
import Derived.Test.YtkjhnpmgieplgaaGreatDoorSbBytes
set_option linter.unusedVariables false
set_option linter.unusedSimpArgs false
namespace Go.Proofs.YtkjhnpmgieplgaaGreatDoor
open Go.Sb
set_option maxRecDepth 100000

theorem wrapS {x : Int} (h0 : -9223372036854775808 ≤ x) (h1 : x ≤ 9223372036854775807) : IntKind.i64.wrap x = x := by
  simp [IntKind.wrap, IntKind.signed, IntKind.bits]; split <;> omega
theorem wrap1 {i : Nat} (h : i ≤ 2 ^ 60) : IntKind.i64.wrap ((i : Int) + 1) = ((i + 1 : Nat) : Int) := by
  rw [wrapS (by omega) (by omega)]; omega
theorem take_all {p : UInt8 → Bool} {u : List UInt8} {i : Nat} {c : UInt8} (hc : u[i]? = some c) (h : (u.take i).all p = true) (hp : p c = true) : (u.take (i + 1)).all p = true := by
  rw [List.take_add_one, List.all_append, h, hc]; simp [hp]
theorem not_all {p : UInt8 → Bool} {u : List UInt8} {i : Nat} {c : UInt8} (hc : u[i]? = some c) (hp : p c = false) : u.all p = false := by
  rw [List.all_eq_false]; exact ⟨c, List.mem_of_getElem? hc, by simp [hp]⟩

theorem isLetter_has (h : Heap) (c : UInt8) : Has envQ .own 113 [.int .u8 c.toNat] h (.val (.bool (Lex.letter c)) h) := by
  refine HasP.own (a := [.int .u8 c.toNat]) (d := fn113) rfl rfl rfl (of_decide_eq_true rfl) ?_
  repeat (first | apply RunP.seq | apply RunP.region | apply RunP.condT rfl | apply RunP.condF rfl | apply RunP.skip | apply RunP.block | apply RunP.exit | apply RunP.ret)
  refine And.intro (fun h1 => ?_) (fun h1 => ?_)
  · repeat (first | apply RunP.seq | apply RunP.region | apply RunP.condT rfl | apply RunP.condF rfl | apply RunP.skip | apply RunP.block | apply RunP.exit | apply RunP.ret)
    refine And.intro (fun h2 => ?_) (fun h2 => ?_)
    · repeat (first | apply RunP.seq | apply RunP.region | apply RunP.condT rfl | apply RunP.condF rfl | apply RunP.skip | apply RunP.block | apply RunP.exit | apply RunP.ret)
      exact ⟨rfl, congrArg (fun b => some (V.bool b)) (by simp [Lex.letter]; omega), rfl⟩
    · repeat (first | apply RunP.seq | apply RunP.region | apply RunP.condT rfl | apply RunP.condF rfl | apply RunP.skip | apply RunP.block | apply RunP.exit | apply RunP.ret)
      exact ⟨rfl, congrArg (fun b => some (V.bool b)) (by simp [Lex.letter]; omega), rfl⟩
  · repeat (first | apply RunP.seq | apply RunP.region | apply RunP.condT rfl | apply RunP.condF rfl | apply RunP.skip | apply RunP.block | apply RunP.exit | apply RunP.ret)
    exact ⟨rfl, congrArg (fun b => some (V.bool b)) (by simp [Lex.letter]; omega), rfl⟩

theorem isDigit_has (h : Heap) (c : UInt8) : Has envQ .own 115 [.int .u8 c.toNat] h (.val (.bool (Lex.digit c)) h) := by
  refine HasP.own (a := [.int .u8 c.toNat]) (d := fn115) rfl rfl rfl (of_decide_eq_true rfl) ?_
  repeat (first | apply RunP.seq | apply RunP.region | apply RunP.condT rfl | apply RunP.condF rfl | apply RunP.skip | apply RunP.block | apply RunP.exit | apply RunP.ret)
  refine And.intro (fun h1 => ?_) (fun h1 => ?_)
  · repeat (first | apply RunP.seq | apply RunP.region | apply RunP.condT rfl | apply RunP.condF rfl | apply RunP.skip | apply RunP.block | apply RunP.exit | apply RunP.ret)
    refine And.intro (fun h2 => ?_) (fun h2 => ?_)
    · repeat (first | apply RunP.seq | apply RunP.region | apply RunP.condT rfl | apply RunP.condF rfl | apply RunP.skip | apply RunP.block | apply RunP.exit | apply RunP.ret)
      exact ⟨rfl, congrArg (fun b => some (V.bool b)) (by simp [Lex.digit]; omega), rfl⟩
    · repeat (first | apply RunP.seq | apply RunP.region | apply RunP.condT rfl | apply RunP.condF rfl | apply RunP.skip | apply RunP.block | apply RunP.exit | apply RunP.ret)
      exact ⟨rfl, congrArg (fun b => some (V.bool b)) (by simp [Lex.digit]; omega), rfl⟩
  · repeat (first | apply RunP.seq | apply RunP.region | apply RunP.condT rfl | apply RunP.condF rfl | apply RunP.skip | apply RunP.block | apply RunP.exit | apply RunP.ret)
    exact ⟨rfl, congrArg (fun b => some (V.bool b)) (by simp [Lex.digit]; omega), rfl⟩

theorem refLetter_has (h : Heap) (c : UInt8) : Has envQ .own 119 [.int .u8 c.toNat] h (.val (.bool (Lex.letter c)) h) := by
  refine HasP.own (a := [.int .u8 c.toNat]) (d := fn119) rfl rfl rfl (of_decide_eq_true rfl) ?_
  repeat (first | apply RunP.seq | apply RunP.region | apply RunP.condT rfl | apply RunP.condF rfl | apply RunP.skip | apply RunP.block | apply RunP.exit | apply RunP.ret)
  refine And.intro (fun h1 => ?_) (fun h1 => ?_)
  · repeat (first | apply RunP.seq | apply RunP.region | apply RunP.condT rfl | apply RunP.condF rfl | apply RunP.skip | apply RunP.block | apply RunP.exit | apply RunP.ret)
    refine And.intro (fun h2 => ?_) (fun h2 => ?_)
    · repeat (first | apply RunP.seq | apply RunP.region | apply RunP.condT rfl | apply RunP.condF rfl | apply RunP.skip | apply RunP.block | apply RunP.exit | apply RunP.ret)
      exact ⟨rfl, congrArg (fun b => some (V.bool b)) (by simp [Lex.letter]; omega), rfl⟩
    · repeat (first | apply RunP.seq | apply RunP.region | apply RunP.condT rfl | apply RunP.condF rfl | apply RunP.skip | apply RunP.block | apply RunP.exit | apply RunP.ret)
      exact ⟨rfl, congrArg (fun b => some (V.bool b)) (by simp [Lex.letter]; omega), rfl⟩
  · repeat (first | apply RunP.seq | apply RunP.region | apply RunP.condT rfl | apply RunP.condF rfl | apply RunP.skip | apply RunP.block | apply RunP.exit | apply RunP.ret)
    exact ⟨rfl, congrArg (fun b => some (V.bool b)) (by simp [Lex.letter]; omega), rfl⟩

theorem refDigit_has (h : Heap) (c : UInt8) : Has envQ .own 123 [.int .u8 c.toNat] h (.val (.bool (Lex.digit c)) h) := by
  refine HasP.own (a := [.int .u8 c.toNat]) (d := fn123) rfl rfl rfl (of_decide_eq_true rfl) ?_
  repeat (first | apply RunP.seq | apply RunP.region | apply RunP.condT rfl | apply RunP.condF rfl | apply RunP.skip | apply RunP.block | apply RunP.exit | apply RunP.ret)
  refine And.intro (fun h1 => ?_) (fun h1 => ?_)
  · repeat (first | apply RunP.seq | apply RunP.region | apply RunP.condT rfl | apply RunP.condF rfl | apply RunP.skip | apply RunP.block | apply RunP.exit | apply RunP.ret)
    refine And.intro (fun h2 => ?_) (fun h2 => ?_)
    · repeat (first | apply RunP.seq | apply RunP.region | apply RunP.condT rfl | apply RunP.condF rfl | apply RunP.skip | apply RunP.block | apply RunP.exit | apply RunP.ret)
      exact ⟨rfl, congrArg (fun b => some (V.bool b)) (by simp [Lex.digit]; omega), rfl⟩
    · repeat (first | apply RunP.seq | apply RunP.region | apply RunP.condT rfl | apply RunP.condF rfl | apply RunP.skip | apply RunP.block | apply RunP.exit | apply RunP.ret)
      exact ⟨rfl, congrArg (fun b => some (V.bool b)) (by simp [Lex.digit]; omega), rfl⟩
  · repeat (first | apply RunP.seq | apply RunP.region | apply RunP.condT rfl | apply RunP.condF rfl | apply RunP.skip | apply RunP.block | apply RunP.exit | apply RunP.ret)
    exact ⟨rfl, congrArg (fun b => some (V.bool b)) (by simp [Lex.digit]; omega), rfl⟩
theorem wrapB {i : Nat} (h : i < 9223372036854775807) : IntKind.i64.wrap ((i : Int) + 1) = ((i + 1 : Nat) : Int) := by
  rw [wrapS (by omega) (by omega)]; omega
def tpI (u : List UInt8) (k : Nat) (s : List V) (h : Heap) : Prop :=
  ∃ (i : Nat) (z : Int), (i + k = u.length ∧ z = i ∧ (u.take i).all Lex.textByte = true) ∧ s.length = 24 ∧ s.getD 0 und = und ∧ s.getD 1 und = .str u ∧ s.getD 3 und = .bool false ∧ s.getD 6 und = .int .i64 u.length ∧ s.getD 7 und = .int .i64 z
theorem tpI_lit {u : List UInt8} {k : Nat} {s : List V} {h : Heap} (hI : tpI u k s h) : ∃ (i : Nat) (z : Int) (x : Nat → V), (i + k = u.length ∧ z = i ∧ (u.take i).all Lex.textByte = true) ∧
    s = [und, .str u, x 2, .bool false, x 4, x 5, .int .i64 u.length, .int .i64 z, x 8, x 9, x 10, x 11, x 12, x 13, x 14, x 15, x 16, x 17, x 18, x 19, x 20, x 21, x 22, x 23] := by
  obtain ⟨i, z, hF, hl, e0, e1, e3, e6, e7⟩ := hI
  refine ⟨i, z, fun n => s.getD n und, hF, (lit_of hl).trans ?_⟩
  show [s.getD 0 und, s.getD 1 und, s.getD 2 und, s.getD 3 und, s.getD 4 und, s.getD 5 und, s.getD 6 und, s.getD 7 und, s.getD 8 und, s.getD 9 und, s.getD 10 und, s.getD 11 und, s.getD 12 und, s.getD 13 und, s.getD 14 und, s.getD 15 und, s.getD 16 und, s.getD 17 und, s.getD 18 und, s.getD 19 und, s.getD 20 und, s.getD 21 und, s.getD 22 und, s.getD 23 und] = _
  rw [e0, e1, e3, e6, e7]

theorem isText_has (h : Heap) (u : List UInt8) (hu : u.length ≤ 9223372036854775807) : Has envQ .own 76 [.str u] h (.val (.bool (Lex.isText u)) h) := by
  refine HasP.own (a := [.str u]) (d := fn76) rfl rfl rfl (of_decide_eq_true rfl) ?_
  repeat (first | apply RunP.seq | apply RunP.region | apply RunP.condT rfl | apply RunP.condF rfl | apply RunP.skip | apply RunP.block | apply RunP.exit | apply RunP.ret)
  refine RunP.loop (tpI u) ?_ u.length ⟨0, _, ⟨by omega, rfl, by simp⟩, rfl, rfl, rfl, rfl, rfl, rfl⟩
  intro k st g hI
  obtain ⟨i, z, x, ⟨hik, hz, hall⟩, rfl⟩ := tpI_lit hI
  clear hI
  subst hz
  repeat (first | apply RunP.seq | apply RunP.region | apply RunP.condT rfl | apply RunP.condF rfl | apply RunP.skip | apply RunP.block | apply RunP.exit | apply RunP.ret)
  refine And.intro (fun hlt => ?_) (fun hge => ?_)
  · have hi : i < u.length := by omega
    obtain ⟨c, hc⟩ : ∃ c, u[i]? = some c := ⟨_, List.getElem?_eq_getElem hi⟩
    have hcl : c.toNat < 256 := c.toNat_lt
    repeat (first | apply RunP.seq | apply RunP.region | apply RunP.condT rfl | apply RunP.condF rfl | apply RunP.skip | apply RunP.block | apply RunP.exit | apply RunP.ret)
    refine And.intro (by omega) (Exists.intro c (And.intro hc ?_))
    refine And.intro (fun h1 => ?_) (fun h1 => ?_)
    · repeat (first | apply RunP.seq | apply RunP.region | apply RunP.condT rfl | apply RunP.condF rfl | apply RunP.skip | apply RunP.block | apply RunP.exit | apply RunP.ret)
      exact ⟨rfl, congrArg (fun b => some (V.bool b)) (by unfold Lex.isText; rw [not_all hc (by simp [Lex.textByte]; omega)]; rfl), rfl⟩
    · repeat (first | apply RunP.seq | apply RunP.region | apply RunP.condT rfl | apply RunP.condF rfl | apply RunP.skip | apply RunP.block | apply RunP.exit | apply RunP.ret)
      refine And.intro (by omega) (Exists.intro c (And.intro hc ?_))
      refine And.intro (fun h2 => ?_) (fun h2 => ?_)
      · repeat (first | apply RunP.seq | apply RunP.region | apply RunP.condT rfl | apply RunP.condF rfl | apply RunP.skip | apply RunP.block | apply RunP.exit | apply RunP.ret)
        exact ⟨rfl, congrArg (fun b => some (V.bool b)) (by unfold Lex.isText; rw [not_all hc (by simp [Lex.textByte]; omega)]; rfl), rfl⟩
      · repeat (first | apply RunP.seq | apply RunP.region | apply RunP.condT rfl | apply RunP.condF rfl | apply RunP.skip | apply RunP.block | apply RunP.exit | apply RunP.ret)
        exact ⟨k - 1, by omega, i + 1, _, ⟨by omega, wrapB (by omega), take_all hc hall (by simp [Lex.textByte]; omega)⟩, rfl, rfl, rfl, rfl, rfl, rfl⟩
  · have hi : i = u.length := by omega
    rw [hi, List.take_length] at hall
    repeat (first | apply RunP.seq | apply RunP.region | apply RunP.condT rfl | apply RunP.condF rfl | apply RunP.skip | apply RunP.block | apply RunP.exit | apply RunP.ret)
    refine And.intro (fun h1 => ?_) (fun h1 => ?_)
    · repeat (first | apply RunP.seq | apply RunP.region | apply RunP.condT rfl | apply RunP.condF rfl | apply RunP.skip | apply RunP.block | apply RunP.exit | apply RunP.ret)
      exact ⟨rfl, congrArg (fun b => some (V.bool b)) (by unfold Lex.isText; rw [hall]; simp; omega), rfl⟩
    · repeat (first | apply RunP.seq | apply RunP.region | apply RunP.condT rfl | apply RunP.condF rfl | apply RunP.skip | apply RunP.block | apply RunP.exit | apply RunP.ret)
      exact ⟨rfl, congrArg (fun b => some (V.bool b)) (by unfold Lex.isText; rw [hall]; simp; omega), rfl⟩
def trI (u : List UInt8) (k : Nat) (s : List V) (h : Heap) : Prop :=
  ∃ (i : Nat) (z : Int), (i + k = u.length ∧ z = i ∧ (u.take i).all Lex.textByte = true) ∧ s.length = 24 ∧ s.getD 0 und = und ∧ s.getD 1 und = .str u ∧ s.getD 3 und = .bool false ∧ s.getD 4 und = .int .i64 z
theorem trI_lit {u : List UInt8} {k : Nat} {s : List V} {h : Heap} (hI : trI u k s h) : ∃ (i : Nat) (z : Int) (x : Nat → V), (i + k = u.length ∧ z = i ∧ (u.take i).all Lex.textByte = true) ∧
    s = [und, .str u, x 2, .bool false, .int .i64 z, x 5, x 6, x 7, x 8, x 9, x 10, x 11, x 12, x 13, x 14, x 15, x 16, x 17, x 18, x 19, x 20, x 21, x 22, x 23] := by
  obtain ⟨i, z, hF, hl, e0, e1, e3, e4⟩ := hI
  refine ⟨i, z, fun n => s.getD n und, hF, (lit_of hl).trans ?_⟩
  show [s.getD 0 und, s.getD 1 und, s.getD 2 und, s.getD 3 und, s.getD 4 und, s.getD 5 und, s.getD 6 und, s.getD 7 und, s.getD 8 und, s.getD 9 und, s.getD 10 und, s.getD 11 und, s.getD 12 und, s.getD 13 und, s.getD 14 und, s.getD 15 und, s.getD 16 und, s.getD 17 und, s.getD 18 und, s.getD 19 und, s.getD 20 und, s.getD 21 und, s.getD 22 und, s.getD 23 und] = _
  rw [e0, e1, e3, e4]

theorem refIsText_has (h : Heap) (u : List UInt8) (hu : u.length ≤ 9223372036854775807) : Has envQ .own 166 [.str u] h (.val (.bool (Lex.isText u)) h) := by
  refine HasP.own (a := [.str u]) (d := fn166) rfl rfl rfl (of_decide_eq_true rfl) ?_
  repeat (first | apply RunP.seq | apply RunP.region | apply RunP.condT rfl | apply RunP.condF rfl | apply RunP.skip | apply RunP.block | apply RunP.exit | apply RunP.ret)
  refine RunP.loop (trI u) ?_ u.length ⟨0, _, ⟨by omega, rfl, by simp⟩, rfl, rfl, rfl, rfl, rfl⟩
  intro k st g hI
  obtain ⟨i, z, x, ⟨hik, hz, hall⟩, rfl⟩ := trI_lit hI
  clear hI
  subst hz
  repeat (first | apply RunP.seq | apply RunP.region | apply RunP.condT rfl | apply RunP.condF rfl | apply RunP.skip | apply RunP.block | apply RunP.exit | apply RunP.ret)
  refine And.intro (fun hlt => ?_) (fun hge => ?_)
  · have hi : i < u.length := by omega
    obtain ⟨c, hc⟩ : ∃ c, u[i]? = some c := ⟨_, List.getElem?_eq_getElem hi⟩
    have hcl : c.toNat < 256 := c.toNat_lt
    repeat (first | apply RunP.seq | apply RunP.region | apply RunP.condT rfl | apply RunP.condF rfl | apply RunP.skip | apply RunP.block | apply RunP.exit | apply RunP.ret)
    refine And.intro (by omega) (Exists.intro c (And.intro hc ?_))
    refine And.intro (fun h1 => ?_) (fun h1 => ?_)
    · repeat (first | apply RunP.seq | apply RunP.region | apply RunP.condT rfl | apply RunP.condF rfl | apply RunP.skip | apply RunP.block | apply RunP.exit | apply RunP.ret)
      exact ⟨rfl, congrArg (fun b => some (V.bool b)) (by unfold Lex.isText; rw [not_all hc (by simp [Lex.textByte]; omega)]; rfl), rfl⟩
    · repeat (first | apply RunP.seq | apply RunP.region | apply RunP.condT rfl | apply RunP.condF rfl | apply RunP.skip | apply RunP.block | apply RunP.exit | apply RunP.ret)
      refine And.intro (by omega) (Exists.intro c (And.intro hc ?_))
      refine And.intro (fun h2 => ?_) (fun h2 => ?_)
      · repeat (first | apply RunP.seq | apply RunP.region | apply RunP.condT rfl | apply RunP.condF rfl | apply RunP.skip | apply RunP.block | apply RunP.exit | apply RunP.ret)
        exact ⟨rfl, congrArg (fun b => some (V.bool b)) (by unfold Lex.isText; rw [not_all hc (by simp [Lex.textByte]; omega)]; rfl), rfl⟩
      · repeat (first | apply RunP.seq | apply RunP.region | apply RunP.condT rfl | apply RunP.condF rfl | apply RunP.skip | apply RunP.block | apply RunP.exit | apply RunP.ret)
        exact ⟨k - 1, by omega, i + 1, _, ⟨by omega, wrapB (by omega), take_all hc hall (by simp [Lex.textByte]; omega)⟩, rfl, rfl, rfl, rfl, rfl⟩
  · have hi : i = u.length := by omega
    rw [hi, List.take_length] at hall
    repeat (first | apply RunP.seq | apply RunP.region | apply RunP.condT rfl | apply RunP.condF rfl | apply RunP.skip | apply RunP.block | apply RunP.exit | apply RunP.ret)
    refine And.intro (fun h1 => ?_) (fun h1 => ?_)
    · repeat (first | apply RunP.seq | apply RunP.region | apply RunP.condT rfl | apply RunP.condF rfl | apply RunP.skip | apply RunP.block | apply RunP.exit | apply RunP.ret)
      exact ⟨rfl, congrArg (fun b => some (V.bool b)) (by unfold Lex.isText; rw [hall]; simp; omega), rfl⟩
    · repeat (first | apply RunP.seq | apply RunP.region | apply RunP.condT rfl | apply RunP.condF rfl | apply RunP.skip | apply RunP.block | apply RunP.exit | apply RunP.ret)
      exact ⟨rfl, congrArg (fun b => some (V.bool b)) (by unfold Lex.isText; rw [hall]; simp; omega), rfl⟩
end Go.Proofs.YtkjhnpmgieplgaaGreatDoor

/- Words, names, quotes: the program's and the reference's. -/

namespace Go.Proofs.YtkjhnpmgieplgaaGreatDoor
open Go.Sb
set_option maxRecDepth 100000

theorem words_told (h : Heap) : Has envQ .own 182 [] h (.val (.lst 1 (Lex.words.map V.str)) h) := Has.told (E := envQ) (a := []) (p := tellWords) rfl rfl rfl rfl
theorem refWords_has (h : Heap) : Has envQ .own 165 [] h (.val (.lst 1 (Lex.words.map V.str)) h) := by
  have e : ∃ v, Has envQ .own 165 [] h (.val v h) ∧ v = .lst 1 (Lex.words.map V.str) := by
    refine HasP.ownE (a := []) (d := fn165) rfl rfl rfl (of_decide_eq_true rfl) ?_
    repeat (first | apply RunP.seq | apply RunP.region | apply RunP.condT rfl | apply RunP.condF rfl | apply RunP.skip | apply RunP.block | apply RunP.exit | apply RunP.ret)
    exact ⟨rfl, _, rfl, rfl, rfl⟩
  obtain ⟨v, h1, rfl⟩ := e
  exact h1
abbrev Bs := List UInt8
def ixI (ws : List Bs) (v : Bs) (k : Nat) (s : List V) (h : Heap) : Prop :=
  ∃ (i : Nat) (z : Int), (i + k = ws.length ∧ z = i ∧ v ∉ ws.take i) ∧ s.length = 20 ∧ s.getD 0 und = und ∧ s.getD 1 und = .lst 1 (ws.map V.str) ∧ s.getD 2 und = .str v ∧ s.getD 8 und = .int .i64 (ws.map V.str).length ∧ s.getD 9 und = .int .i64 z
theorem ixI_lit {ws : List Bs} {v : Bs} {k : Nat} {s : List V} {h : Heap} (hI : ixI ws v k s h) : ∃ (i : Nat) (z : Int) (x : Nat → V), (i + k = ws.length ∧ z = i ∧ v ∉ ws.take i) ∧
    s = [und, .lst 1 (ws.map V.str), .str v, x 3, x 4, x 5, x 6, x 7, .int .i64 (ws.map V.str).length, .int .i64 z, x 10, x 11, x 12, x 13, x 14, x 15, x 16, x 17, x 18, x 19] := by
  obtain ⟨i, z, hF, hl, e0, e1, e2, e8, e9⟩ := hI
  refine ⟨i, z, fun n => s.getD n und, hF, (lit_of hl).trans ?_⟩
  show [s.getD 0 und, s.getD 1 und, s.getD 2 und, s.getD 3 und, s.getD 4 und, s.getD 5 und, s.getD 6 und, s.getD 7 und, s.getD 8 und, s.getD 9 und, s.getD 10 und, s.getD 11 und, s.getD 12 und, s.getD 13 und, s.getD 14 und, s.getD 15 und, s.getD 16 und, s.getD 17 und, s.getD 18 und, s.getD 19 und] = _
  rw [e0, e1, e2, e8, e9]

theorem take_not {v w : List UInt8} {ws : List (List UInt8)} {i : Nat} (hw : ws[i]? = some w) (h : v ∉ ws.take i) (hne : v ≠ w) : v ∉ ws.take (i + 1) := by
  rw [List.take_add_one, hw]
  simp only [Option.toList_some, List.mem_append, List.mem_singleton, not_or]
  exact ⟨h, hne⟩
theorem index_has (h : Heap) (ws : List (List UInt8)) (v : List UInt8) (hl : ws.length ≤ 2 ^ 40) : ∃ r, Has envQ .own 187 [.lst 1 (ws.map V.str), .str v] h (.val r h) ∧ ∃ n : Int, r = .int .i64 n ∧ (0 ≤ n ↔ v ∈ ws) := by
  refine HasP.ownE (a := [.lst 1 (ws.map V.str), .str v]) (d := fn187) rfl rfl rfl (of_decide_eq_true rfl) ?_
  repeat (first | apply RunP.seq | apply RunP.region | apply RunP.condT rfl | apply RunP.condF rfl | apply RunP.skip | apply RunP.block | apply RunP.exit | apply RunP.ret)
  refine RunP.loop (ixI ws v) ?_ ws.length ⟨0, _, ⟨by omega, rfl, by simp⟩, rfl, rfl, rfl, rfl, rfl, rfl⟩
  intro k st g hI
  obtain ⟨i, z, x, ⟨hik, hz, hnot⟩, rfl⟩ := ixI_lit hI
  clear hI
  subst hz
  repeat (first | apply RunP.seq | apply RunP.region | apply RunP.condT rfl | apply RunP.condF rfl | apply RunP.skip | apply RunP.block | apply RunP.exit | apply RunP.ret)
  refine And.intro (fun hlt => ?_) (fun hge => ?_)
  · have hi : i < ws.length := by simpa using hlt
    obtain ⟨w, hw⟩ : ∃ w, ws[i]? = some w := ⟨_, List.getElem?_eq_getElem hi⟩
    repeat (first | apply RunP.seq | apply RunP.region | apply RunP.condT rfl | apply RunP.condF rfl | apply RunP.skip | apply RunP.block | apply RunP.exit | apply RunP.ret)
    refine And.intro (by omega) (And.intro rfl (Exists.intro (V.str w) (And.intro (by rw [List.getElem?_map]; simp [hw]) ?_)))
    refine And.intro (fun he => ?_) (fun hne => ?_)
    · repeat (first | apply RunP.seq | apply RunP.region | apply RunP.condT rfl | apply RunP.condF rfl | apply RunP.skip | apply RunP.block | apply RunP.exit | apply RunP.ret)
      exact ⟨rfl, _, rfl, rfl, _, rfl, fun _ => by rw [he]; exact List.mem_of_getElem? hw, fun _ => by omega⟩
    · repeat (first | apply RunP.seq | apply RunP.region | apply RunP.condT rfl | apply RunP.condF rfl | apply RunP.skip | apply RunP.block | apply RunP.exit | apply RunP.ret)
      exact ⟨k - 1, by omega, i + 1, _, ⟨by omega, wrap1 (by omega), take_not hw hnot hne⟩, rfl, rfl, rfl, rfl, rfl, rfl⟩
  · have hi : i = ws.length := by simp at hge; omega
    rw [hi, List.take_length] at hnot
    repeat (first | apply RunP.seq | apply RunP.region | apply RunP.condT rfl | apply RunP.condF rfl | apply RunP.skip | apply RunP.block | apply RunP.exit | apply RunP.ret)
    exact ⟨rfl, _, rfl, rfl, _, rfl, fun h0 => absurd h0 (by decide), fun hm => absurd hm hnot⟩
theorem contains_has (h : Heap) (ws : List (List UInt8)) (v : List UInt8) (hl : ws.length ≤ 2 ^ 40) : Has envQ .own 181 [.lst 1 (ws.map V.str), .str v] h (.val (.bool (ws.contains v)) h) := by
  refine HasP.own (a := [.lst 1 (ws.map V.str), .str v]) (d := fn181) rfl rfl rfl (of_decide_eq_true rfl) ?_
  obtain ⟨r, hr, n, rfl, hn⟩ := index_has [] ws v hl
  repeat (first | apply RunP.seq | apply RunP.region | apply RunP.condT rfl | apply RunP.condF rfl | apply RunP.skip | apply RunP.block | apply RunP.exit | apply RunP.ret)
  refine CallK.of hr ?_
  refine And.intro (fun h0 => ?_) (fun h0 => ?_)
  · repeat (first | apply RunP.seq | apply RunP.region | apply RunP.condT rfl | apply RunP.condF rfl | apply RunP.skip | apply RunP.block | apply RunP.exit | apply RunP.ret)
    exact ⟨rfl, congrArg (fun b => some (V.bool b)) (by simp [hn.1 h0]), rfl⟩
  · repeat (first | apply RunP.seq | apply RunP.region | apply RunP.condT rfl | apply RunP.condF rfl | apply RunP.skip | apply RunP.block | apply RunP.exit | apply RunP.ret)
    exact ⟨rfl, congrArg (fun b => some (V.bool b)) (by simp; exact fun hm => by have := hn.2 hm; omega), rfl⟩
theorem isWord_has (h : Heap) (v : List UInt8) : Has envQ .own 159 [.str v] h (.val (.bool (Lex.isWord v)) h) := by
  refine HasP.own (a := [.str v]) (d := fn159) rfl rfl rfl (of_decide_eq_true rfl) ?_
  repeat (first | apply RunP.seq | apply RunP.region | apply RunP.condT rfl | apply RunP.condF rfl | apply RunP.skip | apply RunP.block | apply RunP.exit | apply RunP.ret)
  refine CallK.of (words_told _) ?_
  refine CallK.of (contains_has _ Lex.words v (by decide)) ?_
  repeat (first | apply RunP.seq | apply RunP.region | apply RunP.condT rfl | apply RunP.condF rfl | apply RunP.skip | apply RunP.block | apply RunP.exit | apply RunP.ret)
  exact ⟨rfl, rfl, rfl⟩
end Go.Proofs.YtkjhnpmgieplgaaGreatDoor

/- Names and quotes: the program's and the reference's. -/

namespace Go.Proofs.YtkjhnpmgieplgaaGreatDoor
open Go.Sb
set_option maxRecDepth 100000
def rwI (v : Bs) (k : Nat) (s : List V) (h : Heap) : Prop :=
  ∃ (i : Nat) (z : Int), (i + k = Lex.words.length ∧ z = i ∧ v ∉ Lex.words.take i) ∧ s.length = 19 ∧ s.getD 0 und = und ∧ s.getD 1 und = .str v ∧ s.getD 4 und = .lst 1 (Lex.words.map V.str) ∧ s.getD 5 und = .int .i64 z
theorem rwI_lit {v : Bs} {k : Nat} {s : List V} {h : Heap} (hI : rwI v k s h) : ∃ (i : Nat) (z : Int) (x : Nat → V), (i + k = Lex.words.length ∧ z = i ∧ v ∉ Lex.words.take i) ∧
    s = [und, .str v, x 2, x 3, .lst 1 (Lex.words.map V.str), .int .i64 z, x 6, x 7, x 8, x 9, x 10, x 11, x 12, x 13, x 14, x 15, x 16, x 17, x 18] := by
  obtain ⟨i, z, hF, hl, e0, e1, e4, e5⟩ := hI
  refine ⟨i, z, fun n => s.getD n und, hF, (lit_of hl).trans ?_⟩
  show [s.getD 0 und, s.getD 1 und, s.getD 2 und, s.getD 3 und, s.getD 4 und, s.getD 5 und, s.getD 6 und, s.getD 7 und, s.getD 8 und, s.getD 9 und, s.getD 10 und, s.getD 11 und, s.getD 12 und, s.getD 13 und, s.getD 14 und, s.getD 15 und, s.getD 16 und, s.getD 17 und, s.getD 18 und] = _
  rw [e0, e1, e4, e5]

theorem refIsWord_has (h : Heap) (v : List UInt8) : Has envQ .own 121 [.str v] h (.val (.bool (Lex.isWord v)) h) := by
  refine HasP.own (a := [.str v]) (d := fn121) rfl rfl rfl (of_decide_eq_true rfl) ?_
  have hlen : Lex.words.length = 46 := rfl
  repeat (first | apply RunP.seq | apply RunP.region | apply RunP.condT rfl | apply RunP.condF rfl | apply RunP.skip | apply RunP.block | apply RunP.exit | apply RunP.ret)
  refine CallK.of (refWords_has _) ?_
  repeat (first | apply RunP.seq | apply RunP.region | apply RunP.condT rfl | apply RunP.condF rfl | apply RunP.skip | apply RunP.block | apply RunP.exit | apply RunP.ret)
  refine RunP.loop (rwI v) ?_ Lex.words.length ⟨0, _, ⟨rfl, rfl, by simp⟩, rfl, rfl, rfl, rfl, rfl⟩
  intro k st g hI
  obtain ⟨i, z, x, ⟨hik, hz, hnot⟩, rfl⟩ := rwI_lit hI
  clear hI
  subst hz
  repeat (first | apply RunP.seq | apply RunP.region | apply RunP.condT rfl | apply RunP.condF rfl | apply RunP.skip | apply RunP.block | apply RunP.exit | apply RunP.ret)
  refine And.intro (fun hlt => ?_) (fun hge => ?_)
  · have hi : i < Lex.words.length := by simpa using hlt
    obtain ⟨w, hw⟩ : ∃ w, Lex.words[i]? = some w := ⟨_, List.getElem?_eq_getElem hi⟩
    repeat (first | apply RunP.seq | apply RunP.region | apply RunP.condT rfl | apply RunP.condF rfl | apply RunP.skip | apply RunP.block | apply RunP.exit | apply RunP.ret)
    refine And.intro (by omega) (And.intro rfl (Exists.intro (V.str w) (And.intro (by rw [List.getElem?_map]; simp [hw]) ?_)))
    refine And.intro (fun he => ?_) (fun hne => ?_)
    · repeat (first | apply RunP.seq | apply RunP.region | apply RunP.condT rfl | apply RunP.condF rfl | apply RunP.skip | apply RunP.block | apply RunP.exit | apply RunP.ret)
      exact ⟨rfl, congrArg (fun b => some (V.bool b)) (by unfold Lex.isWord; rw [← he]; simp; exact List.mem_of_getElem? hw), rfl⟩
    · repeat (first | apply RunP.seq | apply RunP.region | apply RunP.condT rfl | apply RunP.condF rfl | apply RunP.skip | apply RunP.block | apply RunP.exit | apply RunP.ret)
      exact ⟨k - 1, by omega, i + 1, _, ⟨by omega, wrap1 (by omega), take_not hw hnot (fun e => hne e.symm)⟩, rfl, rfl, rfl, rfl, rfl⟩
  · have hi : i = Lex.words.length := by simp at hge; omega
    rw [hi, List.take_length] at hnot
    repeat (first | apply RunP.seq | apply RunP.region | apply RunP.condT rfl | apply RunP.condF rfl | apply RunP.skip | apply RunP.block | apply RunP.exit | apply RunP.ret)
    exact ⟨rfl, congrArg (fun b => some (V.bool b)) (by unfold Lex.isWord; simp; exact hnot), rfl⟩

def runByte (u : List UInt8) (i : Nat) (c : UInt8) : Bool := Lex.letter c || (decide (i ≠ 0) && Lex.digit c)
/-- The first bytes are such as a name's. -/
def runTo (u : List UInt8) (n : Nat) : Prop := ∀ (i : Nat) (c : UInt8), i < n → u[i]? = some c → runByte u i c = true
theorem runTo_all {u : List UInt8} (h : runTo u u.length) : u = [] ∨ Lex.isRun u = true := by
  cases u with
  | nil => exact .inl rfl
  | cons c r =>
    refine .inr ?_
    have h0 := h 0 c (by simp) rfl
    simp only [runByte] at h0
    simp only [Lex.isRun]
    rw [show Lex.letter c = true from by simpa using h0, Bool.true_and, List.all_eq_true]
    intro d hd
    obtain ⟨i, hi⟩ := List.getElem?_of_mem hd
    have := h (i + 1) d (by have := (List.getElem?_eq_some_iff.1 hi).1; simp; omega) (by simpa using hi)
    simpa [runByte] using this
theorem runTo_not {u : List UInt8} {i : Nat} {c : UInt8} (hc : u[i]? = some c) (h : runByte u i c = false) : Lex.isRun u = false := by
  cases u with
  | nil => rfl
  | cons d r =>
    simp only [Lex.isRun]
    cases i with
    | zero =>
      simp at hc; subst hc
      simp [runByte] at h
      rw [h]; rfl
    | succ i =>
      rw [Bool.and_eq_false_iff]
      refine .inr (not_all (i := i) (by simpa using hc) ?_)
      simpa [runByte] using h
theorem runTo_up {u : List UInt8} {i : Nat} {c : UInt8} (hc : u[i]? = some c) (h : runTo u i) (hp : runByte u i c = true) : runTo u (i + 1) := by
  intro j d hj hd
  by_cases e : j = i
  · subst e; rw [hc] at hd; cases hd; exact hp
  · exact h j d (by omega) hd
def nrI (u : Bs) (k : Nat) (s : List V) (h : Heap) : Prop :=
  ∃ (i : Nat) (z : Int), (i + k = u.length ∧ z = i ∧ runTo u i) ∧ s.length = 29 ∧ s.getD 0 und = und ∧ s.getD 1 und = .str u ∧ s.getD 3 und = .bool false ∧ s.getD 6 und = .int .i64 u.length ∧ s.getD 7 und = .int .i64 z
theorem nrI_lit {u : Bs} {k : Nat} {s : List V} {h : Heap} (hI : nrI u k s h) : ∃ (i : Nat) (z : Int) (x : Nat → V), (i + k = u.length ∧ z = i ∧ runTo u i) ∧
    s = [und, .str u, x 2, .bool false, x 4, x 5, .int .i64 u.length, .int .i64 z, x 8, x 9, x 10, x 11, x 12, x 13, x 14, x 15, x 16, x 17, x 18, x 19, x 20, x 21, x 22, x 23, x 24, x 25, x 26, x 27, x 28] := by
  obtain ⟨i, z, hF, hl, e0, e1, e3, e6, e7⟩ := hI
  refine ⟨i, z, fun n => s.getD n und, hF, (lit_of hl).trans ?_⟩
  show [s.getD 0 und, s.getD 1 und, s.getD 2 und, s.getD 3 und, s.getD 4 und, s.getD 5 und, s.getD 6 und, s.getD 7 und, s.getD 8 und, s.getD 9 und, s.getD 10 und, s.getD 11 und, s.getD 12 und, s.getD 13 und, s.getD 14 und, s.getD 15 und, s.getD 16 und, s.getD 17 und, s.getD 18 und, s.getD 19 und, s.getD 20 und, s.getD 21 und, s.getD 22 und, s.getD 23 und, s.getD 24 und, s.getD 25 und, s.getD 26 und, s.getD 27 und, s.getD 28 und] = _
  rw [e0, e1, e3, e6, e7]

theorem isRun_has (h : Heap) (u : List UInt8) (hu : u.length ≤ 2 ^ 50) : Has envQ .own 169 [.str u] h (.val (.bool (Lex.isRun u)) h) := by
  refine HasP.own (a := [.str u]) (d := fn169) rfl rfl rfl (of_decide_eq_true rfl) ?_
  repeat (first | apply RunP.seq | apply RunP.region | apply RunP.condT rfl | apply RunP.condF rfl | apply RunP.skip | apply RunP.block | apply RunP.exit | apply RunP.ret)
  refine RunP.loop (nrI u) ?_ u.length ⟨0, _, ⟨by omega, rfl, fun j c hj => by omega⟩, rfl, rfl, rfl, rfl, rfl, rfl⟩
  intro k st g hI
  obtain ⟨i, z, x, ⟨hik, hz, hall⟩, rfl⟩ := nrI_lit hI
  clear hI
  subst hz
  repeat (first | apply RunP.seq | apply RunP.region | apply RunP.condT rfl | apply RunP.condF rfl | apply RunP.skip | apply RunP.block | apply RunP.exit | apply RunP.ret)
  refine And.intro (fun hlt => ?_) (fun hge => ?_)
  · have hi : i < u.length := by omega
    obtain ⟨c, hc⟩ : ∃ c, u[i]? = some c := ⟨_, List.getElem?_eq_getElem hi⟩
    repeat (first | apply RunP.seq | apply RunP.region | apply RunP.condT rfl | apply RunP.condF rfl | apply RunP.skip | apply RunP.block | apply RunP.exit | apply RunP.ret)
    refine And.intro (by omega) (Exists.intro c (And.intro hc ?_))
    have hl := isLetter_has g c
    have hd := isDigit_has g c
    cases hL : Lex.letter c
    · rw [hL] at hl
      refine CallK.of hl ?_
      repeat (first | apply RunP.seq | apply RunP.region | apply RunP.condT rfl | apply RunP.condF rfl | apply RunP.skip | apply RunP.block | apply RunP.exit | apply RunP.ret)
      refine And.intro (fun hi0 => ?_) (fun hi0 => ?_)
      · have hi0 : i = 0 := by omega
        cases hD : Lex.digit c
        all_goals (repeat (first | apply RunP.seq | apply RunP.region | apply RunP.condT rfl | apply RunP.condF rfl | apply RunP.skip | apply RunP.block | apply RunP.exit | apply RunP.ret))
        all_goals exact ⟨rfl, congrArg (fun b => some (V.bool b)) (by rw [runTo_not hc (by simp [runByte, hL, hD, hi0])]), rfl⟩
      · have hi0 : i ≠ 0 := by omega
        refine And.intro (by omega) (Exists.intro c (And.intro hc ?_))
        cases hD : Lex.digit c
        · rw [hD] at hd
          refine CallK.of hd ?_
          repeat (first | apply RunP.seq | apply RunP.region | apply RunP.condT rfl | apply RunP.condF rfl | apply RunP.skip | apply RunP.block | apply RunP.exit | apply RunP.ret)
          exact ⟨rfl, congrArg (fun b => some (V.bool b)) (by rw [runTo_not hc (by simp [runByte, hL, hD, hi0])]), rfl⟩
        · rw [hD] at hd
          refine CallK.of hd ?_
          repeat (first | apply RunP.seq | apply RunP.region | apply RunP.condT rfl | apply RunP.condF rfl | apply RunP.skip | apply RunP.block | apply RunP.exit | apply RunP.ret)
          exact ⟨k - 1, by omega, i + 1, _, ⟨by omega, wrap1 (by omega), runTo_up hc hall (by simp [runByte, hD, hi0])⟩, rfl, rfl, rfl, rfl, rfl, rfl⟩
    · rw [hL] at hl
      refine CallK.of hl ?_
      repeat (first | apply RunP.seq | apply RunP.region | apply RunP.condT rfl | apply RunP.condF rfl | apply RunP.skip | apply RunP.block | apply RunP.exit | apply RunP.ret)
      exact ⟨k - 1, by omega, i + 1, _, ⟨by omega, wrap1 (by omega), runTo_up hc hall (by simp [runByte, hL])⟩, rfl, rfl, rfl, rfl, rfl, rfl⟩
  · have hi : i = u.length := by omega
    rw [hi] at hall
    repeat (first | apply RunP.seq | apply RunP.region | apply RunP.condT rfl | apply RunP.condF rfl | apply RunP.skip | apply RunP.block | apply RunP.exit | apply RunP.ret)
    refine And.intro (fun h0 => ?_) (fun h0 => ?_)
    · repeat (first | apply RunP.seq | apply RunP.region | apply RunP.condT rfl | apply RunP.condF rfl | apply RunP.skip | apply RunP.block | apply RunP.exit | apply RunP.ret)
      exact ⟨rfl, congrArg (fun b => some (V.bool b)) (by rw [show u = [] from h0]; rfl), rfl⟩
    · repeat (first | apply RunP.seq | apply RunP.region | apply RunP.condT rfl | apply RunP.condF rfl | apply RunP.skip | apply RunP.block | apply RunP.exit | apply RunP.ret)
      exact ⟨rfl, congrArg (fun b => some (V.bool b)) (by rcases runTo_all hall with e | e; exact absurd e h0; exact e.symm), rfl⟩
def nnI (u : Bs) (k : Nat) (s : List V) (h : Heap) : Prop :=
  ∃ (i : Nat) (z : Int), (i + k = u.length ∧ z = i ∧ runTo u i) ∧ s.length = 40 ∧ s.getD 0 und = und ∧ s.getD 1 und = .str u ∧ s.getD 3 und = .bool false ∧ s.getD 4 und = .int .i64 z
theorem nnI_lit {u : Bs} {k : Nat} {s : List V} {h : Heap} (hI : nnI u k s h) : ∃ (i : Nat) (z : Int) (x : Nat → V), (i + k = u.length ∧ z = i ∧ runTo u i) ∧
    s = [und, .str u, x 2, .bool false, .int .i64 z, x 5, x 6, x 7, x 8, x 9, x 10, x 11, x 12, x 13, x 14, x 15, x 16, x 17, x 18, x 19, x 20, x 21, x 22, x 23, x 24, x 25, x 26, x 27, x 28, x 29, x 30, x 31, x 32, x 33, x 34, x 35, x 36, x 37, x 38, x 39] := by
  obtain ⟨i, z, hF, hl, e0, e1, e3, e4⟩ := hI
  refine ⟨i, z, fun n => s.getD n und, hF, (lit_of hl).trans ?_⟩
  show [s.getD 0 und, s.getD 1 und, s.getD 2 und, s.getD 3 und, s.getD 4 und, s.getD 5 und, s.getD 6 und, s.getD 7 und, s.getD 8 und, s.getD 9 und, s.getD 10 und, s.getD 11 und, s.getD 12 und, s.getD 13 und, s.getD 14 und, s.getD 15 und, s.getD 16 und, s.getD 17 und, s.getD 18 und, s.getD 19 und, s.getD 20 und, s.getD 21 und, s.getD 22 und, s.getD 23 und, s.getD 24 und, s.getD 25 und, s.getD 26 und, s.getD 27 und, s.getD 28 und, s.getD 29 und, s.getD 30 und, s.getD 31 und, s.getD 32 und, s.getD 33 und, s.getD 34 und, s.getD 35 und, s.getD 36 und, s.getD 37 und, s.getD 38 und, s.getD 39 und] = _
  rw [e0, e1, e3, e4]

theorem refIsName_has (h : Heap) (u : List UInt8) (hu : u.length ≤ 2 ^ 50) : Has envQ .own 122 [.str u] h (.val (.bool (Lex.isName u)) h) := by
  refine HasP.own (a := [.str u]) (d := fn122) rfl rfl rfl (of_decide_eq_true rfl) ?_
  repeat (first | apply RunP.seq | apply RunP.region | apply RunP.condT rfl | apply RunP.condF rfl | apply RunP.skip | apply RunP.block | apply RunP.exit | apply RunP.ret)
  refine RunP.loop (nnI u) ?_ u.length ⟨0, _, ⟨by omega, rfl, fun j c hj => by omega⟩, rfl, rfl, rfl, rfl, rfl⟩
  intro k st g hI
  obtain ⟨i, z, x, ⟨hik, hz, hall⟩, rfl⟩ := nnI_lit hI
  clear hI
  subst hz
  repeat (first | apply RunP.seq | apply RunP.region | apply RunP.condT rfl | apply RunP.condF rfl | apply RunP.skip | apply RunP.block | apply RunP.exit | apply RunP.ret)
  refine And.intro (fun hlt => ?_) (fun hge => ?_)
  · have hi : i < u.length := by omega
    obtain ⟨c, hc⟩ : ∃ c, u[i]? = some c := ⟨_, List.getElem?_eq_getElem hi⟩
    repeat (first | apply RunP.seq | apply RunP.region | apply RunP.condT rfl | apply RunP.condF rfl | apply RunP.skip | apply RunP.block | apply RunP.exit | apply RunP.ret)
    refine And.intro (by omega) (Exists.intro c (And.intro hc ?_))
    have hl := refLetter_has g c
    have hd := refDigit_has g c
    cases hL : Lex.letter c
    · rw [hL] at hl
      refine CallK.of hl ?_
      repeat (first | apply RunP.seq | apply RunP.region | apply RunP.condT rfl | apply RunP.condF rfl | apply RunP.skip | apply RunP.block | apply RunP.exit | apply RunP.ret)
      refine And.intro (fun hi0 => ?_) (fun hi0 => ?_)
      · have hi0 : i = 0 := by omega
        cases hD : Lex.digit c
        all_goals (repeat (first | apply RunP.seq | apply RunP.region | apply RunP.condT rfl | apply RunP.condF rfl | apply RunP.skip | apply RunP.block | apply RunP.exit | apply RunP.ret))
        all_goals exact ⟨rfl, congrArg (fun b => some (V.bool b)) (by unfold Lex.isName; rw [runTo_not hc (by simp [runByte, hL, hD, hi0])]; rfl), rfl⟩
      · have hi0 : i ≠ 0 := by omega
        refine And.intro (by omega) (Exists.intro c (And.intro hc ?_))
        cases hD : Lex.digit c
        · rw [hD] at hd
          refine CallK.of hd ?_
          repeat (first | apply RunP.seq | apply RunP.region | apply RunP.condT rfl | apply RunP.condF rfl | apply RunP.skip | apply RunP.block | apply RunP.exit | apply RunP.ret)
          exact ⟨rfl, congrArg (fun b => some (V.bool b)) (by unfold Lex.isName; rw [runTo_not hc (by simp [runByte, hL, hD, hi0])]; rfl), rfl⟩
        · rw [hD] at hd
          refine CallK.of hd ?_
          repeat (first | apply RunP.seq | apply RunP.region | apply RunP.condT rfl | apply RunP.condF rfl | apply RunP.skip | apply RunP.block | apply RunP.exit | apply RunP.ret)
          exact ⟨k - 1, by omega, i + 1, _, ⟨by omega, wrap1 (by omega), runTo_up hc hall (by simp [runByte, hD, hi0])⟩, rfl, rfl, rfl, rfl, rfl⟩
    · rw [hL] at hl
      refine CallK.of hl ?_
      repeat (first | apply RunP.seq | apply RunP.region | apply RunP.condT rfl | apply RunP.condF rfl | apply RunP.skip | apply RunP.block | apply RunP.exit | apply RunP.ret)
      exact ⟨k - 1, by omega, i + 1, _, ⟨by omega, wrap1 (by omega), runTo_up hc hall (by simp [runByte, hL])⟩, rfl, rfl, rfl, rfl, rfl⟩
  · have hi : i = u.length := by omega
    rw [hi] at hall
    repeat (first | apply RunP.seq | apply RunP.region | apply RunP.condT rfl | apply RunP.condF rfl | apply RunP.skip | apply RunP.block | apply RunP.exit | apply RunP.ret)
    refine And.intro (fun h0 => ?_) (fun h0 => ?_)
    · have hr : Lex.isRun u = true := by
        rcases runTo_all hall with e | e
        · rw [e] at h0; simp at h0
        · exact e
      repeat (first | apply RunP.seq | apply RunP.region | apply RunP.condT rfl | apply RunP.condF rfl | apply RunP.skip | apply RunP.block | apply RunP.exit | apply RunP.ret)
      refine And.intro (fun h1 => ?_) (fun h1 => ?_)
      · repeat (first | apply RunP.seq | apply RunP.region | apply RunP.condT rfl | apply RunP.condF rfl | apply RunP.skip | apply RunP.block | apply RunP.exit | apply RunP.ret)
        refine CallK.of (refIsWord_has _ u) ?_
        repeat (first | apply RunP.seq | apply RunP.region | apply RunP.condT rfl | apply RunP.condF rfl | apply RunP.skip | apply RunP.block | apply RunP.exit | apply RunP.ret)
        exact ⟨rfl, congrArg (fun b => some (V.bool b)) (by unfold Lex.isName; rw [hr]; simp; omega), rfl⟩
      · repeat (first | apply RunP.seq | apply RunP.region | apply RunP.condT rfl | apply RunP.condF rfl | apply RunP.skip | apply RunP.block | apply RunP.exit | apply RunP.ret)
        exact ⟨rfl, congrArg (fun b => some (V.bool b)) (by unfold Lex.isName; rw [hr]; simp; omega), rfl⟩
    · have hr : Lex.isRun u = false := by
        have : u = [] := List.length_eq_zero_iff.1 (by omega)
        rw [this]; rfl
      repeat (first | apply RunP.seq | apply RunP.region | apply RunP.condT rfl | apply RunP.condF rfl | apply RunP.skip | apply RunP.block | apply RunP.exit | apply RunP.ret)
      exact ⟨rfl, congrArg (fun b => some (V.bool b)) (by unfold Lex.isName; rw [hr]; rfl), rfl⟩

theorem isName_has (h : Heap) (u : List UInt8) (hu : u.length ≤ 2 ^ 50) : Has envQ .own 140 [.str u] h (.val (.bool (Lex.isName u)) h) := by
  refine HasP.own (a := [.str u]) (d := fn140) rfl rfl rfl (of_decide_eq_true rfl) ?_
  repeat (first | apply RunP.seq | apply RunP.region | apply RunP.condT rfl | apply RunP.condF rfl | apply RunP.skip | apply RunP.block | apply RunP.exit | apply RunP.ret)
  have hr := isRun_has [] u hu
  cases hR : Lex.isRun u
  · rw [hR] at hr
    refine CallK.of hr ?_
    repeat (first | apply RunP.seq | apply RunP.region | apply RunP.condT rfl | apply RunP.condF rfl | apply RunP.skip | apply RunP.block | apply RunP.exit | apply RunP.ret)
    exact ⟨rfl, congrArg (fun b => some (V.bool b)) (by unfold Lex.isName; rw [hR]; rfl), rfl⟩
  · rw [hR] at hr
    refine CallK.of hr ?_
    repeat (first | apply RunP.seq | apply RunP.region | apply RunP.condT rfl | apply RunP.condF rfl | apply RunP.skip | apply RunP.block | apply RunP.exit | apply RunP.ret)
    refine And.intro (fun h1 => ?_) (fun h1 => ?_)
    · repeat (first | apply RunP.seq | apply RunP.region | apply RunP.condT rfl | apply RunP.condF rfl | apply RunP.skip | apply RunP.block | apply RunP.exit | apply RunP.ret)
      refine CallK.of (isWord_has _ u) ?_
      repeat (first | apply RunP.seq | apply RunP.region | apply RunP.condT rfl | apply RunP.condF rfl | apply RunP.skip | apply RunP.block | apply RunP.exit | apply RunP.ret)
      exact ⟨rfl, congrArg (fun b => some (V.bool b)) (by unfold Lex.isName; rw [hR]; simp; omega), rfl⟩
    · repeat (first | apply RunP.seq | apply RunP.region | apply RunP.condT rfl | apply RunP.condF rfl | apply RunP.skip | apply RunP.block | apply RunP.exit | apply RunP.ret)
      exact ⟨rfl, congrArg (fun b => some (V.bool b)) (by unfold Lex.isName; rw [hR]; simp; omega), rfl⟩
end Go.Proofs.YtkjhnpmgieplgaaGreatDoor
