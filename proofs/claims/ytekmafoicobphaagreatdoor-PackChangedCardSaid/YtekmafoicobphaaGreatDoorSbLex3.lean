/- Letters, digits, texts: the program's and the reference's. -/
import Derived.Test.YtekmafoicobphaaGreatDoorSb13Base
import Derived.Test.YtekmafoicobphaaGreatDoorSbOwnE
import Derived.Test.YtekmafoicobphaaGreatDoorSbIter
import Derived.Test.YtekmafoicobphaaGreatDoorSbBytes
set_option linter.unusedVariables false
set_option linter.unusedSimpArgs false
namespace Go.Proofs.YtekmafoicobphaaGreatDoor
open Go.Sb
set_option maxRecDepth 100000
theorem wrapS {x : Int} (h0 : -9223372036854775808 ≤ x) (h1 : x ≤ 9223372036854775807) : IntKind.i64.wrap x = x := by
 simp [IntKind.wrap, IntKind.signed, IntKind.bits]; split <;> omega
theorem wrap1 {i : Nat} (h : i ≤ 2 ^ 60) : IntKind.i64.wrap ((i : Int) + 1) = ((i + 1 : Nat) : Int) := by
 rw [wrapS (by omega) (by omega)]; omega
theorem take_all {p : UInt8 → Bool} {u : List UInt8} {i : Nat} {c : UInt8} (hc : u[i]? = some c) (h : (u.take i).all p = true) (hp : p c = true) : (u.take (i + 1)).all p = true := by
 rw [List.take_add_one, List.all_append, h, hc]; simp [hp]
theorem ymy {p : UInt8 → Bool} {u : List UInt8} {i : Nat} {c : UInt8} (hc : u[i]? = some c) (hp : p c = false) : u.all p = false := by
 rw [List.all_eq_false]; exact ⟨c, List.mem_of_getElem? hc, by simp [hp]⟩
theorem ywi (h : Heap) (c : UInt8) : Has envQ .own 132 [.int .u8 c.toNat] h (.val (.bool (Lex.letter c)) h) := by
 refine HasP.own (a := [.int .u8 c.toNat]) (d := fn132) rfl rfl rfl (jT rfl) ?_
 refine jV ?_
 refine jI (fun h1 => ?_) (fun h1 => ?_)
 ·repeat first|apply jZ|apply jA|apply jB|apply jH
  refine jI (fun h2 => ?_) (fun h2 => ?_)
  ·repeat first|apply jZ|apply jA|apply jB|apply jH
   exact ⟨rfl, congrArg (fun b => some (V.bool b)) (by simp [Lex.letter]; omega), rfl⟩
  ·repeat first|apply jZ|apply jA|apply jB|apply jH
   exact ⟨rfl, congrArg (fun b => some (V.bool b)) (by simp [Lex.letter]; omega), rfl⟩
 ·repeat first|apply jZ|apply jA|apply jB|apply jH
  exact ⟨rfl, congrArg (fun b => some (V.bool b)) (by simp [Lex.letter]; omega), rfl⟩
theorem ywj (h : Heap) (c : UInt8) : Has envQ .own 133 [.int .u8 c.toNat] h (.val (.bool (Lex.digit c)) h) := by
 refine HasP.own (a := [.int .u8 c.toNat]) (d := fn133) rfl rfl rfl (jT rfl) ?_
 refine jV ?_
 refine jI (fun h1 => ?_) (fun h1 => ?_)
 ·repeat first|apply jZ|apply jA|apply jB|apply jH
  refine jI (fun h2 => ?_) (fun h2 => ?_)
  ·repeat first|apply jZ|apply jA|apply jB|apply jH
   exact ⟨rfl, congrArg (fun b => some (V.bool b)) (by simp [Lex.digit]; omega), rfl⟩
  ·repeat first|apply jZ|apply jA|apply jB|apply jH
   exact ⟨rfl, congrArg (fun b => some (V.bool b)) (by simp [Lex.digit]; omega), rfl⟩
 ·repeat first|apply jZ|apply jA|apply jB|apply jH
  exact ⟨rfl, congrArg (fun b => some (V.bool b)) (by simp [Lex.digit]; omega), rfl⟩
theorem wrapB {i : Nat} (h : i < 9223372036854775807) : IntKind.i64.wrap ((i : Int) + 1) = ((i + 1 : Nat) : Int) := by
 rw [wrapS (by omega) (by omega)]; omega
def tpI (u : List UInt8) (k : Nat) (s : List V) (h : Heap) : Prop :=
 ∃ (i : Nat) (z : Int), (i + k = u.length ∧ z = i ∧ (u.take i).all Lex.textByte = true) ∧ s.length = 24 ∧ s.getD 0 und = und ∧ s.getD 1 und = .str u ∧ s.getD 3 und = .bool false ∧ s.getD 6 und = .int .i64 u.length ∧ s.getD 7 und = .int .i64 z
theorem tpI_lit {u : List UInt8} {k : Nat} {s : List V} {h : Heap} (hI : tpI u k s h) : ∃ (i : Nat) (z : Int) (x : Nat → V), (i + k = u.length ∧ z = i ∧ (u.take i).all Lex.textByte = true) ∧
  s = [und, .str u, x 2, .bool false, x 4, x 5, .int .i64 u.length, .int .i64 z, x 8, x 9, x 10, x 11, x 12, x 13, x 14, x 15, x 16, x 17, x 18, x 19, x 20, x 21, x 22, x 23] := by
 obtain ⟨i, z, hF, hl, e0, e1, e3, e6, e7⟩ := hI
 refine ⟨i, z, fun n => s.getD n und, hF, (ybd hl).trans ?_⟩
 simp only [List.range, List.range.loop, List.map_cons, List.map_nil]
 rw [e0, e1, e3, e6, e7]
theorem ywk (h : Heap) (u : List UInt8) (hu : u.length ≤ 9223372036854775807) : Has envQ .own 129 [.str u] h (.val (.bool (Lex.isText u)) h) := by
 refine HasP.own (a := [.str u]) (d := fn129) rfl rfl rfl (jT rfl) ?_
 refine jV ?_
 refine RunP.loop (tpI u) ?_ u.length ⟨0, _, ⟨by omega, rfl, by simp⟩, rfl, rfl, rfl, rfl, rfl, rfl⟩
 intro k st g hI
 obtain ⟨i, z, x, ⟨hik, hz, hall⟩, rfl⟩ := tpI_lit hI
 clear hI
 subst hz
 refine jV ?_
 refine jI (fun hlt => ?_) (fun hge => ?_)
 ·have hi : i < u.length := by omega
  obtain ⟨c, hc⟩ : ∃ c, u[i]? = some c := ⟨_, List.getElem?_eq_getElem hi⟩
  have hcl : c.toNat < 256 := c.toNat_lt
  refine jV ?_
  refine jI (by omega) (Exists.intro c (jI hc ?_))
  refine jI (fun h1 => ?_) (fun h1 => ?_)
  ·repeat first|apply jZ|apply jA|apply jB|apply jH
   exact ⟨rfl, congrArg (fun b => some (V.bool b)) (by unfold Lex.isText; rw [ymy hc (by simp [Lex.textByte]; omega)]; rfl), rfl⟩
  ·repeat first|apply jZ|apply jA|apply jB|apply jH
   refine jI (by omega) (Exists.intro c (jI hc ?_))
   refine jI (fun h2 => ?_) (fun h2 => ?_)
   ·repeat first|apply jZ|apply jA|apply jB|apply jH
    exact ⟨rfl, congrArg (fun b => some (V.bool b)) (by unfold Lex.isText; rw [ymy hc (by simp [Lex.textByte]; omega)]; rfl), rfl⟩
   ·repeat first|apply jZ|apply jA|apply jB|apply jH
    exact ⟨k - 1, by omega, i + 1, _, ⟨by omega, wrapB (by omega), take_all hc hall (by simp [Lex.textByte]; omega)⟩, rfl, rfl, rfl, rfl, rfl, rfl⟩
 ·have hi : i = u.length := by omega
  rw [hi, List.take_length] at hall
  refine jV ?_
  refine jI (fun h1 => ?_) (fun h1 => ?_)
  ·repeat first|apply jZ|apply jA|apply jB|apply jH
   exact ⟨rfl, congrArg (fun b => some (V.bool b)) (by unfold Lex.isText; rw [hall]; simp; omega), rfl⟩
  ·repeat first|apply jZ|apply jA|apply jB|apply jH
   exact ⟨rfl, congrArg (fun b => some (V.bool b)) (by unfold Lex.isText; rw [hall]; simp; omega), rfl⟩
end Go.Proofs.YtekmafoicobphaaGreatDoor

/- Words, names, quotes: the program's and the reference's. -/

namespace Go.Proofs.YtekmafoicobphaaGreatDoor
open Go.Sb
set_option maxRecDepth 100000
theorem ywl (h : Heap) : Has envQ .own 135 [] h (.val (.lst 1 (Lex.words.map V.str)) h) := Has.told (E := envQ) (a := []) (p := ymu) rfl rfl rfl rfl
abbrev Bs := List UInt8
def ixI (ws : List Bs) (v : Bs) (k : Nat) (s : List V) (h : Heap) : Prop :=
 ∃ (i : Nat) (z : Int), (i + k = ws.length ∧ z = i ∧ v ∉ ws.take i) ∧ s.length = 20 ∧ s.getD 0 und = und ∧ s.getD 1 und = .lst 1 (ws.map V.str) ∧ s.getD 2 und = .str v ∧ s.getD 8 und = .int .i64 (ws.map V.str).length ∧ s.getD 9 und = .int .i64 z
theorem ixI_lit {ws : List Bs} {v : Bs} {k : Nat} {s : List V} {h : Heap} (hI : ixI ws v k s h) : ∃ (i : Nat) (z : Int) (x : Nat → V), (i + k = ws.length ∧ z = i ∧ v ∉ ws.take i) ∧
  s = [und, .lst 1 (ws.map V.str), .str v, x 3, x 4, x 5, x 6, x 7, .int .i64 (ws.map V.str).length, .int .i64 z, x 10, x 11, x 12, x 13, x 14, x 15, x 16, x 17, x 18, x 19] := by
 obtain ⟨i, z, hF, hl, e0, e1, e2, e8, e9⟩ := hI
 refine ⟨i, z, fun n => s.getD n und, hF, (ybd hl).trans ?_⟩
 simp only [List.range, List.range.loop, List.map_cons, List.map_nil]
 rw [e0, e1, e2, e8, e9]
theorem take_not {v w : List UInt8} {ws : List (List UInt8)} {i : Nat} (hw : ws[i]? = some w) (h : v ∉ ws.take i) (hne : v ≠ w) : v ∉ ws.take (i + 1) := by
 rw [List.take_add_one, hw]
 simp only [Option.toList_some, List.mem_append, List.mem_singleton, not_or]
 exact ⟨h, hne⟩
theorem ywm (h : Heap) (ws : List (List UInt8)) (v : List UInt8) (hl : ws.length ≤ 2 ^ 40) : ∃ r, Has envQ .own 141 [.lst 1 (ws.map V.str), .str v] h (.val r h) ∧ ∃ n : Int, r = .int .i64 n ∧ (0 ≤ n ↔ v ∈ ws) := by
 refine HasP.ownE (a := [.lst 1 (ws.map V.str), .str v]) (d := fn141) rfl rfl rfl (jT rfl) ?_
 refine jV ?_
 refine RunP.loop (ixI ws v) ?_ ws.length ⟨0, _, ⟨by omega, rfl, by simp⟩, rfl, rfl, rfl, rfl, rfl, rfl⟩
 intro k st g hI
 obtain ⟨i, z, x, ⟨hik, hz, hnot⟩, rfl⟩ := ixI_lit hI
 clear hI
 subst hz
 refine jV ?_
 refine jI (fun hlt => ?_) (fun hge => ?_)
 ·have hi : i < ws.length := by simpa using hlt
  obtain ⟨w, hw⟩ : ∃ w, ws[i]? = some w := ⟨_, List.getElem?_eq_getElem hi⟩
  refine jV ?_
  refine jI (by omega) (jI rfl (Exists.intro (V.str w) (jI (by rw [List.getElem?_map]; simp [hw]) ?_)))
  refine jI (fun he => ?_) (fun hne => ?_)
  ·repeat first|apply jZ|apply jA|apply jB|apply jH
   exact ⟨rfl, _, rfl, rfl, _, rfl, fun _ => by rw [he]; exact List.mem_of_getElem? hw, fun _ => by omega⟩
  ·repeat first|apply jZ|apply jA|apply jB|apply jH
   exact ⟨k - 1, by omega, i + 1, _, ⟨by omega, wrap1 (by omega), take_not hw hnot hne⟩, rfl, rfl, rfl, rfl, rfl, rfl⟩
 ·have hi : i = ws.length := by simp at hge; omega
  rw [hi, List.take_length] at hnot
  refine jV ?_
  exact ⟨rfl, _, rfl, rfl, _, rfl, fun h0 => absurd h0 (by decide), fun hm => absurd hm hnot⟩
theorem ywn (h : Heap) (ws : List (List UInt8)) (v : List UInt8) (hl : ws.length ≤ 2 ^ 40) : Has envQ .own 134 [.lst 1 (ws.map V.str), .str v] h (.val (.bool (ws.contains v)) h) := by
 refine HasP.own (a := [.lst 1 (ws.map V.str), .str v]) (d := fn134) rfl rfl rfl (jT rfl) ?_
 obtain ⟨r, hr, n, rfl, hn⟩ := ywm [] ws v hl
 refine jV ?_
 refine CallK.of hr ?_
 refine jI (fun h0 => ?_) (fun h0 => ?_)
 ·repeat first|apply jZ|apply jA|apply jB|apply jH
  exact ⟨rfl, congrArg (fun b => some (V.bool b)) (by simp [hn.1 h0]), rfl⟩
 ·repeat first|apply jZ|apply jA|apply jB|apply jH
  exact ⟨rfl, congrArg (fun b => some (V.bool b)) (by simp; exact fun hm => by have := hn.2 hm; omega), rfl⟩
theorem ywo (h : Heap) (v : List UInt8) : Has envQ .own 116 [.str v] h (.val (.bool (Lex.isWord v)) h) := by
 refine HasP.own (a := [.str v]) (d := fn116) rfl rfl rfl (jT rfl) ?_
 refine jV ?_
 refine CallK.of (ywl _) ?_
 refine CallK.of (ywn _ Lex.words v (by decide)) ?_
 refine jV ?_
 exact ⟨rfl, rfl, rfl⟩
end Go.Proofs.YtekmafoicobphaaGreatDoor

/- Names and quotes: the program's and the reference's. -/

namespace Go.Proofs.YtekmafoicobphaaGreatDoor
open Go.Sb
set_option maxRecDepth 100000
def yef (u : List UInt8) (i : Nat) (c : UInt8) : Bool := Lex.letter c || (decide (i ≠ 0) && Lex.digit c)
def runTo (u : List UInt8) (n : Nat) : Prop := ∀ (i : Nat) (c : UInt8), i < n → u[i]? = some c → yef u i c = true
theorem ywp {u : List UInt8} (h : runTo u u.length) : u = [] ∨ Lex.isRun u = true := by
 cases u with
 | nil => exact .inl rfl
 | cons c r =>
  refine .inr ?_
  have h0 := h 0 c (by simp) rfl
  simp only [yef] at h0
  simp only [Lex.isRun]
  rw [show Lex.letter c = true from by simpa using h0, Bool.true_and, List.all_eq_true]
  intro d hd
  obtain ⟨i, hi⟩ := List.getElem?_of_mem hd
  have := h (i + 1) d (by have := (List.getElem?_eq_some_iff.1 hi).1; simp; omega) (by simpa using hi)
  simpa [yef] using this
theorem yqw {u : List UInt8} {i : Nat} {c : UInt8} (hc : u[i]? = some c) (h : yef u i c = false) : Lex.isRun u = false := by
 cases u with
 | nil => rfl
 | cons d r =>
  simp only [Lex.isRun]
  cases i with
  | zero =>
   simp at hc; subst hc
   simp [yef] at h
   rw [h]; rfl
  | succ i =>
   rw [Bool.and_eq_false_iff]
   refine .inr (ymy (i := i) (by simpa using hc) ?_)
   simpa [yef] using h
theorem yqx {u : List UInt8} {i : Nat} {c : UInt8} (hc : u[i]? = some c) (h : runTo u i) (hp : yef u i c = true) : runTo u (i + 1) := by
 intro j d hj hd
 by_cases e : j = i
 ·subst e; rw [hc] at hd; cases hd; exact hp
 ·exact h j d (by omega) hd
def nrI (u : Bs) (k : Nat) (s : List V) (h : Heap) : Prop :=
 ∃ (i : Nat) (z : Int), (i + k = u.length ∧ z = i ∧ runTo u i) ∧ s.length = 29 ∧ s.getD 0 und = und ∧ s.getD 1 und = .str u ∧ s.getD 3 und = .bool false ∧ s.getD 6 und = .int .i64 u.length ∧ s.getD 7 und = .int .i64 z
theorem nrI_lit {u : Bs} {k : Nat} {s : List V} {h : Heap} (hI : nrI u k s h) : ∃ (i : Nat) (z : Int) (x : Nat → V), (i + k = u.length ∧ z = i ∧ runTo u i) ∧
  s = [und, .str u, x 2, .bool false, x 4, x 5, .int .i64 u.length, .int .i64 z, x 8, x 9, x 10, x 11, x 12, x 13, x 14, x 15, x 16, x 17, x 18, x 19, x 20, x 21, x 22, x 23, x 24, x 25, x 26, x 27, x 28] := by
 obtain ⟨i, z, hF, hl, e0, e1, e3, e6, e7⟩ := hI
 refine ⟨i, z, fun n => s.getD n und, hF, (ybd hl).trans ?_⟩
 simp only [List.range, List.range.loop, List.map_cons, List.map_nil]
 rw [e0, e1, e3, e6, e7]
theorem ywq (h : Heap) (u : List UInt8) (hu : u.length ≤ 2 ^ 50) : Has envQ .own 115 [.str u] h (.val (.bool (Lex.isRun u)) h) := by
 refine HasP.own (a := [.str u]) (d := fn115) rfl rfl rfl (jT rfl) ?_
 refine jV ?_
 refine RunP.loop (nrI u) ?_ u.length ⟨0, _, ⟨by omega, rfl, fun j c hj => by omega⟩, rfl, rfl, rfl, rfl, rfl, rfl⟩
 intro k st g hI
 obtain ⟨i, z, x, ⟨hik, hz, hall⟩, rfl⟩ := nrI_lit hI
 clear hI
 subst hz
 refine jV ?_
 refine jI (fun hlt => ?_) (fun hge => ?_)
 ·have hi : i < u.length := by omega
  obtain ⟨c, hc⟩ : ∃ c, u[i]? = some c := ⟨_, List.getElem?_eq_getElem hi⟩
  refine jV ?_
  refine jI (by omega) (Exists.intro c (jI hc ?_))
  have hl := ywi g c
  have hd := ywj g c
  cases hL : Lex.letter c
  ·rw [hL] at hl
   refine CallK.of hl ?_
   refine jV ?_
   refine jI (fun hi0 => ?_) (fun hi0 => ?_)
   ·have hi0 : i = 0 := by omega
    cases hD : Lex.digit c
    all_goals (repeat first|apply jZ|apply jA|apply jB|apply jH)
    all_goals exact ⟨rfl, congrArg (fun b => some (V.bool b)) (by rw [yqw hc (by simp [yef, hL, hD, hi0])]), rfl⟩
   ·have hi0 : i ≠ 0 := by omega
    refine jI (by omega) (Exists.intro c (jI hc ?_))
    cases hD : Lex.digit c
    ·rw [hD] at hd
     refine CallK.of hd ?_
     refine jV ?_
     exact ⟨rfl, congrArg (fun b => some (V.bool b)) (by rw [yqw hc (by simp [yef, hL, hD, hi0])]), rfl⟩
    ·rw [hD] at hd
     refine CallK.of hd ?_
     refine jV ?_
     exact ⟨k - 1, by omega, i + 1, _, ⟨by omega, wrap1 (by omega), yqx hc hall (by simp [yef, hD, hi0])⟩, rfl, rfl, rfl, rfl, rfl, rfl⟩
  ·rw [hL] at hl
   refine CallK.of hl ?_
   refine jV ?_
   exact ⟨k - 1, by omega, i + 1, _, ⟨by omega, wrap1 (by omega), yqx hc hall (by simp [yef, hL])⟩, rfl, rfl, rfl, rfl, rfl, rfl⟩
 ·have hi : i = u.length := by omega
  rw [hi] at hall
  refine jV ?_
  refine jI (fun h0 => ?_) (fun h0 => ?_)
  ·repeat first|apply jZ|apply jA|apply jB|apply jH
   exact ⟨rfl, congrArg (fun b => some (V.bool b)) (by rw [show u = [] from h0]; rfl), rfl⟩
  ·repeat first|apply jZ|apply jA|apply jB|apply jH
   exact ⟨rfl, congrArg (fun b => some (V.bool b)) (by rcases ywp hall with e | e; exact absurd e h0; exact e.symm), rfl⟩
theorem ywr (h : Heap) (u : List UInt8) (hu : u.length ≤ 2 ^ 50) : Has envQ .own 91 [.str u] h (.val (.bool (Lex.isName u)) h) := by
 refine HasP.own (a := [.str u]) (d := fn91) rfl rfl rfl (jT rfl) ?_
 refine jV ?_
 have hr := ywq [] u hu
 cases hR : Lex.isRun u
 ·rw [hR] at hr
  refine CallK.of hr ?_
  refine jV ?_
  exact ⟨rfl, congrArg (fun b => some (V.bool b)) (by unfold Lex.isName; rw [hR]; rfl), rfl⟩
 ·rw [hR] at hr
  refine CallK.of hr ?_
  refine jV ?_
  refine jI (fun h1 => ?_) (fun h1 => ?_)
  ·repeat first|apply jZ|apply jA|apply jB|apply jH
   refine CallK.of (ywo _ u) ?_
   refine jV ?_
   exact ⟨rfl, congrArg (fun b => some (V.bool b)) (by unfold Lex.isName; rw [hR]; simp; omega), rfl⟩
  ·repeat first|apply jZ|apply jA|apply jB|apply jH
   exact ⟨rfl, congrArg (fun b => some (V.bool b)) (by unfold Lex.isName; rw [hR]; simp; omega), rfl⟩
end Go.Proofs.YtekmafoicobphaaGreatDoor
