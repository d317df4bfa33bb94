/- Words, names, quotes: the program's and the reference's. -/
import Derived.Test.YtkjhnpmgieplgaaGreatDoorSbLex1
import Derived.Test.YtkjhnpmgieplgaaGreatDoorSbBytes
set_option linter.unusedVariables false
set_option linter.unusedSimpArgs false
namespace Go.Proofs.YtkjhnpmgieplgaaGreatDoor
open Go.Sb
set_option maxRecDepth 100000

theorem words_told (h : Heap) : Has envQ .own 182 [] h (.val (.lst 1 (Lex.words.map V.str)) h) := Has.told (E := envQ) (a := []) (p := tellWords) rfl rfl rfl rfl
theorem refWords_run : callN envQ 20 .own 165 [] [] = some (.val (.lst 1 (Lex.words.map V.str)) []) := by kernel_rfl
theorem refWords_has (h : Heap) : Has envQ .own 165 [] h (.val (.lst 1 (Lex.words.map V.str)) h) := by
  have e : ∃ v, Has envQ .own 165 [] h (.val v h) ∧ v = .lst 1 (Lex.words.map V.str) := by
    refine HasP.ownE (a := []) (d := fn165) rfl rfl rfl (of_decide_eq_true rfl) ?_
    repeat (first | apply RunP.seq | apply RunP.region | apply RunP.condT rfl | apply RunP.condF rfl | apply RunP.skip | apply RunP.block | apply RunP.exit | apply RunP.ret)
    exact ⟨rfl, _, rfl, rfl, rfl⟩
  obtain ⟨v, h1, rfl⟩ := e
  exact h1
abbrev Bs := List UInt8
def ixI (ws : List Bs) (v : Bs) (k : Nat) (s : List V) (h : Heap) : Prop :=
  ∃ (i : Nat) (z : Int), (i + k = ws.length ∧ z = i ∧ v ∉ ws.take i) ∧ s.length = 20 ∧ s.getD 0 und = und ∧ s.getD 1 und = .lst 1 (ws.map V.str) ∧ s.getD 2 und = .str v ∧ s.getD 8 und = .int .i64 (ws.map V.str).length ∧ s.getD 9 und = .int .i64 z
theorem ixI_lit {ws : List Bs} {v : Bs} {k : Nat} {s : List V} {h : Heap} (hI : ixI ws v k s h) : ∃ (i : Nat) (z : Int) (x : Nat → V), (i + k = ws.length ∧ z = i ∧ v ∉ ws.take i) ∧
    s = [und, .lst 1 (ws.map V.str), .str v, x 3, x 4, x 5, x 6, x 7, .int .i64 (ws.map V.str).length, .int .i64 z, x 10, x 11, x 12, x 13, x 14, x 15, x 16, x 17, x 18, x 19] := by
  obtain ⟨i, z, hF, hl, e0, e1, e2, e8, e9⟩ := hI
  refine ⟨i, z, fun n => s.getD n und, hF, (lit_of hl).trans ?_⟩
  show [s.getD 0 und, s.getD 1 und, s.getD 2 und, s.getD 3 und, s.getD 4 und, s.getD 5 und, s.getD 6 und, s.getD 7 und, s.getD 8 und, s.getD 9 und, s.getD 10 und, s.getD 11 und, s.getD 12 und, s.getD 13 und, s.getD 14 und, s.getD 15 und, s.getD 16 und, s.getD 17 und, s.getD 18 und, s.getD 19 und] = _
  rw [e0, e1, e2, e8, e9]

theorem take_not {v w : List UInt8} {ws : List (List UInt8)} {i : Nat} (hw : ws[i]? = some w) (h : v ∉ ws.take i) (hne : v ≠ w) : v ∉ ws.take (i + 1) := by
  rw [List.take_add_one, hw]
  simp only [Option.toList_some, List.mem_append, List.mem_singleton, not_or]
  exact ⟨h, hne⟩
theorem index_has (h : Heap) (ws : List (List UInt8)) (v : List UInt8) (hl : ws.length ≤ 2 ^ 40) : ∃ r, Has envQ .own 187 [.lst 1 (ws.map V.str), .str v] h (.val r h) ∧ ∃ n : Int, r = .int .i64 n ∧ (0 ≤ n ↔ v ∈ ws) := by
  refine HasP.ownE (a := [.lst 1 (ws.map V.str), .str v]) (d := fn187) rfl rfl rfl (of_decide_eq_true rfl) ?_
  repeat (first | apply RunP.seq | apply RunP.region | apply RunP.condT rfl | apply RunP.condF rfl | apply RunP.skip | apply RunP.block | apply RunP.exit | apply RunP.ret)
  refine RunP.loop (ixI ws v) ?_ ws.length ⟨0, _, ⟨by omega, rfl, by simp⟩, rfl, rfl, rfl, rfl, rfl, rfl⟩
  intro k st g hI
  obtain ⟨i, z, x, ⟨hik, hz, hnot⟩, rfl⟩ := ixI_lit hI
  clear hI
  subst hz
  repeat (first | apply RunP.seq | apply RunP.region | apply RunP.condT rfl | apply RunP.condF rfl | apply RunP.skip | apply RunP.block | apply RunP.exit | apply RunP.ret)
  refine And.intro (fun hlt => ?_) (fun hge => ?_)
  · have hi : i < ws.length := by simpa using hlt
    obtain ⟨w, hw⟩ : ∃ w, ws[i]? = some w := ⟨_, List.getElem?_eq_getElem hi⟩
    repeat (first | apply RunP.seq | apply RunP.region | apply RunP.condT rfl | apply RunP.condF rfl | apply RunP.skip | apply RunP.block | apply RunP.exit | apply RunP.ret)
    refine And.intro (by omega) (And.intro rfl (Exists.intro (V.str w) (And.intro (by rw [List.getElem?_map]; simp [hw]) ?_)))
    refine And.intro (fun he => ?_) (fun hne => ?_)
    · repeat (first | apply RunP.seq | apply RunP.region | apply RunP.condT rfl | apply RunP.condF rfl | apply RunP.skip | apply RunP.block | apply RunP.exit | apply RunP.ret)
      exact ⟨rfl, _, rfl, rfl, _, rfl, fun _ => by rw [he]; exact List.mem_of_getElem? hw, fun _ => by omega⟩
    · repeat (first | apply RunP.seq | apply RunP.region | apply RunP.condT rfl | apply RunP.condF rfl | apply RunP.skip | apply RunP.block | apply RunP.exit | apply RunP.ret)
      exact ⟨k - 1, by omega, i + 1, _, ⟨by omega, wrap1 (by omega), take_not hw hnot hne⟩, rfl, rfl, rfl, rfl, rfl, rfl⟩
  · have hi : i = ws.length := by simp at hge; omega
    rw [hi, List.take_length] at hnot
    repeat (first | apply RunP.seq | apply RunP.region | apply RunP.condT rfl | apply RunP.condF rfl | apply RunP.skip | apply RunP.block | apply RunP.exit | apply RunP.ret)
    exact ⟨rfl, _, rfl, rfl, _, rfl, fun h0 => absurd h0 (by decide), fun hm => absurd hm hnot⟩
theorem contains_has (h : Heap) (ws : List (List UInt8)) (v : List UInt8) (hl : ws.length ≤ 2 ^ 40) : Has envQ .own 181 [.lst 1 (ws.map V.str), .str v] h (.val (.bool (ws.contains v)) h) := by
  refine HasP.own (a := [.lst 1 (ws.map V.str), .str v]) (d := fn181) rfl rfl rfl (of_decide_eq_true rfl) ?_
  obtain ⟨r, hr, n, rfl, hn⟩ := index_has [] ws v hl
  repeat (first | apply RunP.seq | apply RunP.region | apply RunP.condT rfl | apply RunP.condF rfl | apply RunP.skip | apply RunP.block | apply RunP.exit | apply RunP.ret)
  refine CallK.of hr ?_
  refine And.intro (fun h0 => ?_) (fun h0 => ?_)
  · repeat (first | apply RunP.seq | apply RunP.region | apply RunP.condT rfl | apply RunP.condF rfl | apply RunP.skip | apply RunP.block | apply RunP.exit | apply RunP.ret)
    exact ⟨rfl, congrArg (fun b => some (V.bool b)) (by simp [hn.1 h0]), rfl⟩
  · repeat (first | apply RunP.seq | apply RunP.region | apply RunP.condT rfl | apply RunP.condF rfl | apply RunP.skip | apply RunP.block | apply RunP.exit | apply RunP.ret)
    exact ⟨rfl, congrArg (fun b => some (V.bool b)) (by simp; exact fun hm => by have := hn.2 hm; omega), rfl⟩
theorem isWord_has (h : Heap) (v : List UInt8) : Has envQ .own 159 [.str v] h (.val (.bool (Lex.isWord v)) h) := by
  refine HasP.own (a := [.str v]) (d := fn159) rfl rfl rfl (of_decide_eq_true rfl) ?_
  repeat (first | apply RunP.seq | apply RunP.region | apply RunP.condT rfl | apply RunP.condF rfl | apply RunP.skip | apply RunP.block | apply RunP.exit | apply RunP.ret)
  refine CallK.of (words_told _) ?_
  refine CallK.of (contains_has _ Lex.words v (by decide)) ?_
  repeat (first | apply RunP.seq | apply RunP.region | apply RunP.condT rfl | apply RunP.condF rfl | apply RunP.skip | apply RunP.block | apply RunP.exit | apply RunP.ret)
  exact ⟨rfl, rfl, rfl⟩
end Go.Proofs.YtkjhnpmgieplgaaGreatDoor
