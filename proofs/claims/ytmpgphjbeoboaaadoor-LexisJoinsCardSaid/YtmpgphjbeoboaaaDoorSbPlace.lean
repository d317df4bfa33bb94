/- Lines and columns: the program's and the reference's; the laws LexisPlaces, LexisCounted. -/
import Derived.Test.YtmpgphjbeoboaaaDoorSbLexisQuotes
set_option linter.unusedVariables false
set_option linter.unusedSimpArgs false
namespace Go.Proofs.YtmpgphjbeoboaaaDoor
open Go.Sb
set_option maxRecDepth 100000

theorem count_told (h : Heap) (s : List UInt8) (c : UInt8) : Has envQ .own 49 [.str s, .str [c]] h (.val (.int .i64 (s.count c)) h) :=
  Has.told (E := envQ) (a := [.str s, .str [c]]) (p := tellCount) rfl rfl rfl rfl
theorem last_told (h : Heap) (s : List UInt8) (hs : s.length ≤ 1000000) : Has envQ .own 50 [.str s, .str [10]] h (.val (.int .i64 ((s.length : Int) - Lex.colL s)) h) :=
  Has.told (E := envQ) (a := [.str s, .str [10]]) (p := tellLast) rfl rfl (by simp only [tellLast]; rw [if_pos hs]) rfl
/-- What Place answers. -/
def placeV (u : List UInt8) (z : Int) : V := if u.length ≤ 4000 ∧ 0 ≤ z ∧ z ≤ u.length then .tup [.int .i64 (1 + ((u.take z.toNat).count 10 : Nat)), .int .i64 (Lex.colL (u.take z.toNat)), .int .i64 0] else .tup [.int .i64 0, .int .i64 0, .int .i64 2]
theorem placeV_yes {u : List UInt8} {z : Int} (h : u.length ≤ 4000 ∧ 0 ≤ z ∧ z ≤ u.length) : placeV u z = .tup [.int .i64 (1 + ((u.take z.toNat).count 10 : Nat)), .int .i64 (Lex.colL (u.take z.toNat)), .int .i64 0] := by unfold placeV; rw [if_pos h]
theorem placeV_no {u : List UInt8} {z : Int} (h : ¬ (u.length ≤ 4000 ∧ 0 ≤ z ∧ z ≤ u.length)) : placeV u z = .tup [.int .i64 0, .int .i64 0, .int .i64 2] := by unfold placeV; rw [if_neg h]
theorem count_le (u : List UInt8) (c : UInt8) : u.count c ≤ u.length := List.count_le_length
theorem Place_has (h : Heap) (u : List UInt8) (z : Int) (hu : u.length ≤ 2 ^ 40) : Has envQ .own 32 [.str u, .int .i64 z] h (.val (placeV u z) h) := by
  refine HasP.own (a := [.str u, .int .i64 z]) (d := fn32) rfl rfl rfl (of_decide_eq_true rfl) ?_
  repeat (first | apply RunP.seq | apply RunP.region | apply RunP.condT rfl | apply RunP.condF rfl | apply RunP.skip | apply RunP.block | apply RunP.exit | apply RunP.ret)
  refine And.intro (fun h1 => ?_) (fun h1 => ?_)
  · repeat (first | apply RunP.seq | apply RunP.region | apply RunP.condT rfl | apply RunP.condF rfl | apply RunP.skip | apply RunP.block | apply RunP.exit | apply RunP.ret)
    exact ⟨rfl, by rw [placeV_no (by omega)]; rfl, rfl⟩
  repeat (first | apply RunP.seq | apply RunP.region | apply RunP.condT rfl | apply RunP.condF rfl | apply RunP.skip | apply RunP.block | apply RunP.exit | apply RunP.ret)
  refine And.intro (fun h2 => ?_) (fun h2 => ?_)
  · repeat (first | apply RunP.seq | apply RunP.region | apply RunP.condT rfl | apply RunP.condF rfl | apply RunP.skip | apply RunP.block | apply RunP.exit | apply RunP.ret)
    exact ⟨rfl, by rw [placeV_no (by omega)]; rfl, rfl⟩
  repeat (first | apply RunP.seq | apply RunP.region | apply RunP.condT rfl | apply RunP.condF rfl | apply RunP.skip | apply RunP.block | apply RunP.exit | apply RunP.ret)
  refine And.intro (fun h3 => ?_) (fun h3 => ?_)
  · repeat (first | apply RunP.seq | apply RunP.region | apply RunP.condT rfl | apply RunP.condF rfl | apply RunP.skip | apply RunP.block | apply RunP.exit | apply RunP.ret)
    exact ⟨rfl, by rw [placeV_no (by omega)]; rfl, rfl⟩
  repeat (first | apply RunP.seq | apply RunP.region | apply RunP.condT rfl | apply RunP.condF rfl | apply RunP.skip | apply RunP.block | apply RunP.exit | apply RunP.ret)
  obtain ⟨n, rfl⟩ : ∃ n : Nat, z = n := ⟨z.toNat, by omega⟩
  refine And.intro (by omega) ?_
  refine And.intro ⟨by omega, by simp; omega⟩ ?_
  have e : List.drop 0 (List.take ((n : Int)).toNat u) = u.take n := by simp
  rw [e]
  have hl : (u.take n).length = n := by rw [List.length_take]; omega
  repeat (first | apply RunP.seq | apply RunP.region | apply RunP.condT rfl | apply RunP.condF rfl | apply RunP.skip | apply RunP.block | apply RunP.exit | apply RunP.ret)
  refine CallK.of (count_told _ (u.take n) 10) ?_
  refine CallK.of (last_told _ (u.take n) (by omega)) ?_
  have hc := count_le (u.take n) 10
  have hk := Lex.col_take u n (by omega)
  repeat (first | apply RunP.seq | apply RunP.region | apply RunP.condT rfl | apply RunP.condF rfl | apply RunP.skip | apply RunP.block | apply RunP.exit | apply RunP.ret)
  refine ⟨rfl, ?_, rfl⟩
  rw [placeV_yes (by omega), hl]
  have e1 : IntKind.i64.wrap (1 + ((u.take n).count 10 : Nat)) = 1 + ((u.take n).count 10 : Nat) := wrapS (by omega) (by omega)
  have e2 : IntKind.i64.wrap ((n : Int) - ((n : Int) - (Lex.colL (u.take n) : Int))) = Lex.colL (u.take n) := by rw [wrapS (by omega) (by omega)]; omega
  show some (V.tup [.int .i64 (IntKind.i64.wrap (1 + ((u.take n).count 10 : Nat))), .int .i64 (IntKind.i64.wrap ((n : Int) - ((n : Int) - (Lex.colL (u.take n) : Int)))), .int .i64 0]) = _
  rw [e1, e2]; rfl
def rpI (u : Bs) (n : Nat) (k : Nat) (s : List V) (h : Heap) : Prop :=
  ∃ (i : Nat) (z a b : Int), (i + k = n ∧ z = i ∧ a = 1 + ((u.take i).count 10 : Nat) ∧ b = Lex.colL (u.take i)) ∧ s.length = 25 ∧ s.getD 0 und = und ∧ s.getD 1 und = .str u ∧ s.getD 2 und = .int .i64 n ∧ s.getD 7 und = .int .i64 a ∧ s.getD 8 und = .int .i64 b ∧ s.getD 9 und = .int .i64 z
theorem rpI_lit {u : Bs} {n : Nat} {k : Nat} {s : List V} {h : Heap} (hI : rpI u n k s h) : ∃ (i : Nat) (z a b : Int) (x : Nat → V), (i + k = n ∧ z = i ∧ a = 1 + ((u.take i).count 10 : Nat) ∧ b = Lex.colL (u.take i)) ∧
    s = [und, .str u, .int .i64 n, x 3, x 4, x 5, x 6, .int .i64 a, .int .i64 b, .int .i64 z, x 10, x 11, x 12, x 13, x 14, x 15, x 16, x 17, x 18, x 19, x 20, x 21, x 22, x 23, x 24] := by
  obtain ⟨i, z, a, b, hF, hl, e0, e1, e2, e7, e8, e9⟩ := hI
  refine ⟨i, z, a, b, fun n => s.getD n und, hF, (lit_of hl).trans ?_⟩
  show [s.getD 0 und, s.getD 1 und, s.getD 2 und, s.getD 3 und, s.getD 4 und, s.getD 5 und, s.getD 6 und, s.getD 7 und, s.getD 8 und, s.getD 9 und, s.getD 10 und, s.getD 11 und, s.getD 12 und, s.getD 13 und, s.getD 14 und, s.getD 15 und, s.getD 16 und, s.getD 17 und, s.getD 18 und, s.getD 19 und, s.getD 20 und, s.getD 21 und, s.getD 22 und, s.getD 23 und, s.getD 24 und] = _
  rw [e0, e1, e2, e7, e8, e9]

theorem count_take {u : List UInt8} {k : Nat} {c d : UInt8} (hc : u[k]? = some c) : (u.take (k + 1)).count d = (u.take k).count d + if c = d then 1 else 0 := by
  rw [List.take_add_one, hc, List.count_append]
  simp only [Option.toList_some, List.count_singleton]
  by_cases e : c = d
  · simp [e]
  · simp [e]
theorem refPlace_has (h : Heap) (u : List UInt8) (n : Nat) (hu : u.length ≤ 2 ^ 40) (hn : n ≤ u.length) : Has envQ .own 33 [.str u, .int .i64 n] h (.val (.tup [.int .i64 (1 + ((u.take n).count 10 : Nat)), .int .i64 (Lex.colL (u.take n))]) h) := by
  refine HasP.own (a := [.str u, .int .i64 n]) (d := fn33) rfl rfl rfl (of_decide_eq_true rfl) ?_
  repeat (first | apply RunP.seq | apply RunP.region | apply RunP.condT rfl | apply RunP.condF rfl | apply RunP.skip | apply RunP.block | apply RunP.exit | apply RunP.ret)
  refine RunP.loop (rpI u n) ?_ n ⟨0, _, _, _, ⟨by omega, rfl, rfl, rfl⟩, rfl, rfl, rfl, rfl, rfl, rfl, rfl⟩
  intro k st g hI
  obtain ⟨i, z, a, b, x, ⟨hik, hz, ha, hb⟩, rfl⟩ := rpI_lit hI
  clear hI
  subst hz
  have hc0 := count_le (u.take i) 10
  have hk0 := Lex.col_take u i (by omega)
  have hl0 : (u.take i).length = i := by rw [List.length_take]; omega
  repeat (first | apply RunP.seq | apply RunP.region | apply RunP.condT rfl | apply RunP.condF rfl | apply RunP.skip | apply RunP.block | apply RunP.exit | apply RunP.ret)
  refine And.intro (fun hlt => ?_) (fun hge => ?_)
  · obtain ⟨c, hc⟩ : ∃ c, u[i]? = some c := ⟨_, List.getElem?_eq_getElem (by omega)⟩
    repeat (first | apply RunP.seq | apply RunP.region | apply RunP.condT rfl | apply RunP.condF rfl | apply RunP.skip | apply RunP.block | apply RunP.exit | apply RunP.ret)
    refine And.intro (by omega) (Exists.intro c (And.intro hc ?_))
    refine And.intro (fun h1 => ?_) (fun h1 => ?_)
    · have e : c = 10 := UInt8.toNat_inj.1 (show c.toNat = 10 by omega)
      repeat (first | apply RunP.seq | apply RunP.region | apply RunP.condT rfl | apply RunP.condF rfl | apply RunP.skip | apply RunP.block | apply RunP.exit | apply RunP.ret)
      refine ⟨k - 1, by omega, i + 1, _, _, _, ⟨by omega, wrap1 (by omega), ?_, ?_⟩, rfl, rfl, rfl, rfl, rfl, rfl, rfl⟩
      · rw [count_take hc, if_pos e, ha, wrapS (by omega) (by omega)]; omega
      · rw [Lex.colL_take hc, if_pos e]; rfl
    · have e : c ≠ 10 := fun q => h1 (by rw [q]; rfl)
      repeat (first | apply RunP.seq | apply RunP.region | apply RunP.condT rfl | apply RunP.condF rfl | apply RunP.skip | apply RunP.block | apply RunP.exit | apply RunP.ret)
      refine ⟨k - 1, by omega, i + 1, _, _, _, ⟨by omega, wrap1 (by omega), ?_, ?_⟩, rfl, rfl, rfl, rfl, rfl, rfl, rfl⟩
      · rw [count_take hc, if_neg e, ha]; omega
      · rw [Lex.colL_take hc, if_neg e, hb, wrapS (by omega) (by omega)]; omega
  · have hi : i = n := by omega
    subst hi
    repeat (first | apply RunP.seq | apply RunP.region | apply RunP.condT rfl | apply RunP.condF rfl | apply RunP.skip | apply RunP.block | apply RunP.exit | apply RunP.ret)
    refine ⟨rfl, ?_, rfl⟩
    rw [ha, hb]; rfl
theorem brief_has (h : Heap) (u : List UInt8) (hu : u.length ≤ 9223372036854775807) : Has envQ .own 14 [.str u] h (.val (.str (u.take 4001)) h) := by
  refine HasP.own (a := [.str u]) (d := fn14) rfl rfl rfl (of_decide_eq_true rfl) ?_
  repeat (first | apply RunP.seq | apply RunP.region | apply RunP.condT rfl | apply RunP.condF rfl | apply RunP.skip | apply RunP.block | apply RunP.exit | apply RunP.ret)
  apply And.intro
  · split <;> omega
  apply And.intro
  · split <;> omega
  repeat (first | apply RunP.seq | apply RunP.region | apply RunP.condT rfl | apply RunP.condF rfl | apply RunP.skip | apply RunP.block | apply RunP.exit | apply RunP.ret)
  refine ⟨rfl, congrArg (fun b => some (V.str b)) ?_, rfl⟩
  rw [List.drop_zero]
  split
  · rfl
  · rw [List.take_of_length_le (by omega), List.take_of_length_le (by omega)]
theorem lexisPlaces_has (s : List UInt8) (hs : s.length ≤ 9223372036854775807) (z : Int) (hz : -9223372036854775808 ≤ z ∧ z ≤ 9223372036854775807) : Has envQ .own 12 [.str s, .int .i64 z] [] (.val (.bool true) []) := by
  refine HasP.own (a := [.str s, .int .i64 z]) (d := fn12) rfl rfl rfl (of_decide_eq_true rfl) ?_
  repeat (first | apply RunP.seq | apply RunP.region | apply RunP.condT rfl | apply RunP.condF rfl | apply RunP.skip | apply RunP.block | apply RunP.exit | apply RunP.ret)
  refine CallK.of (brief_has _ s hs) ?_
  have hx : (s.take 4001).length ≤ 4001 := by rw [List.length_take]; omega
  generalize s.take 4001 = u at hx ⊢
  repeat (first | apply RunP.seq | apply RunP.region | apply RunP.condT rfl | apply RunP.condF rfl | apply RunP.skip | apply RunP.block | apply RunP.exit | apply RunP.ret)
  have hP := Place_has [] u z (by omega)
  by_cases hg : u.length ≤ 4000 ∧ 0 ≤ z ∧ z ≤ u.length
  · rw [placeV_yes hg] at hP
    refine CallK.of hP ?_
    repeat (first | apply RunP.seq | apply RunP.region | apply RunP.condT rfl | apply RunP.condF rfl | apply RunP.skip | apply RunP.block | apply RunP.exit | apply RunP.ret)
    refine And.intro (fun _ => by omega) (fun _ => ?_)
    refine And.intro (fun _ => by omega) (fun _ => ?_)
    refine And.intro (fun _ => by omega) (fun _ => ?_)
    repeat (first | apply RunP.seq | apply RunP.region | apply RunP.condT rfl | apply RunP.condF rfl | apply RunP.skip | apply RunP.block | apply RunP.exit | apply RunP.ret)
    obtain ⟨n, rfl⟩ : ∃ n : Nat, z = n := ⟨z.toNat, by omega⟩
    refine CallK.of (refPlace_has _ u n (by omega) (by omega)) ?_
    repeat (first | apply RunP.seq | apply RunP.region | apply RunP.condT rfl | apply RunP.condF rfl | apply RunP.skip | apply RunP.block | apply RunP.exit | apply RunP.ret)
    refine And.intro (fun _ => ?_) (fun h => absurd rfl h)
    refine And.intro (fun _ => ?_) (fun h => absurd rfl h)
    refine And.intro (fun _ => ?_) (fun h => absurd rfl h)
    refine CallK.of (awake_told _) ?_
    repeat (first | apply RunP.seq | apply RunP.region | apply RunP.condT rfl | apply RunP.condF rfl | apply RunP.skip | apply RunP.block | apply RunP.exit | apply RunP.ret)
    exact ⟨rfl, rfl, rfl⟩
  · rw [placeV_no hg] at hP
    refine CallK.of hP ?_
    have fin : ∀ (P : Prop), P → P := fun _ h => h
    repeat (first | apply RunP.seq | apply RunP.region | apply RunP.condT rfl | apply RunP.condF rfl | apply RunP.skip | apply RunP.block | apply RunP.exit | apply RunP.ret)
    refine And.intro (fun h1 => ?_) (fun h1 => ?_)
    · repeat (first | apply RunP.seq | apply RunP.region | apply RunP.condT rfl | apply RunP.condF rfl | apply RunP.skip | apply RunP.block | apply RunP.exit | apply RunP.ret)
      refine And.intro (fun _ => ?_) (fun h => absurd rfl h)
      refine And.intro (fun _ => ?_) (fun h => absurd rfl h)
      refine And.intro (fun _ => ?_) (fun h => absurd rfl h)
      refine CallK.of (awake_told _) ?_
      repeat (first | apply RunP.seq | apply RunP.region | apply RunP.condT rfl | apply RunP.condF rfl | apply RunP.skip | apply RunP.block | apply RunP.exit | apply RunP.ret)
      exact ⟨rfl, rfl, rfl⟩
    refine And.intro (fun h2 => ?_) (fun h2 => ?_)
    · repeat (first | apply RunP.seq | apply RunP.region | apply RunP.condT rfl | apply RunP.condF rfl | apply RunP.skip | apply RunP.block | apply RunP.exit | apply RunP.ret)
      refine And.intro (fun _ => ?_) (fun h => absurd rfl h)
      refine And.intro (fun _ => ?_) (fun h => absurd rfl h)
      refine And.intro (fun _ => ?_) (fun h => absurd rfl h)
      refine CallK.of (awake_told _) ?_
      repeat (first | apply RunP.seq | apply RunP.region | apply RunP.condT rfl | apply RunP.condF rfl | apply RunP.skip | apply RunP.block | apply RunP.exit | apply RunP.ret)
      exact ⟨rfl, rfl, rfl⟩
    refine And.intro (fun h3 => ?_) (fun h3 => ?_)
    · repeat (first | apply RunP.seq | apply RunP.region | apply RunP.condT rfl | apply RunP.condF rfl | apply RunP.skip | apply RunP.block | apply RunP.exit | apply RunP.ret)
      refine And.intro (fun _ => ?_) (fun h => absurd rfl h)
      refine And.intro (fun _ => ?_) (fun h => absurd rfl h)
      refine And.intro (fun _ => ?_) (fun h => absurd rfl h)
      refine CallK.of (awake_told _) ?_
      repeat (first | apply RunP.seq | apply RunP.region | apply RunP.condT rfl | apply RunP.condF rfl | apply RunP.skip | apply RunP.block | apply RunP.exit | apply RunP.ret)
      exact ⟨rfl, rfl, rfl⟩
    · exact absurd ⟨by omega, by omega, by omega⟩ hg
def lcM (u : Bs) (n : Nat) (k : Nat) (s : List V) (h : Heap) : Prop :=
  ∃ (b : Int), (b = (n : Int) - Lex.colL (u.take n) + 1) ∧ s.length = 79 ∧ s.getD 0 und = und ∧ s.getD 2 und = .int .i64 n ∧ s.getD 5 und = .bool false ∧ s.getD 6 und = .str u ∧ s.getD 7 und = .int .i64 (1 + ((u.take n).count 10 : Nat)) ∧ s.getD 10 und = .int .i64 b
theorem lcM_lit {u : Bs} {n : Nat} {k : Nat} {s : List V} {h : Heap} (hI : lcM u n k s h) : ∃ (b : Int) (x : Nat → V), (b = (n : Int) - Lex.colL (u.take n) + 1) ∧
    s = [und, x 1, .int .i64 n, x 3, x 4, .bool false, .str u, .int .i64 (1 + ((u.take n).count 10 : Nat)), x 8, x 9, .int .i64 b, x 11, x 12, x 13, x 14, x 15, x 16, x 17, x 18, x 19, x 20, x 21, x 22, x 23, x 24, x 25, x 26, x 27, x 28, x 29, x 30, x 31, x 32, x 33, x 34, x 35, x 36, x 37, x 38, x 39, x 40, x 41, x 42, x 43, x 44, x 45, x 46, x 47, x 48, x 49, x 50, x 51, x 52, x 53, x 54, x 55, x 56, x 57, x 58, x 59, x 60, x 61, x 62, x 63, x 64, x 65, x 66, x 67, x 68, x 69, x 70, x 71, x 72, x 73, x 74, x 75, x 76, x 77, x 78] := by
  obtain ⟨b, hF, hl, e0, e2, e5, e6, e7, e10⟩ := hI
  refine ⟨b, fun n => s.getD n und, hF, (lit_of hl).trans ?_⟩
  show [s.getD 0 und, s.getD 1 und, s.getD 2 und, s.getD 3 und, s.getD 4 und, s.getD 5 und, s.getD 6 und, s.getD 7 und, s.getD 8 und, s.getD 9 und, s.getD 10 und, s.getD 11 und, s.getD 12 und, s.getD 13 und, s.getD 14 und, s.getD 15 und, s.getD 16 und, s.getD 17 und, s.getD 18 und, s.getD 19 und, s.getD 20 und, s.getD 21 und, s.getD 22 und, s.getD 23 und, s.getD 24 und, s.getD 25 und, s.getD 26 und, s.getD 27 und, s.getD 28 und, s.getD 29 und, s.getD 30 und, s.getD 31 und, s.getD 32 und, s.getD 33 und, s.getD 34 und, s.getD 35 und, s.getD 36 und, s.getD 37 und, s.getD 38 und, s.getD 39 und, s.getD 40 und, s.getD 41 und, s.getD 42 und, s.getD 43 und, s.getD 44 und, s.getD 45 und, s.getD 46 und, s.getD 47 und, s.getD 48 und, s.getD 49 und, s.getD 50 und, s.getD 51 und, s.getD 52 und, s.getD 53 und, s.getD 54 und, s.getD 55 und, s.getD 56 und, s.getD 57 und, s.getD 58 und, s.getD 59 und, s.getD 60 und, s.getD 61 und, s.getD 62 und, s.getD 63 und, s.getD 64 und, s.getD 65 und, s.getD 66 und, s.getD 67 und, s.getD 68 und, s.getD 69 und, s.getD 70 und, s.getD 71 und, s.getD 72 und, s.getD 73 und, s.getD 74 und, s.getD 75 und, s.getD 76 und, s.getD 77 und, s.getD 78 und] = _
  rw [e0, e2, e5, e6, e7, e10]
def lcI (u : Bs) (n : Nat) (k : Nat) (s : List V) (h : Heap) : Prop :=
  ∃ (i : Nat) (z a b : Int), (i + k = n ∧ z = i ∧ a = 1 + ((u.take i).count 10 : Nat) ∧ b = (n : Int) - Lex.colL (u.take n) + 1) ∧ s.length = 79 ∧ s.getD 0 und = und ∧ s.getD 2 und = .int .i64 n ∧ s.getD 5 und = .bool false ∧ s.getD 6 und = .str u ∧ s.getD 7 und = .int .i64 (1 + ((u.take n).count 10 : Nat)) ∧ s.getD 10 und = .int .i64 b ∧ s.getD 11 und = .int .i64 a ∧ s.getD 12 und = .int .i64 z
theorem lcI_lit {u : Bs} {n : Nat} {k : Nat} {s : List V} {h : Heap} (hI : lcI u n k s h) : ∃ (i : Nat) (z a b : Int) (x : Nat → V), (i + k = n ∧ z = i ∧ a = 1 + ((u.take i).count 10 : Nat) ∧ b = (n : Int) - Lex.colL (u.take n) + 1) ∧
    s = [und, x 1, .int .i64 n, x 3, x 4, .bool false, .str u, .int .i64 (1 + ((u.take n).count 10 : Nat)), x 8, x 9, .int .i64 b, .int .i64 a, .int .i64 z, x 13, x 14, x 15, x 16, x 17, x 18, x 19, x 20, x 21, x 22, x 23, x 24, x 25, x 26, x 27, x 28, x 29, x 30, x 31, x 32, x 33, x 34, x 35, x 36, x 37, x 38, x 39, x 40, x 41, x 42, x 43, x 44, x 45, x 46, x 47, x 48, x 49, x 50, x 51, x 52, x 53, x 54, x 55, x 56, x 57, x 58, x 59, x 60, x 61, x 62, x 63, x 64, x 65, x 66, x 67, x 68, x 69, x 70, x 71, x 72, x 73, x 74, x 75, x 76, x 77, x 78] := by
  obtain ⟨i, z, a, b, hF, hl, e0, e2, e5, e6, e7, e10, e11, e12⟩ := hI
  refine ⟨i, z, a, b, fun n => s.getD n und, hF, (lit_of hl).trans ?_⟩
  show [s.getD 0 und, s.getD 1 und, s.getD 2 und, s.getD 3 und, s.getD 4 und, s.getD 5 und, s.getD 6 und, s.getD 7 und, s.getD 8 und, s.getD 9 und, s.getD 10 und, s.getD 11 und, s.getD 12 und, s.getD 13 und, s.getD 14 und, s.getD 15 und, s.getD 16 und, s.getD 17 und, s.getD 18 und, s.getD 19 und, s.getD 20 und, s.getD 21 und, s.getD 22 und, s.getD 23 und, s.getD 24 und, s.getD 25 und, s.getD 26 und, s.getD 27 und, s.getD 28 und, s.getD 29 und, s.getD 30 und, s.getD 31 und, s.getD 32 und, s.getD 33 und, s.getD 34 und, s.getD 35 und, s.getD 36 und, s.getD 37 und, s.getD 38 und, s.getD 39 und, s.getD 40 und, s.getD 41 und, s.getD 42 und, s.getD 43 und, s.getD 44 und, s.getD 45 und, s.getD 46 und, s.getD 47 und, s.getD 48 und, s.getD 49 und, s.getD 50 und, s.getD 51 und, s.getD 52 und, s.getD 53 und, s.getD 54 und, s.getD 55 und, s.getD 56 und, s.getD 57 und, s.getD 58 und, s.getD 59 und, s.getD 60 und, s.getD 61 und, s.getD 62 und, s.getD 63 und, s.getD 64 und, s.getD 65 und, s.getD 66 und, s.getD 67 und, s.getD 68 und, s.getD 69 und, s.getD 70 und, s.getD 71 und, s.getD 72 und, s.getD 73 und, s.getD 74 und, s.getD 75 und, s.getD 76 und, s.getD 77 und, s.getD 78 und] = _
  rw [e0, e2, e5, e6, e7, e10, e11, e12]

theorem mod_has (h : Heap) (z : Int) (hz : -9223372036854775808 ≤ z ∧ z ≤ 9223372036854775807) (d : Nat) (hd : 0 < d) (hd2 : d ≤ 2 ^ 40) : ∃ m : Nat, m < d ∧ Has envQ .own 34 [.int .i64 z, .int .i64 d] h (.val (.int .i64 m) h) := by
  have h1 : IntKind.u64.wrap z = z % 18446744073709551616 := by simp [IntKind.wrap, IntKind.signed, IntKind.bits]
  have h2 : IntKind.u64.wrap (d : Int) = d := by simp [IntKind.wrap, IntKind.signed, IntKind.bits]; omega
  obtain ⟨m, hm⟩ : ∃ m : Nat, (z % 18446744073709551616) % (d : Int) = m := ⟨((z % 18446744073709551616) % (d : Int)).toNat, by rw [Int.toNat_of_nonneg (Int.emod_nonneg _ (by omega))]⟩
  have hlt : (z % 18446744073709551616) % (d : Int) < d := Int.emod_lt_of_pos _ (by omega)
  refine ⟨m, by omega, ?_⟩
  refine HasP.own (a := [.int .i64 z, .int .i64 d]) (d := fn34) rfl rfl rfl (of_decide_eq_true rfl) ?_
  repeat (first | apply RunP.seq | apply RunP.region | apply RunP.condT rfl | apply RunP.condF rfl | apply RunP.skip | apply RunP.block | apply RunP.exit | apply RunP.ret)
  refine And.intro rfl (And.intro (by rw [h2]; omega) ?_)
  repeat (first | apply RunP.seq | apply RunP.region | apply RunP.condT rfl | apply RunP.condF rfl | apply RunP.skip | apply RunP.block | apply RunP.exit | apply RunP.ret)
  have e : IntKind.i64.wrap ((IntKind.u64.wrap z).tmod (IntKind.u64.wrap (d : Int))) = (m : Int) := by
    rw [h1, h2, Int.tmod_eq_emod_of_nonneg (by omega), hm, wrapS (by omega) (by omega)]
  exact ⟨rfl, congrArg (fun z => some (V.int IntKind.i64 z)) e, rfl⟩
theorem lexisCounted_has (s : List UInt8) (z : Int) (hz : -9223372036854775808 ≤ z ∧ z ≤ 9223372036854775807) : Has envQ .own 13 [.str s, .int .i64 z] [] (.val (.bool true) []) := by
  refine HasP.own (a := [.str s, .int .i64 z]) (d := fn13) rfl rfl rfl (of_decide_eq_true rfl) ?_
  repeat (first | apply RunP.seq | apply RunP.region | apply RunP.condT rfl | apply RunP.condF rfl | apply RunP.skip | apply RunP.block | apply RunP.exit | apply RunP.ret)
  apply And.intro
  · split <;> omega
  apply And.intro
  · split <;> omega
  have hx := brief_len 4000 s
  generalize List.drop 0 (List.take (if (4000 : Int) < (s.length : Int) then (4000 : Int) else (s.length : Int)).toNat s) = u at hx ⊢
  repeat (first | apply RunP.seq | apply RunP.region | apply RunP.condT rfl | apply RunP.condF rfl | apply RunP.skip | apply RunP.block | apply RunP.exit | apply RunP.ret)
  have ew : V.int IntKind.i64 (IntKind.i64.wrap ((u.length : Int) + 1)) = V.int IntKind.i64 ((u.length + 1 : Nat) : Int) := by rw [wrap1 (by omega)]
  obtain ⟨n, hn, hm⟩ := mod_has [] z hz (u.length + 1) (by omega) (by omega)
  rw [← ew] at hm
  refine CallK.of hm ?_
  repeat (first | apply RunP.seq | apply RunP.region | apply RunP.condT rfl | apply RunP.condF rfl | apply RunP.skip | apply RunP.block | apply RunP.exit | apply RunP.ret)
  have hP := Place_has [] u n (by omega)
  rw [placeV_yes (by omega), Int.toNat_natCast] at hP
  refine CallK.of hP ?_
  have hc0 := count_le (u.take n) 10
  obtain ⟨k1, k2, k3, k4⟩ := Lex.col_take u n (by omega)
  have hl0 : (u.take n).length = n := by rw [List.length_take]; omega
  repeat (first | apply RunP.seq | apply RunP.region | apply RunP.condT rfl | apply RunP.condF rfl | apply RunP.skip | apply RunP.block | apply RunP.exit | apply RunP.ret)
  refine And.intro (fun _ => ?_) (fun h => absurd rfl h)
  refine And.intro (fun h => by omega) (fun _ => ?_)
  refine And.intro (fun h => by omega) (fun _ => ?_)
  refine And.intro (fun h => by rw [wrapS (by omega) (by omega)] at h; omega) (fun _ => ?_)
  have eb : IntKind.i64.wrap (IntKind.i64.wrap ((n : Int) - (Lex.colL (u.take n) : Int)) + 1) = (n : Int) - Lex.colL (u.take n) + 1 := by rw [wrapS (x := (n : Int) - (Lex.colL (u.take n) : Int)) (by omega) (by omega), wrapS (by omega) (by omega)]
  apply RunP.condF rfl
  apply RunP.skip
  apply RunP.seq
  apply RunP.region
  refine RunP.mid (M := lcM u n 0) ?_ ?_
  · repeat (first | apply RunP.seq | apply RunP.region | apply RunP.condT rfl | apply RunP.condF rfl | apply RunP.skip | apply RunP.block | apply RunP.exit | apply RunP.ret)
    refine And.intro (fun hb => ?_) (fun hb => ?_)
    · rw [eb] at hb
      have h10 := k4 (by omega)
      have ei : IntKind.i64.wrap (IntKind.i64.wrap (IntKind.i64.wrap ((n : Int) - (Lex.colL (u.take n) : Int)) + 1) - 1) = ((n - Lex.colL (u.take n) : Nat) : Int) := by rw [eb, wrapS (by omega) (by omega)]; omega
      refine And.intro (by rw [ei]; omega) (Exists.intro 10 (And.intro (by rw [ei, Int.toNat_natCast]; exact h10) ?_))
      refine And.intro (fun _ => ?_) (fun h => absurd rfl h)
      repeat (first | apply RunP.seq | apply RunP.region | apply RunP.condT rfl | apply RunP.condF rfl | apply RunP.skip | apply RunP.block | apply RunP.exit | apply RunP.ret)
      exact ⟨rfl, _, eb, rfl, rfl, rfl, rfl, rfl, rfl, rfl⟩
    · repeat (first | apply RunP.seq | apply RunP.region | apply RunP.condT rfl | apply RunP.condF rfl | apply RunP.skip | apply RunP.block | apply RunP.exit | apply RunP.ret)
      exact ⟨rfl, _, eb, rfl, rfl, rfl, rfl, rfl, rfl, rfl⟩
  intro st g hM
  obtain ⟨b, x, hb, rfl⟩ := lcM_lit hM
  clear hM
  repeat (first | apply RunP.seq | apply RunP.region | apply RunP.condT rfl | apply RunP.condF rfl | apply RunP.skip | apply RunP.block | apply RunP.exit | apply RunP.ret)
  refine RunP.loop (lcI u n) ?_ n ⟨0, _, _, _, ⟨by omega, rfl, rfl, hb⟩, rfl, rfl, rfl, rfl, rfl, rfl, rfl, rfl, rfl⟩
  intro k st g2 hI
  obtain ⟨i, z, a, b, x, ⟨hik, hz, ha, hb⟩, rfl⟩ := lcI_lit hI
  clear hI
  subst hz
  have hc1 := count_le (u.take i) 10
  have hl1 : (u.take i).length = i := by rw [List.length_take]; omega
  repeat (first | apply RunP.seq | apply RunP.region | apply RunP.condT rfl | apply RunP.condF rfl | apply RunP.skip | apply RunP.block | apply RunP.exit | apply RunP.ret)
  refine And.intro (fun hlt => ?_) (fun hge => ?_)
  · obtain ⟨c, hc⟩ : ∃ c, u[i]? = some c := ⟨_, List.getElem?_eq_getElem (by omega)⟩
    repeat (first | apply RunP.seq | apply RunP.region | apply RunP.condT rfl | apply RunP.condF rfl | apply RunP.skip | apply RunP.block | apply RunP.exit | apply RunP.ret)
    refine And.intro (by omega) (Exists.intro c (And.intro hc ?_))
    refine And.intro (fun h1 => ?_) (fun h1 => ?_)
    · have e : c = 10 := UInt8.toNat_inj.1 (show c.toNat = 10 by omega)
      repeat (first | apply RunP.seq | apply RunP.region | apply RunP.condT rfl | apply RunP.condF rfl | apply RunP.skip | apply RunP.block | apply RunP.exit | apply RunP.ret)
      refine And.intro (fun h2 => ?_) (fun h2 => ?_)
      · exact absurd e (k3 i c (by omega) (by omega) hc)
      repeat (first | apply RunP.seq | apply RunP.region | apply RunP.condT rfl | apply RunP.condF rfl | apply RunP.skip | apply RunP.block | apply RunP.exit | apply RunP.ret)
      refine ⟨k - 1, by omega, i + 1, _, _, _, ⟨by omega, wrap1 (by omega), ?_, hb⟩, rfl, rfl, rfl, rfl, rfl, rfl, rfl, rfl, rfl⟩
      rw [count_take hc, if_pos e, ha, wrapS (by omega) (by omega)]; omega
    · have e : c ≠ 10 := fun q => h1 (by rw [q]; rfl)
      repeat (first | apply RunP.seq | apply RunP.region | apply RunP.condT rfl | apply RunP.condF rfl | apply RunP.skip | apply RunP.block | apply RunP.exit | apply RunP.ret)
      refine ⟨k - 1, by omega, i + 1, _, _, _, ⟨by omega, wrap1 (by omega), ?_, hb⟩, rfl, rfl, rfl, rfl, rfl, rfl, rfl, rfl, rfl⟩
      rw [count_take hc, if_neg e, ha]; omega
  · have hi : i = n := by omega
    subst hi
    repeat (first | apply RunP.seq | apply RunP.region | apply RunP.condT rfl | apply RunP.condF rfl | apply RunP.skip | apply RunP.block | apply RunP.exit | apply RunP.ret)
    refine And.intro (fun _ => ?_) (fun h => absurd ha h)
    refine CallK.of (awake_told _) ?_
    repeat (first | apply RunP.seq | apply RunP.region | apply RunP.condT rfl | apply RunP.condF rfl | apply RunP.skip | apply RunP.block | apply RunP.exit | apply RunP.ret)
    exact ⟨rfl, rfl, rfl⟩
end Go.Proofs.YtmpgphjbeoboaaaDoor
