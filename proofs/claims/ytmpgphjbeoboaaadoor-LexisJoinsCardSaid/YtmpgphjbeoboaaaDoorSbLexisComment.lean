/- LexisComment: the law answers true. -/
import Derived.Test.YtmpgphjbeoboaaaDoorSbLexisTokens
import Derived.Test.YtmpgphjbeoboaaaDoorSbLexT6
set_option linter.unusedVariables false
set_option linter.unusedSimpArgs false
namespace Go.Proofs.YtmpgphjbeoboaaaDoor
open Go.Sb
set_option maxRecDepth 100000
abbrev TokT := Int × List UInt8 × Int
def cmI (a v u : Bs) (k : Nat) (s : List V) (h : Heap) : Prop :=
  ∃ (i : Nat) (z : Int) (c : Bs), (i + k = min v.length 50 ∧ z = i ∧ c.length ≤ i + 1 ∧ ∃ y, c = 35 :: y ∧ (10 : UInt8) ∉ y) ∧ s.length = 123 ∧ s.getD 0 und = und ∧ s.getD 2 und = .str v ∧ s.getD 5 und = .bool false ∧ s.getD 6 und = .str u ∧ s.getD 7 und = .str c ∧ s.getD 8 und = .int .i64 z
theorem cmI_lit {a v u : Bs} {k : Nat} {s : List V} {h : Heap} (hI : cmI a v u k s h) : ∃ (i : Nat) (z : Int) (c : Bs) (x : Nat → V), (i + k = min v.length 50 ∧ z = i ∧ c.length ≤ i + 1 ∧ ∃ y, c = 35 :: y ∧ (10 : UInt8) ∉ y) ∧
    s = [und, x 1, .str v, x 3, x 4, .bool false, .str u, .str c, .int .i64 z, x 9, x 10, x 11, x 12, x 13, x 14, x 15, x 16, x 17, x 18, x 19, x 20, x 21, x 22, x 23, x 24, x 25, x 26, x 27, x 28, x 29, x 30, x 31, x 32, x 33, x 34, x 35, x 36, x 37, x 38, x 39, x 40, x 41, x 42, x 43, x 44, x 45, x 46, x 47, x 48, x 49, x 50, x 51, x 52, x 53, x 54, x 55, x 56, x 57, x 58, x 59, x 60, x 61, x 62, x 63, x 64, x 65, x 66, x 67, x 68, x 69, x 70, x 71, x 72, x 73, x 74, x 75, x 76, x 77, x 78, x 79, x 80, x 81, x 82, x 83, x 84, x 85, x 86, x 87, x 88, x 89, x 90, x 91, x 92, x 93, x 94, x 95, x 96, x 97, x 98, x 99, x 100, x 101, x 102, x 103, x 104, x 105, x 106, x 107, x 108, x 109, x 110, x 111, x 112, x 113, x 114, x 115, x 116, x 117, x 118, x 119, x 120, x 121, x 122] := by
  obtain ⟨i, z, c, hF, hl, e0, e2, e5, e6, e7, e8⟩ := hI
  refine ⟨i, z, c, fun n => s.getD n und, hF, (lit_of hl).trans ?_⟩
  show [s.getD 0 und, s.getD 1 und, s.getD 2 und, s.getD 3 und, s.getD 4 und, s.getD 5 und, s.getD 6 und, s.getD 7 und, s.getD 8 und, s.getD 9 und, s.getD 10 und, s.getD 11 und, s.getD 12 und, s.getD 13 und, s.getD 14 und, s.getD 15 und, s.getD 16 und, s.getD 17 und, s.getD 18 und, s.getD 19 und, s.getD 20 und, s.getD 21 und, s.getD 22 und, s.getD 23 und, s.getD 24 und, s.getD 25 und, s.getD 26 und, s.getD 27 und, s.getD 28 und, s.getD 29 und, s.getD 30 und, s.getD 31 und, s.getD 32 und, s.getD 33 und, s.getD 34 und, s.getD 35 und, s.getD 36 und, s.getD 37 und, s.getD 38 und, s.getD 39 und, s.getD 40 und, s.getD 41 und, s.getD 42 und, s.getD 43 und, s.getD 44 und, s.getD 45 und, s.getD 46 und, s.getD 47 und, s.getD 48 und, s.getD 49 und, s.getD 50 und, s.getD 51 und, s.getD 52 und, s.getD 53 und, s.getD 54 und, s.getD 55 und, s.getD 56 und, s.getD 57 und, s.getD 58 und, s.getD 59 und, s.getD 60 und, s.getD 61 und, s.getD 62 und, s.getD 63 und, s.getD 64 und, s.getD 65 und, s.getD 66 und, s.getD 67 und, s.getD 68 und, s.getD 69 und, s.getD 70 und, s.getD 71 und, s.getD 72 und, s.getD 73 und, s.getD 74 und, s.getD 75 und, s.getD 76 und, s.getD 77 und, s.getD 78 und, s.getD 79 und, s.getD 80 und, s.getD 81 und, s.getD 82 und, s.getD 83 und, s.getD 84 und, s.getD 85 und, s.getD 86 und, s.getD 87 und, s.getD 88 und, s.getD 89 und, s.getD 90 und, s.getD 91 und, s.getD 92 und, s.getD 93 und, s.getD 94 und, s.getD 95 und, s.getD 96 und, s.getD 97 und, s.getD 98 und, s.getD 99 und, s.getD 100 und, s.getD 101 und, s.getD 102 und, s.getD 103 und, s.getD 104 und, s.getD 105 und, s.getD 106 und, s.getD 107 und, s.getD 108 und, s.getD 109 und, s.getD 110 und, s.getD 111 und, s.getD 112 und, s.getD 113 und, s.getD 114 und, s.getD 115 und, s.getD 116 und, s.getD 117 und, s.getD 118 und, s.getD 119 und, s.getD 120 und, s.getD 121 und, s.getD 122 und] = _
  rw [e0, e2, e5, e6, e7, e8]
def cmJ (u c : Bs) (ts : List TokT) (a b : TokT) (k : Nat) (s : List V) (h : Heap) : Prop :=
  ∃ (i : Nat) (z : Int), (i + k = ts.length ∧ z = i) ∧ s.length = 123 ∧ s.getD 0 und = und ∧ s.getD 5 und = .bool false ∧ s.getD 6 und = .str u ∧ s.getD 7 und = .str c ∧ s.getD 9 und = .lst 3 ((ts ++ [a]).map tkV) ∧ s.getD 11 und = .int .i64 0 ∧ s.getD 12 und = .lst 3 ((ts ++ [b]).map tkV) ∧ s.getD 15 und = .int .i64 z
theorem cmJ_lit {u c : Bs} {ts : List TokT} {a b : TokT} {k : Nat} {s : List V} {h : Heap} (hI : cmJ u c ts a b k s h) : ∃ (i : Nat) (z : Int) (x : Nat → V), (i + k = ts.length ∧ z = i) ∧
    s = [und, x 1, x 2, x 3, x 4, .bool false, .str u, .str c, x 8, .lst 3 ((ts ++ [a]).map tkV), x 10, .int .i64 0, .lst 3 ((ts ++ [b]).map tkV), x 13, x 14, .int .i64 z, x 16, x 17, x 18, x 19, x 20, x 21, x 22, x 23, x 24, x 25, x 26, x 27, x 28, x 29, x 30, x 31, x 32, x 33, x 34, x 35, x 36, x 37, x 38, x 39, x 40, x 41, x 42, x 43, x 44, x 45, x 46, x 47, x 48, x 49, x 50, x 51, x 52, x 53, x 54, x 55, x 56, x 57, x 58, x 59, x 60, x 61, x 62, x 63, x 64, x 65, x 66, x 67, x 68, x 69, x 70, x 71, x 72, x 73, x 74, x 75, x 76, x 77, x 78, x 79, x 80, x 81, x 82, x 83, x 84, x 85, x 86, x 87, x 88, x 89, x 90, x 91, x 92, x 93, x 94, x 95, x 96, x 97, x 98, x 99, x 100, x 101, x 102, x 103, x 104, x 105, x 106, x 107, x 108, x 109, x 110, x 111, x 112, x 113, x 114, x 115, x 116, x 117, x 118, x 119, x 120, x 121, x 122] := by
  obtain ⟨i, z, hF, hl, e0, e5, e6, e7, e9, e11, e12, e15⟩ := hI
  refine ⟨i, z, fun n => s.getD n und, hF, (lit_of hl).trans ?_⟩
  show [s.getD 0 und, s.getD 1 und, s.getD 2 und, s.getD 3 und, s.getD 4 und, s.getD 5 und, s.getD 6 und, s.getD 7 und, s.getD 8 und, s.getD 9 und, s.getD 10 und, s.getD 11 und, s.getD 12 und, s.getD 13 und, s.getD 14 und, s.getD 15 und, s.getD 16 und, s.getD 17 und, s.getD 18 und, s.getD 19 und, s.getD 20 und, s.getD 21 und, s.getD 22 und, s.getD 23 und, s.getD 24 und, s.getD 25 und, s.getD 26 und, s.getD 27 und, s.getD 28 und, s.getD 29 und, s.getD 30 und, s.getD 31 und, s.getD 32 und, s.getD 33 und, s.getD 34 und, s.getD 35 und, s.getD 36 und, s.getD 37 und, s.getD 38 und, s.getD 39 und, s.getD 40 und, s.getD 41 und, s.getD 42 und, s.getD 43 und, s.getD 44 und, s.getD 45 und, s.getD 46 und, s.getD 47 und, s.getD 48 und, s.getD 49 und, s.getD 50 und, s.getD 51 und, s.getD 52 und, s.getD 53 und, s.getD 54 und, s.getD 55 und, s.getD 56 und, s.getD 57 und, s.getD 58 und, s.getD 59 und, s.getD 60 und, s.getD 61 und, s.getD 62 und, s.getD 63 und, s.getD 64 und, s.getD 65 und, s.getD 66 und, s.getD 67 und, s.getD 68 und, s.getD 69 und, s.getD 70 und, s.getD 71 und, s.getD 72 und, s.getD 73 und, s.getD 74 und, s.getD 75 und, s.getD 76 und, s.getD 77 und, s.getD 78 und, s.getD 79 und, s.getD 80 und, s.getD 81 und, s.getD 82 und, s.getD 83 und, s.getD 84 und, s.getD 85 und, s.getD 86 und, s.getD 87 und, s.getD 88 und, s.getD 89 und, s.getD 90 und, s.getD 91 und, s.getD 92 und, s.getD 93 und, s.getD 94 und, s.getD 95 und, s.getD 96 und, s.getD 97 und, s.getD 98 und, s.getD 99 und, s.getD 100 und, s.getD 101 und, s.getD 102 und, s.getD 103 und, s.getD 104 und, s.getD 105 und, s.getD 106 und, s.getD 107 und, s.getD 108 und, s.getD 109 und, s.getD 110 und, s.getD 111 und, s.getD 112 und, s.getD 113 und, s.getD 114 und, s.getD 115 und, s.getD 116 und, s.getD 117 und, s.getD 118 und, s.getD 119 und, s.getD 120 und, s.getD 121 und, s.getD 122 und] = _
  rw [e0, e5, e6, e7, e9, e11, e12, e15]
def cmK (u : Bs) (a : Int) (k : Nat) (s : List V) (h : Heap) : Prop :=
  ∃ (z : Int), (0 ≤ k) ∧ s.length = 123 ∧ s.getD 0 und = und ∧ s.getD 5 und = .bool false ∧ s.getD 9 und = .nils ∧ s.getD 10 und = .int .i64 a ∧ s.getD 11 und = .int .i64 4 ∧ s.getD 15 und = .int .i64 0
theorem cmK_lit {u : Bs} {a : Int} {k : Nat} {s : List V} {h : Heap} (hI : cmK u a k s h) : ∃ (z : Int) (x : Nat → V), (0 ≤ k) ∧
    s = [und, x 1, x 2, x 3, x 4, .bool false, x 6, x 7, x 8, .nils, .int .i64 a, .int .i64 4, x 12, x 13, x 14, .int .i64 0, x 16, x 17, x 18, x 19, x 20, x 21, x 22, x 23, x 24, x 25, x 26, x 27, x 28, x 29, x 30, x 31, x 32, x 33, x 34, x 35, x 36, x 37, x 38, x 39, x 40, x 41, x 42, x 43, x 44, x 45, x 46, x 47, x 48, x 49, x 50, x 51, x 52, x 53, x 54, x 55, x 56, x 57, x 58, x 59, x 60, x 61, x 62, x 63, x 64, x 65, x 66, x 67, x 68, x 69, x 70, x 71, x 72, x 73, x 74, x 75, x 76, x 77, x 78, x 79, x 80, x 81, x 82, x 83, x 84, x 85, x 86, x 87, x 88, x 89, x 90, x 91, x 92, x 93, x 94, x 95, x 96, x 97, x 98, x 99, x 100, x 101, x 102, x 103, x 104, x 105, x 106, x 107, x 108, x 109, x 110, x 111, x 112, x 113, x 114, x 115, x 116, x 117, x 118, x 119, x 120, x 121, x 122] := by
  obtain ⟨z, hF, hl, e0, e5, e9, e10, e11, e15⟩ := hI
  refine ⟨z, fun n => s.getD n und, hF, (lit_of hl).trans ?_⟩
  show [s.getD 0 und, s.getD 1 und, s.getD 2 und, s.getD 3 und, s.getD 4 und, s.getD 5 und, s.getD 6 und, s.getD 7 und, s.getD 8 und, s.getD 9 und, s.getD 10 und, s.getD 11 und, s.getD 12 und, s.getD 13 und, s.getD 14 und, s.getD 15 und, s.getD 16 und, s.getD 17 und, s.getD 18 und, s.getD 19 und, s.getD 20 und, s.getD 21 und, s.getD 22 und, s.getD 23 und, s.getD 24 und, s.getD 25 und, s.getD 26 und, s.getD 27 und, s.getD 28 und, s.getD 29 und, s.getD 30 und, s.getD 31 und, s.getD 32 und, s.getD 33 und, s.getD 34 und, s.getD 35 und, s.getD 36 und, s.getD 37 und, s.getD 38 und, s.getD 39 und, s.getD 40 und, s.getD 41 und, s.getD 42 und, s.getD 43 und, s.getD 44 und, s.getD 45 und, s.getD 46 und, s.getD 47 und, s.getD 48 und, s.getD 49 und, s.getD 50 und, s.getD 51 und, s.getD 52 und, s.getD 53 und, s.getD 54 und, s.getD 55 und, s.getD 56 und, s.getD 57 und, s.getD 58 und, s.getD 59 und, s.getD 60 und, s.getD 61 und, s.getD 62 und, s.getD 63 und, s.getD 64 und, s.getD 65 und, s.getD 66 und, s.getD 67 und, s.getD 68 und, s.getD 69 und, s.getD 70 und, s.getD 71 und, s.getD 72 und, s.getD 73 und, s.getD 74 und, s.getD 75 und, s.getD 76 und, s.getD 77 und, s.getD 78 und, s.getD 79 und, s.getD 80 und, s.getD 81 und, s.getD 82 und, s.getD 83 und, s.getD 84 und, s.getD 85 und, s.getD 86 und, s.getD 87 und, s.getD 88 und, s.getD 89 und, s.getD 90 und, s.getD 91 und, s.getD 92 und, s.getD 93 und, s.getD 94 und, s.getD 95 und, s.getD 96 und, s.getD 97 und, s.getD 98 und, s.getD 99 und, s.getD 100 und, s.getD 101 und, s.getD 102 und, s.getD 103 und, s.getD 104 und, s.getD 105 und, s.getD 106 und, s.getD 107 und, s.getD 108 und, s.getD 109 und, s.getD 110 und, s.getD 111 und, s.getD 112 und, s.getD 113 und, s.getD 114 und, s.getD 115 und, s.getD 116 und, s.getD 117 und, s.getD 118 und, s.getD 119 und, s.getD 120 und, s.getD 121 und, s.getD 122 und] = _
  rw [e0, e5, e9, e10, e11, e15]

theorem map_snoc (ts : List TokT) (a : TokT) : ts.map tkV ++ [tkV a] = (ts ++ [a]).map tkV := by rw [List.map_append]; rfl
theorem comment_toks {u y : List UInt8} {ts : List TokT} (hy : (10 : UInt8) ∉ y) (h : Lex.toksL u (u.length + 1) 0 = (ts, none)) : Lex.toksL ((u ++ 35 :: y) ++ [10]) (((u ++ 35 :: y) ++ [10]).length + 1) 0 = (ts, none) := by
  rw [List.append_assoc, List.cons_append]
  have h1 : Lex.skipS true (35 :: (y ++ [10])) = [] := by
    simp only [Lex.skipS]; rw [if_neg (by decide)]; exact Lex.skip_comment y hy
  have h2 : Lex.skipS false (35 :: (y ++ [10])) = [] := by
    simp only [Lex.skipS]; rw [if_neg (by decide), if_pos trivial]; exact Lex.skip_comment y hy
  exact Lex.toks_app Lex.endB_hash h1 h2 _ _ 0 ts (by omega) (by omega) (by omega) h
set_option maxHeartbeats 16000000 in
theorem lexisComment_has (s : List UInt8) (hs : s.length ≤ 9223372036854775807) (v : List UInt8) (hv : v.length ≤ 9223372036854775807) : Has envQ .own 6 [.str s, .str v] [] (.val (.bool true) []) := by
  refine HasP.own (a := [.str s, .str v]) (d := fn6) rfl rfl rfl (of_decide_eq_true rfl) ?_
  repeat (first | apply RunP.seq | apply RunP.region | apply RunP.condT rfl | apply RunP.condF rfl | apply RunP.skip | apply RunP.block | apply RunP.exit | apply RunP.ret)
  apply And.intro
  · split <;> omega
  apply And.intro
  · split <;> omega
  have hx := brief_len 3900 s
  generalize List.drop 0 (List.take (if (3900 : Int) < (s.length : Int) then (3900 : Int) else (s.length : Int)).toNat s) = u at hx ⊢
  repeat (first | apply RunP.seq | apply RunP.region | apply RunP.condT rfl | apply RunP.condF rfl | apply RunP.skip | apply RunP.block | apply RunP.exit | apply RunP.ret)
  refine RunP.loop (cmI s v u) ?_ (min v.length 50) ⟨0, _, _, ⟨by omega, rfl, by simp, [], rfl, by simp⟩, rfl, rfl, rfl, rfl, rfl, rfl, rfl⟩
  intro k st g hI
  obtain ⟨i, z, c, x, ⟨hik, hz, hcl, hcy⟩, rfl⟩ := cmI_lit hI
  clear hI
  subst hz
  have go : i < v.length → i < 50 → True := fun _ _ => trivial
  repeat (first | apply RunP.seq | apply RunP.region | apply RunP.condT rfl | apply RunP.condF rfl | apply RunP.skip | apply RunP.block | apply RunP.exit | apply RunP.ret)
  refine And.intro (fun hlt => ?_) (fun hge => ?_)
  · refine And.intro (fun h50 => ?_) (fun h50 => ?_)
    · obtain ⟨d, hd⟩ : ∃ d, v[i]? = some d := ⟨_, List.getElem?_eq_getElem (by omega)⟩
      repeat (first | apply RunP.seq | apply RunP.region | apply RunP.condT rfl | apply RunP.condF rfl | apply RunP.skip | apply RunP.block | apply RunP.exit | apply RunP.ret)
      refine And.intro (by omega) (Exists.intro d (And.intro hd ?_))
      refine And.intro (fun h10 => ?_) (fun h10 => ?_)
      · repeat (first | apply RunP.seq | apply RunP.region | apply RunP.condT rfl | apply RunP.condF rfl | apply RunP.skip | apply RunP.block | apply RunP.exit | apply RunP.ret)
        exact ⟨k - 1, by omega, i + 1, _, c, ⟨by omega, wrap1 (by omega), by omega, hcy⟩, rfl, rfl, rfl, rfl, rfl, rfl, rfl⟩
      · have ew : IntKind.i64.wrap ((i : Int) + 1) = ((i + 1 : Nat) : Int) := wrap1 (by omega)
        repeat (first | apply RunP.seq | apply RunP.region | apply RunP.condT rfl | apply RunP.condF rfl | apply RunP.skip | apply RunP.block | apply RunP.exit | apply RunP.ret)
        refine And.intro (by rw [ew]; omega) (And.intro (by omega) (And.intro (by rw [ew]; omega) ?_))
        have ed : (v.take (IntKind.i64.wrap ((i : Int) + 1)).toNat).drop ((i : Int)).toNat = [d] := by
          rw [ew, Int.toNat_natCast, Int.toNat_natCast, List.drop_take, Nat.add_sub_cancel_left, Lex.drop_cons hd]; rfl
        repeat (first | apply RunP.seq | apply RunP.region | apply RunP.condT rfl | apply RunP.condF rfl | apply RunP.skip | apply RunP.block | apply RunP.exit | apply RunP.ret)
        refine And.intro (by rw [ed]; simp only [List.length_cons, List.length_nil]; omega) ?_
        repeat (first | apply RunP.seq | apply RunP.region | apply RunP.condT rfl | apply RunP.condF rfl | apply RunP.skip | apply RunP.block | apply RunP.exit | apply RunP.ret)
        refine ⟨k - 1, by omega, i + 1, _, _, ⟨by omega, ew, ?_, ?_⟩, rfl, rfl, rfl, rfl, rfl, rfl, rfl⟩
        · rw [List.length_append, ed]; simp only [List.length_cons, List.length_nil]; omega
        · obtain ⟨y, rfl, hy⟩ := hcy
          refine ⟨y ++ [d], by rw [ed]; rfl, fun q => ?_⟩
          rcases List.mem_append.1 q with q | q
          · exact hy q
          · rw [List.mem_singleton] at q; exact h10 (by rw [← q]; rfl)
    · have hk : k = 0 := by omega
      obtain ⟨y, rfl, hy⟩ := hcy
      have hu : u.length ≤ 3900 := by omega
      have hyl : y.length ≤ 50 := by simp only [List.length_cons] at hcl; omega
      have hlV : ((u ++ 35 :: y) ++ [10]).length = u.length + y.length + 2 := by simp only [List.length_append, List.length_cons, List.length_nil]; omega
      have hT1 := fun g => Tokens_has g u (by omega)
      have hT2 := fun g => Tokens_has g ((u ++ 35 :: y) ++ [10]) (by omega)
      repeat (first | apply RunP.seq | apply RunP.region | apply RunP.condT rfl | apply RunP.condF rfl | apply RunP.skip | apply RunP.block | apply RunP.exit | apply RunP.ret)
      cases hT : Lex.toksL u (u.length + 1) 0 with
      | mk ts o =>
      have htl : ts.length ≤ 3901 := by have := toks_len u (u.length + 1) 0; rw [hT] at this; simp only [] at this; omega
      cases o with
      | none =>
        have hTV := comment_toks (y := y) hy hT
        simp only [tokensV_ok (by omega) hT] at hT1
        simp only [tokensV_ok (by omega) hTV] at hT2
        rw [map_snoc] at hT1 hT2
        have hla : ((ts ++ [((6 : Int), ([] : List UInt8), (u.length : Int))]).map tkV).length = ts.length + 1 := by simp
        have hlb : ((ts ++ [((6 : Int), ([] : List UInt8), (((u ++ 35 :: y) ++ [10]).length : Int))]).map tkV).length = ts.length + 1 := by simp
        have hgb : ((ts ++ [((6 : Int), ([] : List UInt8), (((u ++ 35 :: y) ++ [10]).length : Int))]).map tkV)[ts.length]? = some (tkV (6, [], (((u ++ 35 :: y) ++ [10]).length : Int))) := by simp
        have hea : ∀ (i : Nat) (hi : i < ts.length) (a : TokT), ((ts ++ [a]).map tkV)[i]? = some (tkV ts[i]) := fun i hi a => by simp [List.getElem?_append_left, hi]
        have haL : ((((u ++ 35 :: y) ++ [10]).length : Nat) : Int) = u.length + y.length + 2 := by rw [hlV]; omega
        generalize (((u ++ 35 :: y) ++ [10]).length : Int) = lV at *
        refine CallK.of (hT1 _) ?_
        repeat (first | apply RunP.seq | apply RunP.region | apply RunP.condT rfl | apply RunP.condF rfl | apply RunP.skip | apply RunP.block | apply RunP.exit | apply RunP.ret)
        refine And.intro (by simp only [List.length_cons]; omega) ?_
        refine And.intro (by simp only [List.length_cons, List.length_append, List.length_nil]; omega) ?_
        refine CallK.of (hT2 _) ?_
        repeat (first | apply RunP.seq | apply RunP.region | apply RunP.condT rfl | apply RunP.condF rfl | apply RunP.skip | apply RunP.block | apply RunP.exit | apply RunP.ret)
        refine And.intro (fun _ => ?_) (fun q => absurd rfl q)
        refine And.intro (fun _ => ?_) (fun q => absurd (by rw [hla, hlb]) q)
        repeat (first | apply RunP.seq | apply RunP.region | apply RunP.condT rfl | apply RunP.condF rfl | apply RunP.skip | apply RunP.block | apply RunP.exit | apply RunP.ret)
        refine RunP.loop (cmJ u (35 :: y) ts _ _) ?_ ts.length ⟨0, _, ⟨by omega, rfl⟩, rfl, rfl, rfl, rfl, rfl, rfl, rfl, rfl, rfl⟩
        clear hT1 hT2
        intro k2 st2 g2 hJ
        obtain ⟨i2, z2, x2, ⟨hik2, hz2⟩, rfl⟩ := cmJ_lit hJ
        clear hJ
        subst hz2
        have ew2 : IntKind.i64.wrap ((i2 : Int) + 1) = ((i2 + 1 : Nat) : Int) := wrap1 (by omega)
        repeat (first | apply RunP.seq | apply RunP.region | apply RunP.condT rfl | apply RunP.condF rfl | apply RunP.skip | apply RunP.block | apply RunP.exit | apply RunP.ret)
        refine And.intro (fun q1 => ?_) (fun q1 => ?_)
        · rw [ew2, hla] at q1
          have hi2 : i2 < ts.length := by omega
          repeat (first | apply RunP.seq | apply RunP.region | apply RunP.condT rfl | apply RunP.condF rfl | apply RunP.skip | apply RunP.block | apply RunP.exit | apply RunP.ret)
          apply RunP.drawn
          · decide +kernel
          refine And.intro (by omega) (And.intro rfl (Exists.intro _ (And.intro (hea i2 hi2 _) ?_)))
          refine drawZ (by decide +kernel) (by decide +kernel) ?_
          refine And.intro (by omega) (And.intro rfl (Exists.intro _ (And.intro (hea i2 hi2 _) ?_)))
          refine drawZ (by decide +kernel) (by decide +kernel) ?_
          refine bindK_of (eq_tok ts[i2]) ?_
          refine drawZ (by decide +kernel) (by decide +kernel) ?_
          repeat (first | apply RunP.seq | apply RunP.region | apply RunP.condT rfl | apply RunP.condF rfl | apply RunP.skip | apply RunP.block | apply RunP.exit | apply RunP.ret)
          exact ⟨k2 - 1, by omega, i2 + 1, _, ⟨by omega, ew2⟩, rfl, rfl, rfl, rfl, rfl, rfl, rfl, rfl, rfl⟩
        · repeat (first | apply RunP.seq | apply RunP.region | apply RunP.condT rfl | apply RunP.condF rfl | apply RunP.skip | apply RunP.block | apply RunP.exit | apply RunP.ret)
          refine And.intro (fun _ => ?_) (fun q => absurd rfl q)
          refine And.intro (fun _ => ?_) (fun q => absurd q (by rw [hlb]; omega))
          have ewm : IntKind.i64.wrap ((((ts ++ [((6 : Int), ([] : List UInt8), lV)]).map tkV).length : Int) - 1) = ((ts.length : Nat) : Int) := by rw [hlb, wrapS (by omega) (by omega)]; omega
          have hgm : ((ts ++ [((6 : Int), ([] : List UInt8), lV)]).map tkV)[(IntKind.i64.wrap ((((ts ++ [((6 : Int), ([] : List UInt8), lV)]).map tkV).length : Int) - 1)).toNat]? = some (tkV (6, [], lV)) := by rw [ewm, Int.toNat_natCast]; exact hgb
          refine And.intro (by rw [ewm]; omega) (And.intro rfl (Exists.intro _ (And.intro hgm ?_)))
          refine And.intro (fun _ => ?_) (fun q => absurd (show lV = IntKind.i64.wrap (IntKind.i64.wrap ((u.length : Int) + (((35 :: y : List UInt8).length : Nat) : Int)) + 1) from by rw [haL, List.length_cons, wrapS (x := (u.length : Int) + ((y.length + 1 : Nat) : Int)) (by omega) (by omega), wrapS (by omega) (by omega)]; omega) q)
          refine CallK.of (awake_told _) ?_
          repeat (first | apply RunP.seq | apply RunP.region | apply RunP.condT rfl | apply RunP.condF rfl | apply RunP.skip | apply RunP.block | apply RunP.exit | apply RunP.ret)
          exact ⟨rfl, rfl, rfl⟩
      | some a =>
        simp only [tokensV_bad (by omega) hT] at hT1
        refine CallK.of (hT1 _) ?_
        repeat (first | apply RunP.seq | apply RunP.region | apply RunP.condT rfl | apply RunP.condF rfl | apply RunP.skip | apply RunP.block | apply RunP.exit | apply RunP.ret)
        refine And.intro (by simp only [List.length_cons]; omega) ?_
        refine And.intro (by simp only [List.length_cons, List.length_append, List.length_nil]; omega) ?_
        cases hV : Lex.toksL ((u ++ 35 :: y) ++ [10]) (((u ++ 35 :: y) ++ [10]).length + 1) 0 with
        | mk ts' o' =>
        cases o' with
        | none =>
          simp only [tokensV_ok (by omega) hV] at hT2
          refine CallK.of (hT2 _) ?_
          repeat (first | apply RunP.seq | apply RunP.region | apply RunP.condT rfl | apply RunP.condF rfl | apply RunP.skip | apply RunP.block | apply RunP.exit | apply RunP.ret)
          refine And.intro (fun q => absurd q (by decide)) (fun _ => ?_)
          repeat (first | apply RunP.seq | apply RunP.region | apply RunP.condT rfl | apply RunP.condF rfl | apply RunP.skip | apply RunP.block | apply RunP.exit | apply RunP.ret)
          refine And.intro (fun _ => ?_) (fun q => absurd rfl q)
          refine And.intro (fun _ => ?_) (fun q => absurd rfl q)
          refine CallK.of (awake_told _) ?_
          repeat (first | apply RunP.seq | apply RunP.region | apply RunP.condT rfl | apply RunP.condF rfl | apply RunP.skip | apply RunP.block | apply RunP.exit | apply RunP.ret)
          exact ⟨rfl, rfl, rfl⟩
        | some b =>
          simp only [tokensV_bad (by omega) hV] at hT2
          refine CallK.of (hT2 _) ?_
          repeat (first | apply RunP.seq | apply RunP.region | apply RunP.condT rfl | apply RunP.condF rfl | apply RunP.skip | apply RunP.block | apply RunP.exit | apply RunP.ret)
          refine And.intro (fun _ => ?_) (fun q => absurd rfl q)
          refine And.intro (fun _ => ?_) (fun q => absurd rfl q)
          repeat (first | apply RunP.seq | apply RunP.region | apply RunP.condT rfl | apply RunP.condF rfl | apply RunP.skip | apply RunP.block | apply RunP.exit | apply RunP.ret)
          refine RunP.loop (cmK u a) ?_ 0 ⟨0, by omega, rfl, rfl, rfl, rfl, rfl, rfl, rfl⟩
          intro k2 st2 g2 hJ
          obtain ⟨z2, x2, _, rfl⟩ := cmK_lit hJ
          clear hJ
          repeat (first | apply RunP.seq | apply RunP.region | apply RunP.condT rfl | apply RunP.condF rfl | apply RunP.skip | apply RunP.block | apply RunP.exit | apply RunP.ret)
          refine And.intro (fun q => absurd q (by decide)) (fun _ => ?_)
          repeat (first | apply RunP.seq | apply RunP.region | apply RunP.condT rfl | apply RunP.condF rfl | apply RunP.skip | apply RunP.block | apply RunP.exit | apply RunP.ret)
          refine And.intro (fun q => absurd q (by decide)) (fun _ => ?_)
          refine CallK.of (awake_told _) ?_
          repeat (first | apply RunP.seq | apply RunP.region | apply RunP.condT rfl | apply RunP.condF rfl | apply RunP.skip | apply RunP.block | apply RunP.exit | apply RunP.ret)
          exact ⟨rfl, rfl, rfl⟩
  · have hk : k = 0 := by omega
    obtain ⟨y, rfl, hy⟩ := hcy
    have hu : u.length ≤ 3900 := by omega
    have hyl : y.length ≤ 50 := by simp only [List.length_cons] at hcl; omega
    have hlV : ((u ++ 35 :: y) ++ [10]).length = u.length + y.length + 2 := by simp only [List.length_append, List.length_cons, List.length_nil]; omega
    have hT1 := fun g => Tokens_has g u (by omega)
    have hT2 := fun g => Tokens_has g ((u ++ 35 :: y) ++ [10]) (by omega)
    repeat (first | apply RunP.seq | apply RunP.region | apply RunP.condT rfl | apply RunP.condF rfl | apply RunP.skip | apply RunP.block | apply RunP.exit | apply RunP.ret)
    cases hT : Lex.toksL u (u.length + 1) 0 with
    | mk ts o =>
    have htl : ts.length ≤ 3901 := by have := toks_len u (u.length + 1) 0; rw [hT] at this; simp only [] at this; omega
    cases o with
    | none =>
      have hTV := comment_toks (y := y) hy hT
      simp only [tokensV_ok (by omega) hT] at hT1
      simp only [tokensV_ok (by omega) hTV] at hT2
      rw [map_snoc] at hT1 hT2
      have hla : ((ts ++ [((6 : Int), ([] : List UInt8), (u.length : Int))]).map tkV).length = ts.length + 1 := by simp
      have hlb : ((ts ++ [((6 : Int), ([] : List UInt8), (((u ++ 35 :: y) ++ [10]).length : Int))]).map tkV).length = ts.length + 1 := by simp
      have hgb : ((ts ++ [((6 : Int), ([] : List UInt8), (((u ++ 35 :: y) ++ [10]).length : Int))]).map tkV)[ts.length]? = some (tkV (6, [], (((u ++ 35 :: y) ++ [10]).length : Int))) := by simp
      have hea : ∀ (i : Nat) (hi : i < ts.length) (a : TokT), ((ts ++ [a]).map tkV)[i]? = some (tkV ts[i]) := fun i hi a => by simp [List.getElem?_append_left, hi]
      have haL : ((((u ++ 35 :: y) ++ [10]).length : Nat) : Int) = u.length + y.length + 2 := by rw [hlV]; omega
      generalize (((u ++ 35 :: y) ++ [10]).length : Int) = lV at *
      refine CallK.of (hT1 _) ?_
      repeat (first | apply RunP.seq | apply RunP.region | apply RunP.condT rfl | apply RunP.condF rfl | apply RunP.skip | apply RunP.block | apply RunP.exit | apply RunP.ret)
      refine And.intro (by simp only [List.length_cons]; omega) ?_
      refine And.intro (by simp only [List.length_cons, List.length_append, List.length_nil]; omega) ?_
      refine CallK.of (hT2 _) ?_
      repeat (first | apply RunP.seq | apply RunP.region | apply RunP.condT rfl | apply RunP.condF rfl | apply RunP.skip | apply RunP.block | apply RunP.exit | apply RunP.ret)
      refine And.intro (fun _ => ?_) (fun q => absurd rfl q)
      refine And.intro (fun _ => ?_) (fun q => absurd (by rw [hla, hlb]) q)
      repeat (first | apply RunP.seq | apply RunP.region | apply RunP.condT rfl | apply RunP.condF rfl | apply RunP.skip | apply RunP.block | apply RunP.exit | apply RunP.ret)
      refine RunP.loop (cmJ u (35 :: y) ts _ _) ?_ ts.length ⟨0, _, ⟨by omega, rfl⟩, rfl, rfl, rfl, rfl, rfl, rfl, rfl, rfl, rfl⟩
      clear hT1 hT2
      intro k2 st2 g2 hJ
      obtain ⟨i2, z2, x2, ⟨hik2, hz2⟩, rfl⟩ := cmJ_lit hJ
      clear hJ
      subst hz2
      have ew2 : IntKind.i64.wrap ((i2 : Int) + 1) = ((i2 + 1 : Nat) : Int) := wrap1 (by omega)
      repeat (first | apply RunP.seq | apply RunP.region | apply RunP.condT rfl | apply RunP.condF rfl | apply RunP.skip | apply RunP.block | apply RunP.exit | apply RunP.ret)
      refine And.intro (fun q1 => ?_) (fun q1 => ?_)
      · rw [ew2, hla] at q1
        have hi2 : i2 < ts.length := by omega
        repeat (first | apply RunP.seq | apply RunP.region | apply RunP.condT rfl | apply RunP.condF rfl | apply RunP.skip | apply RunP.block | apply RunP.exit | apply RunP.ret)
        apply RunP.drawn
        · decide +kernel
        refine And.intro (by omega) (And.intro rfl (Exists.intro _ (And.intro (hea i2 hi2 _) ?_)))
        refine drawZ (by decide +kernel) (by decide +kernel) ?_
        refine And.intro (by omega) (And.intro rfl (Exists.intro _ (And.intro (hea i2 hi2 _) ?_)))
        refine drawZ (by decide +kernel) (by decide +kernel) ?_
        refine bindK_of (eq_tok ts[i2]) ?_
        refine drawZ (by decide +kernel) (by decide +kernel) ?_
        repeat (first | apply RunP.seq | apply RunP.region | apply RunP.condT rfl | apply RunP.condF rfl | apply RunP.skip | apply RunP.block | apply RunP.exit | apply RunP.ret)
        exact ⟨k2 - 1, by omega, i2 + 1, _, ⟨by omega, ew2⟩, rfl, rfl, rfl, rfl, rfl, rfl, rfl, rfl, rfl⟩
      · repeat (first | apply RunP.seq | apply RunP.region | apply RunP.condT rfl | apply RunP.condF rfl | apply RunP.skip | apply RunP.block | apply RunP.exit | apply RunP.ret)
        refine And.intro (fun _ => ?_) (fun q => absurd rfl q)
        refine And.intro (fun _ => ?_) (fun q => absurd q (by rw [hlb]; omega))
        have ewm : IntKind.i64.wrap ((((ts ++ [((6 : Int), ([] : List UInt8), lV)]).map tkV).length : Int) - 1) = ((ts.length : Nat) : Int) := by rw [hlb, wrapS (by omega) (by omega)]; omega
        have hgm : ((ts ++ [((6 : Int), ([] : List UInt8), lV)]).map tkV)[(IntKind.i64.wrap ((((ts ++ [((6 : Int), ([] : List UInt8), lV)]).map tkV).length : Int) - 1)).toNat]? = some (tkV (6, [], lV)) := by rw [ewm, Int.toNat_natCast]; exact hgb
        refine And.intro (by rw [ewm]; omega) (And.intro rfl (Exists.intro _ (And.intro hgm ?_)))
        refine And.intro (fun _ => ?_) (fun q => absurd (show lV = IntKind.i64.wrap (IntKind.i64.wrap ((u.length : Int) + (((35 :: y : List UInt8).length : Nat) : Int)) + 1) from by rw [haL, List.length_cons, wrapS (x := (u.length : Int) + ((y.length + 1 : Nat) : Int)) (by omega) (by omega), wrapS (by omega) (by omega)]; omega) q)
        refine CallK.of (awake_told _) ?_
        repeat (first | apply RunP.seq | apply RunP.region | apply RunP.condT rfl | apply RunP.condF rfl | apply RunP.skip | apply RunP.block | apply RunP.exit | apply RunP.ret)
        exact ⟨rfl, rfl, rfl⟩
    | some a =>
      simp only [tokensV_bad (by omega) hT] at hT1
      refine CallK.of (hT1 _) ?_
      repeat (first | apply RunP.seq | apply RunP.region | apply RunP.condT rfl | apply RunP.condF rfl | apply RunP.skip | apply RunP.block | apply RunP.exit | apply RunP.ret)
      refine And.intro (by simp only [List.length_cons]; omega) ?_
      refine And.intro (by simp only [List.length_cons, List.length_append, List.length_nil]; omega) ?_
      cases hV : Lex.toksL ((u ++ 35 :: y) ++ [10]) (((u ++ 35 :: y) ++ [10]).length + 1) 0 with
      | mk ts' o' =>
      cases o' with
      | none =>
        simp only [tokensV_ok (by omega) hV] at hT2
        refine CallK.of (hT2 _) ?_
        repeat (first | apply RunP.seq | apply RunP.region | apply RunP.condT rfl | apply RunP.condF rfl | apply RunP.skip | apply RunP.block | apply RunP.exit | apply RunP.ret)
        refine And.intro (fun q => absurd q (by decide)) (fun _ => ?_)
        repeat (first | apply RunP.seq | apply RunP.region | apply RunP.condT rfl | apply RunP.condF rfl | apply RunP.skip | apply RunP.block | apply RunP.exit | apply RunP.ret)
        refine And.intro (fun _ => ?_) (fun q => absurd rfl q)
        refine And.intro (fun _ => ?_) (fun q => absurd rfl q)
        refine CallK.of (awake_told _) ?_
        repeat (first | apply RunP.seq | apply RunP.region | apply RunP.condT rfl | apply RunP.condF rfl | apply RunP.skip | apply RunP.block | apply RunP.exit | apply RunP.ret)
        exact ⟨rfl, rfl, rfl⟩
      | some b =>
        simp only [tokensV_bad (by omega) hV] at hT2
        refine CallK.of (hT2 _) ?_
        repeat (first | apply RunP.seq | apply RunP.region | apply RunP.condT rfl | apply RunP.condF rfl | apply RunP.skip | apply RunP.block | apply RunP.exit | apply RunP.ret)
        refine And.intro (fun _ => ?_) (fun q => absurd rfl q)
        refine And.intro (fun _ => ?_) (fun q => absurd rfl q)
        repeat (first | apply RunP.seq | apply RunP.region | apply RunP.condT rfl | apply RunP.condF rfl | apply RunP.skip | apply RunP.block | apply RunP.exit | apply RunP.ret)
        refine RunP.loop (cmK u a) ?_ 0 ⟨0, by omega, rfl, rfl, rfl, rfl, rfl, rfl, rfl⟩
        intro k2 st2 g2 hJ
        obtain ⟨z2, x2, _, rfl⟩ := cmK_lit hJ
        clear hJ
        repeat (first | apply RunP.seq | apply RunP.region | apply RunP.condT rfl | apply RunP.condF rfl | apply RunP.skip | apply RunP.block | apply RunP.exit | apply RunP.ret)
        refine And.intro (fun q => absurd q (by decide)) (fun _ => ?_)
        repeat (first | apply RunP.seq | apply RunP.region | apply RunP.condT rfl | apply RunP.condF rfl | apply RunP.skip | apply RunP.block | apply RunP.exit | apply RunP.ret)
        refine And.intro (fun q => absurd q (by decide)) (fun _ => ?_)
        refine CallK.of (awake_told _) ?_
        repeat (first | apply RunP.seq | apply RunP.region | apply RunP.condT rfl | apply RunP.condF rfl | apply RunP.skip | apply RunP.block | apply RunP.exit | apply RunP.ret)
        exact ⟨rfl, rfl, rfl⟩
end Go.Proofs.YtmpgphjbeoboaaaDoor
