/- LexisParts: the law answers true. -/
import Derived.Test.YtmpgphjbeoboaaaDoorSbLexisComment
import Derived.Test.YtmpgphjbeoboaaaDoorSbLexT4
import Derived.Test.YtmpgphjbeoboaaaDoorSbDraw2
set_option linter.unusedVariables false
set_option linter.unusedSimpArgs false
namespace Go.Proofs.YtmpgphjbeoboaaaDoor
open Go.Sb
set_option maxRecDepth 100000
def ptI (u : Bs) (n : Int) (L R M : List TokT) (k : Nat) (s : List V) (h : Heap) : Prop :=
  ∃ (i : Nat) (z : Int), (i + k = M.length ∧ z = i) ∧ s.length = 130 ∧ s.getD 0 und = und ∧ s.getD 5 und = .bool false ∧ s.getD 6 und = .str u ∧ s.getD 8 und = .lst 3 (L.map tkV) ∧ s.getD 11 und = .lst 3 (R.map tkV) ∧ s.getD 14 und = .lst 3 (M.map tkV) ∧ s.getD 17 und = .int .i64 z
theorem ptI_lit {u : Bs} {n : Int} {L R M : List TokT} {k : Nat} {s : List V} {h : Heap} (hI : ptI u n L R M k s h) : ∃ (i : Nat) (z : Int) (x : Nat → V), (i + k = M.length ∧ z = i) ∧
    s = [und, x 1, x 2, x 3, x 4, .bool false, .str u, x 7, .lst 3 (L.map tkV), x 9, x 10, .lst 3 (R.map tkV), x 12, x 13, .lst 3 (M.map tkV), x 15, x 16, .int .i64 z, x 18, x 19, x 20, x 21, x 22, x 23, x 24, x 25, x 26, x 27, x 28, x 29, x 30, x 31, x 32, x 33, x 34, x 35, x 36, x 37, x 38, x 39, x 40, x 41, x 42, x 43, x 44, x 45, x 46, x 47, x 48, x 49, x 50, x 51, x 52, x 53, x 54, x 55, x 56, x 57, x 58, x 59, x 60, x 61, x 62, x 63, x 64, x 65, x 66, x 67, x 68, x 69, x 70, x 71, x 72, x 73, x 74, x 75, x 76, x 77, x 78, x 79, x 80, x 81, x 82, x 83, x 84, x 85, x 86, x 87, x 88, x 89, x 90, x 91, x 92, x 93, x 94, x 95, x 96, x 97, x 98, x 99, x 100, x 101, x 102, x 103, x 104, x 105, x 106, x 107, x 108, x 109, x 110, x 111, x 112, x 113, x 114, x 115, x 116, x 117, x 118, x 119, x 120, x 121, x 122, x 123, x 124, x 125, x 126, x 127, x 128, x 129] := by
  obtain ⟨i, z, hF, hl, e0, e5, e6, e8, e11, e14, e17⟩ := hI
  refine ⟨i, z, fun n => s.getD n und, hF, (lit_of hl).trans ?_⟩
  show [s.getD 0 und, s.getD 1 und, s.getD 2 und, s.getD 3 und, s.getD 4 und, s.getD 5 und, s.getD 6 und, s.getD 7 und, s.getD 8 und, s.getD 9 und, s.getD 10 und, s.getD 11 und, s.getD 12 und, s.getD 13 und, s.getD 14 und, s.getD 15 und, s.getD 16 und, s.getD 17 und, s.getD 18 und, s.getD 19 und, s.getD 20 und, s.getD 21 und, s.getD 22 und, s.getD 23 und, s.getD 24 und, s.getD 25 und, s.getD 26 und, s.getD 27 und, s.getD 28 und, s.getD 29 und, s.getD 30 und, s.getD 31 und, s.getD 32 und, s.getD 33 und, s.getD 34 und, s.getD 35 und, s.getD 36 und, s.getD 37 und, s.getD 38 und, s.getD 39 und, s.getD 40 und, s.getD 41 und, s.getD 42 und, s.getD 43 und, s.getD 44 und, s.getD 45 und, s.getD 46 und, s.getD 47 und, s.getD 48 und, s.getD 49 und, s.getD 50 und, s.getD 51 und, s.getD 52 und, s.getD 53 und, s.getD 54 und, s.getD 55 und, s.getD 56 und, s.getD 57 und, s.getD 58 und, s.getD 59 und, s.getD 60 und, s.getD 61 und, s.getD 62 und, s.getD 63 und, s.getD 64 und, s.getD 65 und, s.getD 66 und, s.getD 67 und, s.getD 68 und, s.getD 69 und, s.getD 70 und, s.getD 71 und, s.getD 72 und, s.getD 73 und, s.getD 74 und, s.getD 75 und, s.getD 76 und, s.getD 77 und, s.getD 78 und, s.getD 79 und, s.getD 80 und, s.getD 81 und, s.getD 82 und, s.getD 83 und, s.getD 84 und, s.getD 85 und, s.getD 86 und, s.getD 87 und, s.getD 88 und, s.getD 89 und, s.getD 90 und, s.getD 91 und, s.getD 92 und, s.getD 93 und, s.getD 94 und, s.getD 95 und, s.getD 96 und, s.getD 97 und, s.getD 98 und, s.getD 99 und, s.getD 100 und, s.getD 101 und, s.getD 102 und, s.getD 103 und, s.getD 104 und, s.getD 105 und, s.getD 106 und, s.getD 107 und, s.getD 108 und, s.getD 109 und, s.getD 110 und, s.getD 111 und, s.getD 112 und, s.getD 113 und, s.getD 114 und, s.getD 115 und, s.getD 116 und, s.getD 117 und, s.getD 118 und, s.getD 119 und, s.getD 120 und, s.getD 121 und, s.getD 122 und, s.getD 123 und, s.getD 124 und, s.getD 125 und, s.getD 126 und, s.getD 127 und, s.getD 128 und, s.getD 129 und] = _
  rw [e0, e5, e6, e8, e11, e14, e17]
def ptM (u : Bs) (i : Nat) (L R M : List TokT) (b : Nat) (k : Nat) (s : List V) (h : Heap) : Prop :=
  ∃ (z : Int), (z = i) ∧ s.length = 130 ∧ s.getD 0 und = und ∧ s.getD 5 und = .bool false ∧ s.getD 6 und = .str u ∧ s.getD 8 und = .lst 3 (L.map tkV) ∧ s.getD 11 und = .lst 3 (R.map tkV) ∧ s.getD 14 und = .lst 3 (M.map tkV) ∧ s.getD 17 und = .int .i64 z ∧ s.getD 18 und = .ptr b 0 3
theorem ptM_lit {u : Bs} {i : Nat} {L R M : List TokT} {b : Nat} {k : Nat} {s : List V} {h : Heap} (hI : ptM u i L R M b k s h) : ∃ (z : Int) (x : Nat → V), (z = i) ∧
    s = [und, x 1, x 2, x 3, x 4, .bool false, .str u, x 7, .lst 3 (L.map tkV), x 9, x 10, .lst 3 (R.map tkV), x 12, x 13, .lst 3 (M.map tkV), x 15, x 16, .int .i64 z, .ptr b 0 3, x 19, x 20, x 21, x 22, x 23, x 24, x 25, x 26, x 27, x 28, x 29, x 30, x 31, x 32, x 33, x 34, x 35, x 36, x 37, x 38, x 39, x 40, x 41, x 42, x 43, x 44, x 45, x 46, x 47, x 48, x 49, x 50, x 51, x 52, x 53, x 54, x 55, x 56, x 57, x 58, x 59, x 60, x 61, x 62, x 63, x 64, x 65, x 66, x 67, x 68, x 69, x 70, x 71, x 72, x 73, x 74, x 75, x 76, x 77, x 78, x 79, x 80, x 81, x 82, x 83, x 84, x 85, x 86, x 87, x 88, x 89, x 90, x 91, x 92, x 93, x 94, x 95, x 96, x 97, x 98, x 99, x 100, x 101, x 102, x 103, x 104, x 105, x 106, x 107, x 108, x 109, x 110, x 111, x 112, x 113, x 114, x 115, x 116, x 117, x 118, x 119, x 120, x 121, x 122, x 123, x 124, x 125, x 126, x 127, x 128, x 129] := by
  obtain ⟨z, hF, hl, e0, e5, e6, e8, e11, e14, e17, e18⟩ := hI
  refine ⟨z, fun n => s.getD n und, hF, (lit_of hl).trans ?_⟩
  show [s.getD 0 und, s.getD 1 und, s.getD 2 und, s.getD 3 und, s.getD 4 und, s.getD 5 und, s.getD 6 und, s.getD 7 und, s.getD 8 und, s.getD 9 und, s.getD 10 und, s.getD 11 und, s.getD 12 und, s.getD 13 und, s.getD 14 und, s.getD 15 und, s.getD 16 und, s.getD 17 und, s.getD 18 und, s.getD 19 und, s.getD 20 und, s.getD 21 und, s.getD 22 und, s.getD 23 und, s.getD 24 und, s.getD 25 und, s.getD 26 und, s.getD 27 und, s.getD 28 und, s.getD 29 und, s.getD 30 und, s.getD 31 und, s.getD 32 und, s.getD 33 und, s.getD 34 und, s.getD 35 und, s.getD 36 und, s.getD 37 und, s.getD 38 und, s.getD 39 und, s.getD 40 und, s.getD 41 und, s.getD 42 und, s.getD 43 und, s.getD 44 und, s.getD 45 und, s.getD 46 und, s.getD 47 und, s.getD 48 und, s.getD 49 und, s.getD 50 und, s.getD 51 und, s.getD 52 und, s.getD 53 und, s.getD 54 und, s.getD 55 und, s.getD 56 und, s.getD 57 und, s.getD 58 und, s.getD 59 und, s.getD 60 und, s.getD 61 und, s.getD 62 und, s.getD 63 und, s.getD 64 und, s.getD 65 und, s.getD 66 und, s.getD 67 und, s.getD 68 und, s.getD 69 und, s.getD 70 und, s.getD 71 und, s.getD 72 und, s.getD 73 und, s.getD 74 und, s.getD 75 und, s.getD 76 und, s.getD 77 und, s.getD 78 und, s.getD 79 und, s.getD 80 und, s.getD 81 und, s.getD 82 und, s.getD 83 und, s.getD 84 und, s.getD 85 und, s.getD 86 und, s.getD 87 und, s.getD 88 und, s.getD 89 und, s.getD 90 und, s.getD 91 und, s.getD 92 und, s.getD 93 und, s.getD 94 und, s.getD 95 und, s.getD 96 und, s.getD 97 und, s.getD 98 und, s.getD 99 und, s.getD 100 und, s.getD 101 und, s.getD 102 und, s.getD 103 und, s.getD 104 und, s.getD 105 und, s.getD 106 und, s.getD 107 und, s.getD 108 und, s.getD 109 und, s.getD 110 und, s.getD 111 und, s.getD 112 und, s.getD 113 und, s.getD 114 und, s.getD 115 und, s.getD 116 und, s.getD 117 und, s.getD 118 und, s.getD 119 und, s.getD 120 und, s.getD 121 und, s.getD 122 und, s.getD 123 und, s.getD 124 und, s.getD 125 und, s.getD 126 und, s.getD 127 und, s.getD 128 und, s.getD 129 und] = _
  rw [e0, e5, e6, e8, e11, e14, e17, e18]
set_option maxHeartbeats 16000000 in
theorem toks_pos (u : List UInt8) : ∀ (k j : Nat), ∀ t ∈ (Lex.toksL u k j).1, 0 ≤ t.2.2 ∧ t.2.2 ≤ u.length
  | 0, _, t, h => by simp [Lex.toksL] at h
  | k + 1, j, t, h => by
    have hle := Lex.skipN_le u j
    by_cases hs : Lex.skipN u j < u.length
    · cases ht : Lex.tokL (u.drop (Lex.skipN u j)) with
      | none => rw [Lex.toks_bad hs ht] at h; cases h
      | some p =>
        rw [Lex.toks_tok hs ht] at h
        rcases List.mem_cons.1 h with q | q
        · subst q; exact ⟨by simp only []; omega, by simp only []; omega⟩
        · exact toks_pos u k _ t q
    · rw [Lex.toks_end (by omega)] at h; cases h
theorem toks_at_le (u : List UInt8) : ∀ (k j b : Nat), (Lex.toksL u k j).2 = some b → b ≤ u.length
  | 0, _, b, h => by simp [Lex.toksL] at h
  | k + 1, j, b, h => by
    have hle := Lex.skipN_le u j
    by_cases hs : Lex.skipN u j < u.length
    · cases ht : Lex.tokL (u.drop (Lex.skipN u j)) with
      | none => rw [Lex.toks_bad hs ht] at h; cases h; omega
      | some p => rw [Lex.toks_tok hs ht] at h; exact toks_at_le u k _ b h
    · rw [Lex.toks_end (by omega)] at h; cases h
def shT (n : Nat) (t : TokT) : TokT := (t.1, t.2.1, t.2.2 + n)
set_option maxHeartbeats 16000000 in
theorem lexisParts_has (s : List UInt8) (hs : s.length ≤ 9223372036854775807) (s2 : List UInt8) (hs2 : s2.length ≤ 9223372036854775807) : Has envQ .own 7 [.str s, .str s2] [] (.val (.bool true) []) := by
  refine HasP.own (a := [.str s, .str s2]) (d := fn7) rfl rfl rfl (of_decide_eq_true rfl) ?_
  repeat (first | apply RunP.seq | apply RunP.region | apply RunP.condT rfl | apply RunP.condF rfl | apply RunP.skip | apply RunP.block | apply RunP.exit | apply RunP.ret)
  apply RunP.drawn
  · decide +kernel
  apply And.intro
  · split <;> omega
  apply And.intro
  · split <;> omega
  apply And.intro
  · split <;> omega
  apply And.intro
  · split <;> omega
  have hx := brief_len 1900 s
  have hx2 := brief_len 1900 s2
  generalize List.drop 0 (List.take (if (1900 : Int) < (s.length : Int) then (1900 : Int) else (s.length : Int)).toNat s) = u at hx ⊢
  generalize List.drop 0 (List.take (if (1900 : Int) < (s2.length : Int) then (1900 : Int) else (s2.length : Int)).toNat s2) = w at hx2 ⊢
  have hu : u.length ≤ 1900 := by omega
  have hw : w.length ≤ 1900 := by omega
  have hlV : ((u ++ [10]) ++ w).length = u.length + w.length + 1 := by simp only [List.length_append, List.length_cons, List.length_nil]; omega
  have hT1 := fun g => Tokens_has g u (by omega)
  have hT2 := fun g => Tokens_has g w (by omega)
  have hT3 := fun g => Tokens_has g ((u ++ [10]) ++ w) (by omega)
  have hV := Lex.toks_parts (u := u) (w := w) (u.length + 1) (((u ++ [10]) ++ w).length + 1) 0 (by omega) (by simp only [List.length_append, List.length_cons, List.length_nil]; omega) (by omega)
  rw [show u ++ 10 :: w = (u ++ [10]) ++ w from by simp] at hV
  repeat (first | apply RunP.seq | apply RunP.region | apply RunP.condT rfl | apply RunP.condF rfl | apply RunP.skip | apply RunP.block | apply RunP.exit | apply RunP.ret)
  cases hU : Lex.toksL u (u.length + 1) 0 with
  | mk ts o =>
  rw [hU] at hV
  cases o with
  | some a =>
    obtain ⟨l2, a2, e2, hv2, _⟩ := tokens_form w (by omega)
    simp only [tokensV_bad (by omega) hU] at hT1
    simp only [hv2] at hT2
    simp only [tokensV_bad (by omega) hV] at hT3
    refine CallK.of (hT1 _) ?_
    repeat (first | apply RunP.seq | apply RunP.region | apply RunP.condT rfl | apply RunP.condF rfl | apply RunP.skip | apply RunP.block | apply RunP.exit | apply RunP.ret)
    refine CallK.of (hT2 _) ?_
    repeat (first | apply RunP.seq | apply RunP.region | apply RunP.condT rfl | apply RunP.condF rfl | apply RunP.skip | apply RunP.block | apply RunP.exit | apply RunP.ret)
    refine And.intro (by simp only [List.length_cons, List.length_nil]; omega) ?_
    refine And.intro (by simp only [List.length_cons, List.length_append, List.length_nil]; omega) ?_
    refine CallK.of (hT3 _) ?_
    repeat (first | apply RunP.seq | apply RunP.region | apply RunP.condT rfl | apply RunP.condF rfl | apply RunP.skip | apply RunP.block | apply RunP.exit | apply RunP.ret)
    refine And.intro (fun q => absurd q (by decide)) (fun _ => ?_)
    repeat (first | apply RunP.seq | apply RunP.region | apply RunP.condT rfl | apply RunP.condF rfl | apply RunP.skip | apply RunP.block | apply RunP.exit | apply RunP.ret)
    refine And.intro (fun _ => ?_) (fun q => absurd rfl q)
    refine And.intro (fun _ => ?_) (fun q => absurd rfl q)
    refine CallK.of (awake_told _) ?_
    repeat (first | apply RunP.seq | apply RunP.region | apply RunP.condT rfl | apply RunP.condF rfl | apply RunP.skip | apply RunP.block | apply RunP.exit | apply RunP.ret)
    exact ⟨rfl, rfl, rfl⟩
  | none =>
    simp only [tokensV_ok (by omega) hU] at hT1
    cases hW : Lex.toksL w (w.length + 1) 0 with
    | mk ts2 o2 =>
    rw [hW] at hV
    cases o2 with
    | some b =>
      have hb : b ≤ w.length := toks_at_le w (w.length + 1) 0 b (by rw [hW])
      simp only [tokensV_bad (by omega) hW] at hT2
      simp only [tokensV_bad (a := u.length + 1 + b) (by omega) hV] at hT3
      refine CallK.of (hT1 _) ?_
      repeat (first | apply RunP.seq | apply RunP.region | apply RunP.condT rfl | apply RunP.condF rfl | apply RunP.skip | apply RunP.block | apply RunP.exit | apply RunP.ret)
      refine CallK.of (hT2 _) ?_
      repeat (first | apply RunP.seq | apply RunP.region | apply RunP.condT rfl | apply RunP.condF rfl | apply RunP.skip | apply RunP.block | apply RunP.exit | apply RunP.ret)
      refine And.intro (by simp only [List.length_cons, List.length_nil]; omega) ?_
      refine And.intro (by simp only [List.length_cons, List.length_append, List.length_nil]; omega) ?_
      refine CallK.of (hT3 _) ?_
      repeat (first | apply RunP.seq | apply RunP.region | apply RunP.condT rfl | apply RunP.condF rfl | apply RunP.skip | apply RunP.block | apply RunP.exit | apply RunP.ret)
      refine And.intro (fun _ => ?_) (fun q => absurd rfl q)
      repeat (first | apply RunP.seq | apply RunP.region | apply RunP.condT rfl | apply RunP.condF rfl | apply RunP.skip | apply RunP.block | apply RunP.exit | apply RunP.ret)
      refine And.intro (fun q => absurd q (by decide)) (fun _ => ?_)
      repeat (first | apply RunP.seq | apply RunP.region | apply RunP.condT rfl | apply RunP.condF rfl | apply RunP.skip | apply RunP.block | apply RunP.exit | apply RunP.ret)
      refine And.intro (fun _ => ?_) (fun q => absurd rfl q)
      refine And.intro (fun _ => ?_) (fun q => absurd (show ((u.length + 1 + b : Nat) : Int) = IntKind.i64.wrap (IntKind.i64.wrap ((u.length : Int) + 1) + (b : Int)) from by rw [wrap1 (by omega), wrapS (by omega) (by omega)]; omega) q)
      refine CallK.of (awake_told _) ?_
      repeat (first | apply RunP.seq | apply RunP.region | apply RunP.condT rfl | apply RunP.condF rfl | apply RunP.skip | apply RunP.block | apply RunP.exit | apply RunP.ret)
      exact ⟨rfl, rfl, rfl⟩
    | none =>
      simp only [tokensV_ok (by omega) hW] at hT2
      simp only [tokensV_ok (ts := ts ++ ts2.map (shT (u.length + 1))) (by omega) hV] at hT3
      have hpos : ∀ r ∈ ts2 ++ [((6 : Int), ([] : List UInt8), (w.length : Int))], 0 ≤ r.2.2 ∧ r.2.2 ≤ w.length := fun r hr => by
        rcases List.mem_append.1 hr with q | q
        · have := toks_pos w (w.length + 1) 0 r; rw [hW] at this; exact this q
        · rw [List.mem_singleton] at q; subst q; exact ⟨by simp only []; omega, by simp only []; omega⟩
      have hMeq : (ts ++ ts2.map (shT (u.length + 1))) ++ [((6 : Int), ([] : List UInt8), ((((u ++ [10]) ++ w).length : Nat) : Int))] = ts ++ (ts2 ++ [((6 : Int), ([] : List UInt8), (w.length : Int))]).map (shT (u.length + 1)) := by
        rw [hlV, List.map_append, List.append_assoc]
        congr 2
        show [((6 : Int), ([] : List UInt8), ((u.length + w.length + 1 : Nat) : Int))] = [((6 : Int), ([] : List UInt8), (w.length : Int) + ((u.length + 1 : Nat) : Int))]
        rw [show ((u.length + w.length + 1 : Nat) : Int) = (w.length : Int) + ((u.length + 1 : Nat) : Int) from by omega]
      rw [map_snoc] at hT1 hT2 hT3
      rw [hMeq] at hT3
      have hlts : ts.length ≤ 1901 := by have := toks_len u (u.length + 1) 0; rw [hU] at this; simp only [] at this; omega
      have hlts2 : ts2.length ≤ 1901 := by have := toks_len w (w.length + 1) 0; rw [hW] at this; simp only [] at this; omega
      generalize hR : ts2 ++ [((6 : Int), ([] : List UInt8), (w.length : Int))] = RL at *
      have hRl : RL.length = ts2.length + 1 := by rw [← hR]; simp
      generalize ((6 : Int), ([] : List UInt8), (u.length : Int)) = en at *
      have hlL : ((ts ++ [en]).map tkV).length = ts.length + 1 := by simp
      have hlR : (RL.map tkV).length = ts2.length + 1 := by simp [hRl]
      have hlM : ((ts ++ RL.map (shT (u.length + 1))).map tkV).length = ts.length + ts2.length + 1 := by simp [hRl]; omega
      have hlM2 : (ts ++ RL.map (shT (u.length + 1))).length = ts.length + ts2.length + 1 := by simp [hRl]; omega
      have ewr : IntKind.i64.wrap (IntKind.i64.wrap ((((ts ++ [en]).map tkV).length : Int) + ((RL.map tkV).length : Int)) - 1) = ((ts.length + ts2.length + 1 : Nat) : Int) := by
        rw [hlL, hlR, wrapS (x := ((ts.length + 1 : Nat) : Int) + ((ts2.length + 1 : Nat) : Int)) (by omega) (by omega), wrapS (by omega) (by omega)]; omega
      refine CallK.of (hT1 _) ?_
      repeat (first | apply RunP.seq | apply RunP.region | apply RunP.condT rfl | apply RunP.condF rfl | apply RunP.skip | apply RunP.block | apply RunP.exit | apply RunP.ret)
      refine CallK.of (hT2 _) ?_
      repeat (first | apply RunP.seq | apply RunP.region | apply RunP.condT rfl | apply RunP.condF rfl | apply RunP.skip | apply RunP.block | apply RunP.exit | apply RunP.ret)
      refine And.intro (by simp only [List.length_cons, List.length_nil]; omega) ?_
      refine And.intro (by simp only [List.length_cons, List.length_append, List.length_nil]; omega) ?_
      refine CallK.of (hT3 _) ?_
      clear hT1 hT2 hT3
      repeat (first | apply RunP.seq | apply RunP.region | apply RunP.condT rfl | apply RunP.condF rfl | apply RunP.skip | apply RunP.block | apply RunP.exit | apply RunP.ret)
      refine And.intro (fun _ => ?_) (fun q => absurd rfl q)
      repeat (first | apply RunP.seq | apply RunP.region | apply RunP.condT rfl | apply RunP.condF rfl | apply RunP.skip | apply RunP.block | apply RunP.exit | apply RunP.ret)
      refine And.intro (fun _ => ?_) (fun q => absurd rfl q)
      repeat (first | apply RunP.seq | apply RunP.region | apply RunP.condT rfl | apply RunP.condF rfl | apply RunP.skip | apply RunP.block | apply RunP.exit | apply RunP.ret)
      refine And.intro (fun _ => ?_) (fun q => absurd rfl q)
      refine And.intro (fun _ => ?_) (fun q => absurd (by rw [ewr, hlM]) q)
      repeat (first | apply RunP.seq | apply RunP.region | apply RunP.condT rfl | apply RunP.condF rfl | apply RunP.skip | apply RunP.block | apply RunP.exit | apply RunP.ret)
      refine RunP.loop (ptI u 0 (ts ++ [en]) RL (ts ++ RL.map (shT (u.length + 1)))) ?_ _ ⟨0, _, ⟨Nat.zero_add _, rfl⟩, rfl, rfl, rfl, rfl, rfl, rfl, rfl, rfl⟩
      intro k st g hI
      obtain ⟨i, z, x, ⟨hik, hz⟩, rfl⟩ := ptI_lit hI
      clear hI
      subst hz
      have ew : IntKind.i64.wrap ((i : Int) + 1) = ((i + 1 : Nat) : Int) := wrap1 (by omega)
      repeat (first | apply RunP.seq | apply RunP.region | apply RunP.condT rfl | apply RunP.condF rfl | apply RunP.skip | apply RunP.block | apply RunP.exit | apply RunP.ret)
      refine And.intro (fun hlt => ?_) (fun hge => ?_)
      · rw [hlM] at hlt
        repeat (first | apply RunP.seq | apply RunP.region | apply RunP.condT rfl | apply RunP.condF rfl | apply RunP.skip | apply RunP.block | apply RunP.exit | apply RunP.ret)
        refine bindK_of (store_last (E := envQ) (t := 35) (n := 3) (v := .agg [.int .i64 0, .str [], .int .i64 0]) rfl rfl rfl rfl rfl) ?_
        have ewl : IntKind.i64.wrap ((((ts ++ [en]).map tkV).length : Int) - 1) = ((ts.length : Nat) : Int) := by rw [hlL, wrapS (by omega) (by omega)]; omega
        repeat (first | apply RunP.seq | apply RunP.region | apply RunP.condT rfl | apply RunP.condF rfl | apply RunP.skip | apply RunP.block | apply RunP.exit | apply RunP.ret)
        refine And.intro (fun q1 => ?_) (fun q1 => ?_)
        · rw [ewl] at q1
          have hi : i < ts.length := by omega
          have hLi : ((ts ++ [en]).map tkV)[i]? = some (tkV ts[i]) := by simp [List.getElem?_append_left, hi]
          have hMi : ((ts ++ RL.map (shT (u.length + 1))).map tkV)[i]? = some (tkV ts[i]) := by simp [List.getElem?_append_left, hi]
          repeat (first | apply RunP.seq | apply RunP.region | apply RunP.condT rfl | apply RunP.condF rfl | apply RunP.skip | apply RunP.block | apply RunP.exit | apply RunP.ret)
          refine And.intro (by omega) (And.intro rfl (Exists.intro _ (And.intro hLi ?_)))
          refine bindK_of (store_last (E := envQ) (t := 35) (n := 3) (v := tkV ts[i]) rfl rfl rfl rfl rfl) ?_
          repeat (first | apply RunP.seq | apply RunP.region | apply RunP.condT rfl | apply RunP.condF rfl | apply RunP.skip | apply RunP.block | apply RunP.exit | apply RunP.ret)
          apply RunP.drawn
          · decide +kernel
          refine And.intro (by omega) (And.intro rfl (Exists.intro _ (And.intro hMi ?_)))
          refine drawZ (by decide +kernel) (by decide +kernel) ?_
          refine bindK_of (load_last (E := envQ) (t := 35) (n := 3) rfl) ?_
          refine drawR (by decide +kernel) (by decide +kernel) ?_
          refine bindK_of (eq_tok ts[i]) ?_
          refine drawZ (by decide +kernel) (by decide +kernel) ?_
          repeat (first | apply RunP.seq | apply RunP.region | apply RunP.condT rfl | apply RunP.condF rfl | apply RunP.skip | apply RunP.block | apply RunP.exit | apply RunP.ret)
          exact ⟨k - 1, by omega, i + 1, _, ⟨by omega, ew⟩, rfl, rfl, rfl, rfl, rfl, rfl, rfl, rfl⟩
        · rw [ewl] at q1
          have hq : i - ts.length < RL.length := by omega
          have hr := hpos _ (List.getElem_mem hq)
          have ewi : IntKind.i64.wrap (IntKind.i64.wrap ((i : Int) - (((ts ++ [en]).map tkV).length : Int)) + 1) = ((i - ts.length : Nat) : Int) := by
            rw [hlL, wrapS (x := (i : Int) - ((ts.length + 1 : Nat) : Int)) (by omega) (by omega), wrapS (by omega) (by omega)]; omega
          have hRi : (RL.map tkV)[(IntKind.i64.wrap (IntKind.i64.wrap ((i : Int) - (((ts ++ [en]).map tkV).length : Int)) + 1)).toNat]? = some (tkV RL[i - ts.length]) := by
            rw [ewi, Int.toNat_natCast, List.getElem?_map, List.getElem?_eq_getElem hq]; rfl
          have hMi : ((ts ++ RL.map (shT (u.length + 1))).map tkV)[i]? = some (tkV (shT (u.length + 1) RL[i - ts.length])) := by
            rw [List.getElem?_map, List.getElem?_append_right (by omega), List.getElem?_map, List.getElem?_eq_getElem hq]; rfl
          generalize RL[i - ts.length] = r at *
          obtain ⟨ra, rb, rc⟩ := r
          simp only [] at hr
          have ewp : IntKind.i64.wrap (IntKind.i64.wrap (rc + (u.length : Int)) + 1) = rc + ((u.length + 1 : Nat) : Int) := by
            rw [wrapS (x := rc + (u.length : Int)) (by omega) (by omega), wrapS (by omega) (by omega)]; omega
          have heq : evBin envQ .neq 35 (tkV (shT (u.length + 1) (ra, rb, rc))) (.agg [.int .i64 ra, .str rb, .int .i64 (IntKind.i64.wrap (IntKind.i64.wrap (rc + (u.length : Int)) + 1))]) = some (.bool false) := by
            rw [ewp]; exact eq_tok (shT (u.length + 1) (ra, rb, rc))
          replace hMi : ((ts ++ RL.map (shT (u.length + 1))).map tkV)[i]? = some (.agg [.int .i64 ra, .str rb, .int .i64 (rc + ((u.length + 1 : Nat) : Int))]) := hMi
          replace heq : evBin envQ .neq 35 (.agg [.int .i64 ra, .str rb, .int .i64 (rc + ((u.length + 1 : Nat) : Int))]) (.agg [.int .i64 ra, .str rb, .int .i64 (IntKind.i64.wrap (IntKind.i64.wrap (rc + (u.length : Int)) + 1))]) = some (.bool false) := heq
          generalize rc + ((u.length + 1 : Nat) : Int) = rd at hMi heq
          have hw2 : ∃ x, IntKind.i64.wrap (IntKind.i64.wrap (rc + (u.length : Int)) + 1) = x := ⟨_, rfl⟩
          repeat (first | apply RunP.seq | apply RunP.region | apply RunP.condT rfl | apply RunP.condF rfl | apply RunP.skip | apply RunP.block | apply RunP.exit | apply RunP.ret)
          refine And.intro (by rw [ewi]; omega) (And.intro rfl (Exists.intro _ (And.intro hRi ?_)))
          refine bindK_of (store_last (E := envQ) (t := 35) (n := 3) (v := .agg [.int .i64 ra, .str rb, .int .i64 rc]) rfl rfl rfl rfl rfl) ?_
          generalize hb : g.length = b
          generalize hG : Sb.push g (.cells 35 (V.agg [.int .i64 ra, .str rb, .int .i64 rc]).cells) = G
          have hcell : G[b]? = some (.cells 35 [.int .i64 ra, .str rb, .int .i64 rc]) := by rw [← hG, ← hb]; exact push_last _ _
          clear hG hb
          refine RunP.regionR _ (fun K => rfl) ?_
          refine ops_s rfl (fun K hK => hK) ?_
          refine ops_s rfl (fun K hK => bindK_of (load_at (E := envQ) (t := 3) (n := 3) hcell rfl) hK) ?_
          refine ops_s rfl (fun K hK => hK) ?_
          refine ops_s rfl (fun K hK => hK) ?_
          refine ops_s rfl (fun K hK => hK) ?_
          refine ops_s rfl (fun K hK => hK) ?_
          refine ops_s rfl (fun K hK => hK) ?_
          refine ops_s rfl (fun K hK => bindK_of (store_at (E := envQ) (t := 3) (n := 3) (v := .int .i64 (IntKind.i64.wrap (IntKind.i64.wrap (rc + (u.length : Int)) + 1))) hcell rfl rfl rfl rfl (by decide)) hK) ?_
          refine ops_lit (I := fun s' => ptM u i (ts ++ [en]) RL (ts ++ RL.map (shT (u.length + 1))) b 0 s' G) ⟨_, rfl, rfl, rfl, rfl, rfl, rfl, rfl, rfl, rfl, rfl⟩ ?_
          intro s1 hI1
          obtain ⟨z1, x1, hz1, rfl⟩ := ptM_lit hI1
          clear hI1
          subst hz1
          apply RunP.seq
          refine RunP.drawnR _ (by decide +kernel) (fun K => rfl) ?_
          refine draw_z rfl (fun K hK => hK) (by decide +kernel) ?_
          refine draw_z rfl (fun K hK => hK) (by decide +kernel) ?_
          refine draw_z rfl (fun K hK => And.intro (by omega) (And.intro rfl (Exists.intro _ (And.intro hMi hK)))) (by decide +kernel) ?_
          refine draw_r rfl (fun K hK => hK) (by decide +kernel) ?_
          refine draw_r rfl (fun K hK => bindK_of (load_at (E := envQ) (t := 35) (n := 3) (set_same hcell) rfl) hK) (by decide +kernel) ?_
          refine draw_z rfl (fun K hK => bindK_of heq hK) (by decide +kernel) ?_
          repeat (first | apply RunP.seq | apply RunP.region | apply RunP.condT rfl | apply RunP.condF rfl | apply RunP.skip | apply RunP.block | apply RunP.exit | apply RunP.ret)
          exact ⟨k - 1, by omega, i + 1, _, ⟨by omega, ew⟩, rfl, rfl, rfl, rfl, rfl, rfl, rfl, rfl⟩
      · repeat (first | apply RunP.seq | apply RunP.region | apply RunP.condT rfl | apply RunP.condF rfl | apply RunP.skip | apply RunP.block | apply RunP.exit | apply RunP.ret)
        refine CallK.of (awake_told _) ?_
        repeat (first | apply RunP.seq | apply RunP.region | apply RunP.condT rfl | apply RunP.condF rfl | apply RunP.skip | apply RunP.block | apply RunP.exit | apply RunP.ret)
        exact ⟨rfl, rfl, rfl⟩
end Go.Proofs.YtmpgphjbeoboaaaDoor
