/- LexisBack: the law answers true. -/
import Derived.Test.YtmpgphjbeoboaaaDoorSbJoin
set_option linter.unusedVariables false
set_option linter.unusedSimpArgs false
namespace Go.Proofs.YtmpgphjbeoboaaaDoor
open Go.Sb
set_option maxRecDepth 100000
def lbI (J : Bs) (L M : List TokT) (k : Nat) (s : List V) (h : Heap) : Prop :=
  ∃ (i : Nat) (z : Int), (i + k = L.length ∧ z = i) ∧ s.length = 111 ∧ s.getD 0 und = und ∧ s.getD 4 und = .lst 3 (L.map tkV) ∧ s.getD 7 und = .str J ∧ s.getD 9 und = .lst 3 (M.map tkV) ∧ s.getD 12 und = .int .i64 z
theorem lbI_lit {J : Bs} {L M : List TokT} {k : Nat} {s : List V} {h : Heap} (hI : lbI J L M k s h) : ∃ (i : Nat) (z : Int) (x : Nat → V), (i + k = L.length ∧ z = i) ∧
    s = [und, x 1, x 2, x 3, .lst 3 (L.map tkV), x 5, x 6, .str J, x 8, .lst 3 (M.map tkV), x 10, x 11, .int .i64 z, x 13, x 14, x 15, x 16, x 17, x 18, x 19, x 20, x 21, x 22, x 23, x 24, x 25, x 26, x 27, x 28, x 29, x 30, x 31, x 32, x 33, x 34, x 35, x 36, x 37, x 38, x 39, x 40, x 41, x 42, x 43, x 44, x 45, x 46, x 47, x 48, x 49, x 50, x 51, x 52, x 53, x 54, x 55, x 56, x 57, x 58, x 59, x 60, x 61, x 62, x 63, x 64, x 65, x 66, x 67, x 68, x 69, x 70, x 71, x 72, x 73, x 74, x 75, x 76, x 77, x 78, x 79, x 80, x 81, x 82, x 83, x 84, x 85, x 86, x 87, x 88, x 89, x 90, x 91, x 92, x 93, x 94, x 95, x 96, x 97, x 98, x 99, x 100, x 101, x 102, x 103, x 104, x 105, x 106, x 107, x 108, x 109, x 110] := by
  obtain ⟨i, z, hF, hl, e0, e4, e7, e9, e12⟩ := hI
  refine ⟨i, z, fun n => s.getD n und, hF, (lit_of hl).trans ?_⟩
  show [s.getD 0 und, s.getD 1 und, s.getD 2 und, s.getD 3 und, s.getD 4 und, s.getD 5 und, s.getD 6 und, s.getD 7 und, s.getD 8 und, s.getD 9 und, s.getD 10 und, s.getD 11 und, s.getD 12 und, s.getD 13 und, s.getD 14 und, s.getD 15 und, s.getD 16 und, s.getD 17 und, s.getD 18 und, s.getD 19 und, s.getD 20 und, s.getD 21 und, s.getD 22 und, s.getD 23 und, s.getD 24 und, s.getD 25 und, s.getD 26 und, s.getD 27 und, s.getD 28 und, s.getD 29 und, s.getD 30 und, s.getD 31 und, s.getD 32 und, s.getD 33 und, s.getD 34 und, s.getD 35 und, s.getD 36 und, s.getD 37 und, s.getD 38 und, s.getD 39 und, s.getD 40 und, s.getD 41 und, s.getD 42 und, s.getD 43 und, s.getD 44 und, s.getD 45 und, s.getD 46 und, s.getD 47 und, s.getD 48 und, s.getD 49 und, s.getD 50 und, s.getD 51 und, s.getD 52 und, s.getD 53 und, s.getD 54 und, s.getD 55 und, s.getD 56 und, s.getD 57 und, s.getD 58 und, s.getD 59 und, s.getD 60 und, s.getD 61 und, s.getD 62 und, s.getD 63 und, s.getD 64 und, s.getD 65 und, s.getD 66 und, s.getD 67 und, s.getD 68 und, s.getD 69 und, s.getD 70 und, s.getD 71 und, s.getD 72 und, s.getD 73 und, s.getD 74 und, s.getD 75 und, s.getD 76 und, s.getD 77 und, s.getD 78 und, s.getD 79 und, s.getD 80 und, s.getD 81 und, s.getD 82 und, s.getD 83 und, s.getD 84 und, s.getD 85 und, s.getD 86 und, s.getD 87 und, s.getD 88 und, s.getD 89 und, s.getD 90 und, s.getD 91 und, s.getD 92 und, s.getD 93 und, s.getD 94 und, s.getD 95 und, s.getD 96 und, s.getD 97 und, s.getD 98 und, s.getD 99 und, s.getD 100 und, s.getD 101 und, s.getD 102 und, s.getD 103 und, s.getD 104 und, s.getD 105 und, s.getD 106 und, s.getD 107 und, s.getD 108 und, s.getD 109 und, s.getD 110 und] = _
  rw [e0, e4, e7, e9, e12]

theorem toks_tlen (u : List UInt8) : ∀ (n j : Nat), ∀ t ∈ (Lex.toksL u n j).1, t.2.1.length ≤ u.length
  | 0, _, t, h => by simp [Lex.toksL] at h
  | n + 1, j, t, h => by
    by_cases hs : Lex.skipN u j < u.length
    · cases ht : Lex.tokL (u.drop (Lex.skipN u j)) with
      | none => rw [Lex.toks_bad hs ht] at h; cases h
      | some p =>
        rw [Lex.toks_tok hs ht] at h
        rcases List.mem_cons.1 h with q | q
        · subst q; exact (Lex.tok_len ht).2.2
        · exact toks_tlen u n _ t q
    · rw [Lex.toks_end (by omega)] at h; cases h
theorem brief4001 (u : List UInt8) : (u.take 4001).length ≤ 4001 := by rw [List.length_take]; omega
theorem joinV_ok {B : List TokT} (h : (Lex.joinT B).length ≤ 4000) : joinV B = .tup [.str (Lex.joinT B), .int .i64 0] := by unfold joinV; rw [if_pos h]
theorem joinV_no {B : List TokT} (h : ¬ (Lex.joinT B).length ≤ 4000) : joinV B = .tup [.str [], .int .i64 2] := by unfold joinV; rw [if_neg h]
set_option maxHeartbeats 8000000 in
theorem lexisBack_has (s : List UInt8) (hs : s.length ≤ 9223372036854775807) : Has envQ .own 10 [.str s] [] (.val (.bool true) []) := by
  refine HasP.own (a := [.str s]) (d := fn10) rfl rfl rfl (of_decide_eq_true rfl) ?_
  repeat (first | apply RunP.seq | apply RunP.region | apply RunP.condT rfl | apply RunP.condF rfl | apply RunP.skip | apply RunP.block | apply RunP.exit | apply RunP.ret)
  refine CallK.of (brief_has _ s hs) ?_
  have hu := brief4001 s
  generalize s.take 4001 = u at hu ⊢
  have hT := fun g => Tokens_has g u (by omega)
  by_cases hf : 4000 < u.length
  · simp only [tokensV_full hf] at hT
    repeat (first | apply RunP.seq | apply RunP.region | apply RunP.condT rfl | apply RunP.condF rfl | apply RunP.skip | apply RunP.block | apply RunP.exit | apply RunP.ret)
    refine CallK.of (hT _) ?_
    repeat (first | apply RunP.seq | apply RunP.region | apply RunP.condT rfl | apply RunP.condF rfl | apply RunP.skip | apply RunP.block | apply RunP.exit | apply RunP.ret)
    refine And.intro (fun w => absurd w (by decide)) (fun _ => ?_)
    repeat (first | apply RunP.seq | apply RunP.region | apply RunP.condT rfl | apply RunP.condF rfl | apply RunP.skip | apply RunP.block | apply RunP.exit | apply RunP.ret)
    refine And.intro (fun _ => ?_) (fun w => absurd rfl w)
    refine CallK.of (awake_told _) ?_
    repeat (first | apply RunP.seq | apply RunP.region | apply RunP.condT rfl | apply RunP.condF rfl | apply RunP.skip | apply RunP.block | apply RunP.exit | apply RunP.ret)
    exact ⟨rfl, rfl, rfl⟩
  cases hU : Lex.toksL u (u.length + 1) 0 with
  | mk ts o =>
  cases o with
  | some a =>
    simp only [tokensV_bad hf hU] at hT
    repeat (first | apply RunP.seq | apply RunP.region | apply RunP.condT rfl | apply RunP.condF rfl | apply RunP.skip | apply RunP.block | apply RunP.exit | apply RunP.ret)
    refine CallK.of (hT _) ?_
    repeat (first | apply RunP.seq | apply RunP.region | apply RunP.condT rfl | apply RunP.condF rfl | apply RunP.skip | apply RunP.block | apply RunP.exit | apply RunP.ret)
    refine And.intro (fun w => absurd w (by decide)) (fun _ => ?_)
    repeat (first | apply RunP.seq | apply RunP.region | apply RunP.condT rfl | apply RunP.condF rfl | apply RunP.skip | apply RunP.block | apply RunP.exit | apply RunP.ret)
    refine And.intro (fun _ => ?_) (fun w => absurd rfl w)
    refine CallK.of (awake_told _) ?_
    repeat (first | apply RunP.seq | apply RunP.region | apply RunP.condT rfl | apply RunP.condF rfl | apply RunP.skip | apply RunP.block | apply RunP.exit | apply RunP.ret)
    exact ⟨rfl, rfl, rfl⟩
  | none =>
    simp only [tokensV_ok hf hU] at hT
    rw [map_snoc] at hT
    have hlts : ts.length ≤ 4001 := by have := toks_len u (u.length + 1) 0; rw [hU] at this; simp only [] at this; omega
    have hok : ∀ t ∈ ts, Lex.tokOk t.1 t.2.1 := fun t ht => Lex.toks_ok u (u.length + 1) 0 t (by rw [hU]; exact ht)
    have hst : ∀ t ∈ ts, t.2.1.length ≤ 4001 := fun t ht => by have := toks_tlen u (u.length + 1) 0 t (by rw [hU]; exact ht); omega
    have hJ := fun g => Join_has g ts [(6, [], (u.length : Int))] (.inr ⟨_, rfl⟩) hok hlts hst
    by_cases hjl : (Lex.joinT ts).length ≤ 4000
    · obtain ⟨L, hL1, hL2⟩ := Lex.toks_back hU
      rw [joinV_ok hjl] at hJ
      have hM := fun g => Tokens_has g (Lex.joinT ts) (by omega)
      simp only [tokensV_ok (show ¬ 4000 < (Lex.joinT ts).length by omega) hL1] at hM
      rw [map_snoc] at hM
      have hll : L.length = ts.length := by have := congrArg List.length hL2; simpa using this
      have hok2 : ∀ t ∈ L, Lex.tokOk t.1 t.2.1 := fun t ht => Lex.toks_ok (Lex.joinT ts) ((Lex.joinT ts).length + 1) 0 t (by rw [hL1]; exact ht)
      have hst2 : ∀ t ∈ L, t.2.1.length ≤ 4001 := fun t ht => by have := toks_tlen (Lex.joinT ts) ((Lex.joinT ts).length + 1) 0 t (by rw [hL1]; exact ht); omega
      have hJ2 := fun g => Join_has g L [] (.inl rfl) hok2 (by omega) hst2
      have hjt : Lex.joinT L = Lex.joinT ts := Lex.joinT_congr hL2
      rw [List.append_nil, joinV_ok (by rw [hjt]; exact hjl), hjt] at hJ2
      have hml : ((L ++ [((6 : Int), ([] : List UInt8), ((Lex.joinT ts).length : Int))]).map tkV).length = ts.length + 1 := by simp [hll]
      have htl : ((ts ++ [((6 : Int), ([] : List UInt8), (u.length : Int))]).map tkV).length = ts.length + 1 := by simp
      have ewm : IntKind.i64.wrap ((((L ++ [((6 : Int), ([] : List UInt8), ((Lex.joinT ts).length : Int))]).map tkV).length : Int) - 1) = (L.length : Int) := by rw [hml, wrapS (by omega) (by omega)]; omega
      have htake : (((L ++ [((6 : Int), ([] : List UInt8), ((Lex.joinT ts).length : Int))]).map tkV).take (IntKind.i64.wrap ((((L ++ [((6 : Int), ([] : List UInt8), ((Lex.joinT ts).length : Int))]).map tkV).length : Int) - 1)).toNat).drop 0 = L.map tkV := by rw [ewm]; simp
      rw [← htake] at hJ2
      have hsame : (ts ++ [((6 : Int), ([] : List UInt8), (u.length : Int))]).map (fun t => (t.1, t.2.1)) = (L ++ [((6 : Int), ([] : List UInt8), ((Lex.joinT ts).length : Int))]).map (fun t => (t.1, t.2.1)) := by rw [List.map_append, List.map_append, hL2]; rfl
      have hLl : (ts ++ [((6 : Int), ([] : List UInt8), (u.length : Int))]).length = ts.length + 1 := by simp
      clear htake hL2 hok hst hok2 hst2 hL1 hjt hU
      generalize Lex.joinT ts = J at *
      generalize ts ++ [((6 : Int), ([] : List UInt8), (u.length : Int))] = P at *
      generalize L ++ [((6 : Int), ([] : List UInt8), (J.length : Int))] = Q at *
      repeat (first | apply RunP.seq | apply RunP.region | apply RunP.condT rfl | apply RunP.condF rfl | apply RunP.skip | apply RunP.block | apply RunP.exit | apply RunP.ret)
      refine CallK.of (hT _) ?_
      repeat (first | apply RunP.seq | apply RunP.region | apply RunP.condT rfl | apply RunP.condF rfl | apply RunP.skip | apply RunP.block | apply RunP.exit | apply RunP.ret)
      refine And.intro (fun _ => ?_) (fun w => absurd rfl w)
      repeat (first | apply RunP.seq | apply RunP.region | apply RunP.condT rfl | apply RunP.condF rfl | apply RunP.skip | apply RunP.block | apply RunP.exit | apply RunP.ret)
      refine CallK.of (hJ _) ?_
      repeat (first | apply RunP.seq | apply RunP.region | apply RunP.condT rfl | apply RunP.condF rfl | apply RunP.skip | apply RunP.block | apply RunP.exit | apply RunP.ret)
      refine And.intro (fun _ => ?_) (fun w => absurd rfl w)
      repeat (first | apply RunP.seq | apply RunP.region | apply RunP.condT rfl | apply RunP.condF rfl | apply RunP.skip | apply RunP.block | apply RunP.exit | apply RunP.ret)
      refine CallK.of (hM _) ?_
      clear hT hJ hM
      repeat (first | apply RunP.seq | apply RunP.region | apply RunP.condT rfl | apply RunP.condF rfl | apply RunP.skip | apply RunP.block | apply RunP.exit | apply RunP.ret)
      refine And.intro (fun _ => ?_) (fun w => absurd rfl w)
      refine And.intro (fun _ => ?_) (fun w => absurd (by rw [hml, htl]) w)
      refine And.intro (fun w => absurd w (by rw [hml]; omega)) (fun _ => ?_)
      repeat (first | apply RunP.seq | apply RunP.region | apply RunP.condT rfl | apply RunP.condF rfl | apply RunP.skip | apply RunP.block | apply RunP.exit | apply RunP.ret)
      refine RunP.loop (lbI J P Q) ?_ _ ⟨0, _, ⟨Nat.zero_add _, rfl⟩, rfl, rfl, rfl, rfl, rfl, rfl⟩
      intro k st g hI
      obtain ⟨i, z, x, ⟨hik, hz⟩, rfl⟩ := lbI_lit hI
      clear hI
      subst hz
      have ew : IntKind.i64.wrap ((i : Int) + 1) = ((i + 1 : Nat) : Int) := wrap1 (by omega)
      repeat (first | apply RunP.seq | apply RunP.region | apply RunP.condT rfl | apply RunP.condF rfl | apply RunP.skip | apply RunP.block | apply RunP.exit | apply RunP.ret)
      refine And.intro (fun hlt => ?_) (fun hge => ?_)
      · rw [htl] at hlt
        have hi : i < P.length := by omega
        have hi2 : i < Q.length := by have := congrArg List.length hsame; simp only [List.length_map] at this; omega
        obtain ⟨kd, tx, pa, hr⟩ : ∃ kd tx pa, P[i] = (kd, tx, pa) := ⟨_, _, _, rfl⟩
        obtain ⟨kd2, tx2, pb, hr2⟩ : ∃ kd tx pa, Q[i] = (kd, tx, pa) := ⟨_, _, _, rfl⟩
        have he : (kd, tx) = (kd2, tx2) := by
          have h1 : (P.map (fun t => (t.1, t.2.1)))[i]? = some (kd, tx) := by rw [List.getElem?_map, List.getElem?_eq_getElem hi, hr]; rfl
          have h2 : (Q.map (fun t => (t.1, t.2.1)))[i]? = some (kd2, tx2) := by rw [List.getElem?_map, List.getElem?_eq_getElem hi2, hr2]; rfl
          rw [hsame, h2] at h1
          exact (Option.some.inj h1).symm
        simp only [Prod.mk.injEq] at he
        obtain ⟨rfl, rfl⟩ := he
        have hgl : (P.map tkV)[i]? = some (.agg [.int .i64 kd, .str tx, .int .i64 pa]) := by rw [List.getElem?_map, List.getElem?_eq_getElem hi, hr]; rfl
        have hgm : (Q.map tkV)[i]? = some (.agg [.int .i64 kd, .str tx, .int .i64 pb]) := by rw [List.getElem?_map, List.getElem?_eq_getElem hi2, hr2]; rfl
        repeat (first | apply RunP.seq | apply RunP.condT rfl | apply RunP.condF rfl | apply RunP.skip | apply RunP.block)
        refine RunP.drawnR _ (by decide +kernel) (fun K => rfl) ?_
        refine draw_zl (s' := [_,_,_,_,_,_,_,_,_,_,_,_,_,_,_,_,_,_,_,_,_,_,_,_,_,_,_,_,_,_,_,_,_,_,_,_,_,_,_,_,_,_,_,_,_,_,_,_,_,_,_,_,_,_,_,_,_,_,_,_,_,_,_,_,_,_,_,_,_,_,_,_,_,_,_,_,_,_,_,_,_,_,_,_,_,_,_,_,_,_,_,_,_,_,_,_,_,_,_,_,_,_,_,_,_,_,_,_,_,_,_]) rfl (fun K hK => hK) (by decide +kernel) rfl ?_
        refine draw_zl (s' := [_,_,_,_,_,_,_,_,_,_,_,_,_,_,_,_,_,_,_,_,_,_,_,_,_,_,_,_,_,_,_,_,_,_,_,_,_,_,_,_,_,_,_,_,_,_,_,_,_,_,_,_,_,_,_,_,_,_,_,_,_,_,_,_,_,_,_,_,_,_,_,_,_,_,_,_,_,_,_,_,_,_,_,_,_,_,_,_,_,_,_,_,_,_,_,_,_,_,_,_,_,_,_,_,_,_,_,_,_,_,_]) rfl (fun K hK => hK) (by decide +kernel) rfl ?_
        refine draw_zl (s' := [_,_,_,_,_,_,_,_,_,_,_,_,_,_,_,_,_,_,_,_,_,_,_,_,_,_,_,_,_,_,_,_,_,_,_,_,_,_,_,_,_,_,_,_,_,_,_,_,_,_,_,_,_,_,_,_,_,_,_,_,_,_,_,_,_,_,_,_,_,_,_,_,_,_,_,_,_,_,_,_,_,_,_,_,_,_,_,_,_,_,_,_,_,_,_,_,_,_,_,_,_,_,_,_,_,_,_,_,_,_,_]) rfl (fun K hK => And.intro (by omega) (And.intro rfl (Exists.intro _ (And.intro hgl hK)))) (by decide +kernel) rfl ?_
        refine draw_zl (s' := [_,_,_,_,_,_,_,_,_,_,_,_,_,_,_,_,_,_,_,_,_,_,_,_,_,_,_,_,_,_,_,_,_,_,_,_,_,_,_,_,_,_,_,_,_,_,_,_,_,_,_,_,_,_,_,_,_,_,_,_,_,_,_,_,_,_,_,_,_,_,_,_,_,_,_,_,_,_,_,_,_,_,_,_,_,_,_,_,_,_,_,_,_,_,_,_,_,_,_,_,_,_,_,_,_,_,_,_,_,_,_]) rfl (fun K hK => hK) (by decide +kernel) rfl ?_
        refine draw_rl (s' := [_,_,_,_,_,_,_,_,_,_,_,_,_,_,_,_,_,_,_,_,_,_,_,_,_,_,_,_,_,_,_,_,_,_,_,_,_,_,_,_,_,_,_,_,_,_,_,_,_,_,_,_,_,_,_,_,_,_,_,_,_,_,_,_,_,_,_,_,_,_,_,_,_,_,_,_,_,_,_,_,_,_,_,_,_,_,_,_,_,_,_,_,_,_,_,_,_,_,_,_,_,_,_,_,_,_,_,_,_,_,_]) rfl (fun K hK => hK) (by decide +kernel) rfl ?_
        refine draw_zl (s' := [_,_,_,_,_,_,_,_,_,_,_,_,_,_,_,_,_,_,_,_,_,_,_,_,_,_,_,_,_,_,_,_,_,_,_,_,_,_,_,_,_,_,_,_,_,_,_,_,_,_,_,_,_,_,_,_,_,_,_,_,_,_,_,_,_,_,_,_,_,_,_,_,_,_,_,_,_,_,_,_,_,_,_,_,_,_,_,_,_,_,_,_,_,_,_,_,_,_,_,_,_,_,_,_,_,_,_,_,_,_,_]) rfl (fun K hK => hK) (by decide +kernel) rfl ?_
        refine draw_zl (s' := [_,_,_,_,_,_,_,_,_,_,_,_,_,_,_,_,_,_,_,_,_,_,_,_,_,_,_,_,_,_,_,_,_,_,_,_,_,_,_,_,_,_,_,_,_,_,_,_,_,_,_,_,_,_,_,_,_,_,_,_,_,_,_,_,_,_,_,_,_,_,_,_,_,_,_,_,_,_,_,_,_,_,_,_,_,_,_,_,_,_,_,_,_,_,_,_,_,_,_,_,_,_,_,_,_,_,_,_,_,_,_]) rfl (fun K hK => hK) (by decide +kernel) rfl ?_
        refine draw_zl (s' := [_,_,_,_,_,_,_,_,_,_,_,_,_,_,_,_,_,_,_,_,_,_,_,_,_,_,_,_,_,_,_,_,_,_,_,_,_,_,_,_,_,_,_,_,_,_,_,_,_,_,_,_,_,_,_,_,_,_,_,_,_,_,_,_,_,_,_,_,_,_,_,_,_,_,_,_,_,_,_,_,_,_,_,_,_,_,_,_,_,_,_,_,_,_,_,_,_,_,_,_,_,_,_,_,_,_,_,_,_,_,_]) rfl (fun K hK => And.intro (by omega) (And.intro rfl (Exists.intro _ (And.intro hgm hK)))) (by decide +kernel) rfl ?_
        refine draw_zl (s' := [_,_,_,_,_,_,_,_,_,_,_,_,_,_,_,_,_,_,_,_,_,_,_,_,_,_,_,_,_,_,_,_,_,_,_,_,_,_,_,_,_,_,_,_,_,_,_,_,_,_,_,_,_,_,_,_,_,_,_,_,_,_,_,_,_,_,_,_,_,_,_,_,_,_,_,_,_,_,_,_,_,_,_,_,_,_,_,_,_,_,_,_,_,_,_,_,_,_,_,_,_,_,_,_,_,_,_,_,_,_,_]) rfl (fun K hK => hK) (by decide +kernel) rfl ?_
        refine draw_rl (s' := [_,_,_,_,_,_,_,_,_,_,_,_,_,_,_,_,_,_,_,_,_,_,_,_,_,_,_,_,_,_,_,_,_,_,_,_,_,_,_,_,_,_,_,_,_,_,_,_,_,_,_,_,_,_,_,_,_,_,_,_,_,_,_,_,_,_,_,_,_,_,_,_,_,_,_,_,_,_,_,_,_,_,_,_,_,_,_,_,_,_,_,_,_,_,_,_,_,_,_,_,_,_,_,_,_,_,_,_,_,_,_]) rfl (fun K hK => hK) (by decide +kernel) rfl ?_
        refine draw_zl (s' := [_,_,_,_,_,_,_,_,_,_,_,_,_,_,_,_,_,_,_,_,_,_,_,_,_,_,_,_,_,_,_,_,_,_,_,_,_,_,_,_,_,_,_,_,_,_,_,_,_,_,_,_,_,_,_,_,_,_,_,_,_,_,_,_,_,_,_,_,_,_,_,_,_,_,_,_,_,_,_,_,_,_,_,_,_,_,_,_,_,_,_,_,_,_,_,_,_,_,_,_,_,_,_,_,_,_,_,_,_,_,_]) rfl (fun K hK => And.intro (fun _ => hK) (fun w => absurd rfl w)) (by decide +kernel) rfl ?_
        refine draw_zl (s' := [_,_,_,_,_,_,_,_,_,_,_,_,_,_,_,_,_,_,_,_,_,_,_,_,_,_,_,_,_,_,_,_,_,_,_,_,_,_,_,_,_,_,_,_,_,_,_,_,_,_,_,_,_,_,_,_,_,_,_,_,_,_,_,_,_,_,_,_,_,_,_,_,_,_,_,_,_,_,_,_,_,_,_,_,_,_,_,_,_,_,_,_,_,_,_,_,_,_,_,_,_,_,_,_,_,_,_,_,_,_,_]) rfl (fun K hK => hK) (by decide +kernel) rfl ?_
        refine draw_yz (s' := [_,_,_,_,_,_,_,_,_,_,_,_,_,_,_,_,_,_,_,_,_,_,_,_,_,_,_,_,_,_,_,_,_,_,_,_,_,_,_,_,_,_,_,_,_,_,_,_,_,_,_,_,_,_,_,_,_,_,_,_,_,_,_,_,_,_,_,_,_,_,_,_,_,_,_,_,_,_,_,_,_,_,_,_,_,_,_,_,_,_,_,_,_,_,_,_,_,_,_,_,_,_,_,_,_,_,_,_,_,_,_]) rfl rfl (fun K hK => hK) (by decide +kernel) rfl ?_
        refine draw_yz (s' := [_,_,_,_,_,_,_,_,_,_,_,_,_,_,_,_,_,_,_,_,_,_,_,_,_,_,_,_,_,_,_,_,_,_,_,_,_,_,_,_,_,_,_,_,_,_,_,_,_,_,_,_,_,_,_,_,_,_,_,_,_,_,_,_,_,_,_,_,_,_,_,_,_,_,_,_,_,_,_,_,_,_,_,_,_,_,_,_,_,_,_,_,_,_,_,_,_,_,_,_,_,_,_,_,_,_,_,_,_,_,_]) rfl rfl (fun K hK => hK) (by decide +kernel) rfl ?_
        refine draw_yz (s' := [_,_,_,_,_,_,_,_,_,_,_,_,_,_,_,_,_,_,_,_,_,_,_,_,_,_,_,_,_,_,_,_,_,_,_,_,_,_,_,_,_,_,_,_,_,_,_,_,_,_,_,_,_,_,_,_,_,_,_,_,_,_,_,_,_,_,_,_,_,_,_,_,_,_,_,_,_,_,_,_,_,_,_,_,_,_,_,_,_,_,_,_,_,_,_,_,_,_,_,_,_,_,_,_,_,_,_,_,_,_,_]) rfl rfl (fun K hK => And.intro (by omega) (And.intro rfl (Exists.intro _ (And.intro hgl hK)))) (by decide +kernel) rfl ?_
        refine draw_yz (s' := [_,_,_,_,_,_,_,_,_,_,_,_,_,_,_,_,_,_,_,_,_,_,_,_,_,_,_,_,_,_,_,_,_,_,_,_,_,_,_,_,_,_,_,_,_,_,_,_,_,_,_,_,_,_,_,_,_,_,_,_,_,_,_,_,_,_,_,_,_,_,_,_,_,_,_,_,_,_,_,_,_,_,_,_,_,_,_,_,_,_,_,_,_,_,_,_,_,_,_,_,_,_,_,_,_,_,_,_,_,_,_]) rfl rfl (fun K hK => hK) (by decide +kernel) rfl ?_
        refine draw_yr (s' := [_,_,_,_,_,_,_,_,_,_,_,_,_,_,_,_,_,_,_,_,_,_,_,_,_,_,_,_,_,_,_,_,_,_,_,_,_,_,_,_,_,_,_,_,_,_,_,_,_,_,_,_,_,_,_,_,_,_,_,_,_,_,_,_,_,_,_,_,_,_,_,_,_,_,_,_,_,_,_,_,_,_,_,_,_,_,_,_,_,_,_,_,_,_,_,_,_,_,_,_,_,_,_,_,_,_,_,_,_,_,_]) rfl rfl (fun K hK => hK) (by decide +kernel) rfl ?_
        refine draw_yz (s' := [_,_,_,_,_,_,_,_,_,_,_,_,_,_,_,_,_,_,_,_,_,_,_,_,_,_,_,_,_,_,_,_,_,_,_,_,_,_,_,_,_,_,_,_,_,_,_,_,_,_,_,_,_,_,_,_,_,_,_,_,_,_,_,_,_,_,_,_,_,_,_,_,_,_,_,_,_,_,_,_,_,_,_,_,_,_,_,_,_,_,_,_,_,_,_,_,_,_,_,_,_,_,_,_,_,_,_,_,_,_,_]) rfl rfl (fun K hK => hK) (by decide +kernel) rfl ?_
        refine draw_yz (s' := [_,_,_,_,_,_,_,_,_,_,_,_,_,_,_,_,_,_,_,_,_,_,_,_,_,_,_,_,_,_,_,_,_,_,_,_,_,_,_,_,_,_,_,_,_,_,_,_,_,_,_,_,_,_,_,_,_,_,_,_,_,_,_,_,_,_,_,_,_,_,_,_,_,_,_,_,_,_,_,_,_,_,_,_,_,_,_,_,_,_,_,_,_,_,_,_,_,_,_,_,_,_,_,_,_,_,_,_,_,_,_]) rfl rfl (fun K hK => hK) (by decide +kernel) rfl ?_
        refine draw_yz (s' := [_,_,_,_,_,_,_,_,_,_,_,_,_,_,_,_,_,_,_,_,_,_,_,_,_,_,_,_,_,_,_,_,_,_,_,_,_,_,_,_,_,_,_,_,_,_,_,_,_,_,_,_,_,_,_,_,_,_,_,_,_,_,_,_,_,_,_,_,_,_,_,_,_,_,_,_,_,_,_,_,_,_,_,_,_,_,_,_,_,_,_,_,_,_,_,_,_,_,_,_,_,_,_,_,_,_,_,_,_,_,_]) rfl rfl (fun K hK => And.intro (by omega) (And.intro rfl (Exists.intro _ (And.intro hgm hK)))) (by decide +kernel) rfl ?_
        refine draw_yz (s' := [_,_,_,_,_,_,_,_,_,_,_,_,_,_,_,_,_,_,_,_,_,_,_,_,_,_,_,_,_,_,_,_,_,_,_,_,_,_,_,_,_,_,_,_,_,_,_,_,_,_,_,_,_,_,_,_,_,_,_,_,_,_,_,_,_,_,_,_,_,_,_,_,_,_,_,_,_,_,_,_,_,_,_,_,_,_,_,_,_,_,_,_,_,_,_,_,_,_,_,_,_,_,_,_,_,_,_,_,_,_,_]) rfl rfl (fun K hK => hK) (by decide +kernel) rfl ?_
        refine draw_yr (s' := [_,_,_,_,_,_,_,_,_,_,_,_,_,_,_,_,_,_,_,_,_,_,_,_,_,_,_,_,_,_,_,_,_,_,_,_,_,_,_,_,_,_,_,_,_,_,_,_,_,_,_,_,_,_,_,_,_,_,_,_,_,_,_,_,_,_,_,_,_,_,_,_,_,_,_,_,_,_,_,_,_,_,_,_,_,_,_,_,_,_,_,_,_,_,_,_,_,_,_,_,_,_,_,_,_,_,_,_,_,_,_]) rfl rfl (fun K hK => hK) (by decide +kernel) rfl ?_
        refine draw_yz (s' := [_,_,_,_,_,_,_,_,_,_,_,_,_,_,_,_,_,_,_,_,_,_,_,_,_,_,_,_,_,_,_,_,_,_,_,_,_,_,_,_,_,_,_,_,_,_,_,_,_,_,_,_,_,_,_,_,_,_,_,_,_,_,_,_,_,_,_,_,_,_,_,_,_,_,_,_,_,_,_,_,_,_,_,_,_,_,_,_,_,_,_,_,_,_,_,_,_,_,_,_,_,_,_,_,_,_,_,_,_,_,_]) rfl rfl (fun K hK => And.intro (fun _ => hK) (fun w => absurd rfl w)) (by decide +kernel) rfl ?_
        refine draw_zl (s' := [_,_,_,_,_,_,_,_,_,_,_,_,_,_,_,_,_,_,_,_,_,_,_,_,_,_,_,_,_,_,_,_,_,_,_,_,_,_,_,_,_,_,_,_,_,_,_,_,_,_,_,_,_,_,_,_,_,_,_,_,_,_,_,_,_,_,_,_,_,_,_,_,_,_,_,_,_,_,_,_,_,_,_,_,_,_,_,_,_,_,_,_,_,_,_,_,_,_,_,_,_,_,_,_,_,_,_,_,_,_,_]) rfl (fun K hK => hK) (by decide +kernel) rfl ?_
        repeat (first | apply RunP.seq | apply RunP.region | apply RunP.condT rfl | apply RunP.condF rfl | apply RunP.skip | apply RunP.block | apply RunP.exit | apply RunP.ret)
        exact ⟨k - 1, by omega, i + 1, _, ⟨by omega, ew⟩, rfl, rfl, rfl, rfl, rfl, rfl⟩
      · repeat (first | apply RunP.seq | apply RunP.region | apply RunP.condT rfl | apply RunP.condF rfl | apply RunP.skip | apply RunP.block | apply RunP.exit | apply RunP.ret)
        refine And.intro (by rw [ewm]; omega) (And.intro rfl (And.intro ⟨Nat.zero_le _, by rw [ewm, Int.toNat_natCast, hml]; omega⟩ ?_))
        refine CallK.of (hJ2 _) ?_
        repeat (first | apply RunP.seq | apply RunP.region | apply RunP.condT rfl | apply RunP.condF rfl | apply RunP.skip | apply RunP.block | apply RunP.exit | apply RunP.ret)
        refine And.intro (fun _ => ?_) (fun w => absurd rfl w)
        refine And.intro (fun _ => ?_) (fun w => absurd rfl w)
        refine CallK.of (awake_told _) ?_
        repeat (first | apply RunP.seq | apply RunP.region | apply RunP.condT rfl | apply RunP.condF rfl | apply RunP.skip | apply RunP.block | apply RunP.exit | apply RunP.ret)
        exact ⟨rfl, rfl, rfl⟩
    · rw [joinV_no hjl] at hJ
      repeat (first | apply RunP.seq | apply RunP.region | apply RunP.condT rfl | apply RunP.condF rfl | apply RunP.skip | apply RunP.block | apply RunP.exit | apply RunP.ret)
      refine CallK.of (hT _) ?_
      repeat (first | apply RunP.seq | apply RunP.region | apply RunP.condT rfl | apply RunP.condF rfl | apply RunP.skip | apply RunP.block | apply RunP.exit | apply RunP.ret)
      refine And.intro (fun _ => ?_) (fun w => absurd rfl w)
      repeat (first | apply RunP.seq | apply RunP.region | apply RunP.condT rfl | apply RunP.condF rfl | apply RunP.skip | apply RunP.block | apply RunP.exit | apply RunP.ret)
      refine CallK.of (hJ _) ?_
      repeat (first | apply RunP.seq | apply RunP.region | apply RunP.condT rfl | apply RunP.condF rfl | apply RunP.skip | apply RunP.block | apply RunP.exit | apply RunP.ret)
      refine And.intro (fun w => absurd w (by decide)) (fun _ => ?_)
      repeat (first | apply RunP.seq | apply RunP.region | apply RunP.condT rfl | apply RunP.condF rfl | apply RunP.skip | apply RunP.block | apply RunP.exit | apply RunP.ret)
      refine And.intro (fun _ => ?_) (fun w => absurd rfl w)
      refine CallK.of (awake_told _) ?_
      repeat (first | apply RunP.seq | apply RunP.region | apply RunP.condT rfl | apply RunP.condF rfl | apply RunP.skip | apply RunP.block | apply RunP.exit | apply RunP.ret)
      exact ⟨rfl, rfl, rfl⟩
end Go.Proofs.YtmpgphjbeoboaaaDoor
