/- Whether this can be a token: the reference's word. -/
import Derived.Test.YtmpgphjbeoboaaaDoorSbLexisQuotes
import Derived.Test.YtmpgphjbeoboaaaDoorSbNumeral
import Derived.Test.YtmpgphjbeoboaaaDoorSbLexT6
import Derived.Test.YtmpgphjbeoboaaaDoorSbToksR
import Derived.Test.YtmpgphjbeoboaaaDoorSbQuoteP
import Derived.Test.YtmpgphjbeoboaaaDoorSbDraw2
import Derived.Test.YtmpgphjbeoboaaaDoorSbLexisComment
set_option linter.unusedVariables false
set_option linter.unusedSimpArgs false
namespace Go.Proofs.YtmpgphjbeoboaaaDoor
open Go.Sb
set_option maxRecDepth 100000

/-- Whether this can be a token. -/
def isTokB (k : Int) (s : List UInt8) : Bool :=
  if k = 1 then Lex.isName s else if k = 2 then Lex.isNumeral s else if k = 3 then Lex.isText s else if k = 4 then Lex.isSign s else if k = 5 then Lex.isWord s else decide (k = 6) && s.isEmpty
theorem isTokB_end {k : Int} {s : List UInt8} (h : k = 6) : isTokB k s = s.isEmpty := by subst h; unfold isTokB; simp
theorem isTokB_no {k : Int} {s : List UInt8} (h1 : ¬ k = 1) (h2 : ¬ k = 2) (h3 : ¬ k = 3) (h4 : ¬ k = 4) (h5 : ¬ k = 5) (h6 : ¬ k = 6) : isTokB k s = false := by
  unfold isTokB; rw [if_neg h1, if_neg h2, if_neg h3, if_neg h4, if_neg h5]; simp [h6]
theorem isTokB_of {k : Int} {s : List UInt8} (h : Lex.tokOk k s) : isTokB k s = true := by
  rcases h with ⟨rfl, h⟩ | ⟨rfl, h⟩ | ⟨rfl, h⟩ | ⟨rfl, h⟩ | ⟨rfl, h⟩ <;> exact h
set_option maxHeartbeats 4000000 in
theorem refIsToken_has (h : Heap) (k : Int) (s : List UInt8) (a : Int) (hs : s.length ≤ 2 ^ 47) : Has envQ .own 22 [.agg [.int .i64 k, .str s, .int .i64 a]] h (.val (.bool (isTokB k s)) h) := by
  suffices hx : ∃ v, Has envQ .own 22 [.agg [.int .i64 k, .str s, .int .i64 a]] h (.val v h) ∧ v = .bool (isTokB k s) by
    obtain ⟨v, h1, rfl⟩ := hx; exact h1
  refine HasP.ownE (a := [.agg [.int .i64 k, .str s, .int .i64 a]]) (d := fn22) rfl rfl rfl (of_decide_eq_true rfl) ?_
  repeat (first | apply RunP.seq | apply RunP.region | apply RunP.condT rfl | apply RunP.condF rfl | apply RunP.skip | apply RunP.block | apply RunP.exit | apply RunP.ret)
  refine And.intro (fun hk => ?_) (fun hk => ?_)
  · repeat (first | apply RunP.seq | apply RunP.region | apply RunP.condT rfl | apply RunP.condF rfl | apply RunP.skip | apply RunP.block | apply RunP.exit | apply RunP.ret)
    refine CallK.of (refIsName_has _ s (by omega)) ?_
    repeat (first | apply RunP.seq | apply RunP.region | apply RunP.condT rfl | apply RunP.condF rfl | apply RunP.skip | apply RunP.block | apply RunP.exit | apply RunP.ret)
    exact ⟨rfl, _, rfl, rfl, by subst hk; rfl⟩
  · repeat (first | apply RunP.seq | apply RunP.region | apply RunP.condT rfl | apply RunP.condF rfl | apply RunP.skip | apply RunP.block | apply RunP.exit | apply RunP.ret)
    refine And.intro (fun hk => ?_) (fun hk => ?_)
    · repeat (first | apply RunP.seq | apply RunP.region | apply RunP.condT rfl | apply RunP.condF rfl | apply RunP.skip | apply RunP.block | apply RunP.exit | apply RunP.ret)
      refine CallK.of (refNumeral_has _ s (by omega)) ?_
      repeat (first | apply RunP.seq | apply RunP.region | apply RunP.condT rfl | apply RunP.condF rfl | apply RunP.skip | apply RunP.block | apply RunP.exit | apply RunP.ret)
      exact ⟨rfl, _, rfl, rfl, by subst hk; rfl⟩
    · repeat (first | apply RunP.seq | apply RunP.region | apply RunP.condT rfl | apply RunP.condF rfl | apply RunP.skip | apply RunP.block | apply RunP.exit | apply RunP.ret)
      refine And.intro (fun hk => ?_) (fun hk => ?_)
      · repeat (first | apply RunP.seq | apply RunP.region | apply RunP.condT rfl | apply RunP.condF rfl | apply RunP.skip | apply RunP.block | apply RunP.exit | apply RunP.ret)
        refine CallK.of (refIsText_has _ s (by omega)) ?_
        repeat (first | apply RunP.seq | apply RunP.region | apply RunP.condT rfl | apply RunP.condF rfl | apply RunP.skip | apply RunP.block | apply RunP.exit | apply RunP.ret)
        exact ⟨rfl, _, rfl, rfl, by subst hk; rfl⟩
      · repeat (first | apply RunP.seq | apply RunP.region | apply RunP.condT rfl | apply RunP.condF rfl | apply RunP.skip | apply RunP.block | apply RunP.exit | apply RunP.ret)
        refine And.intro (fun hk => ?_) (fun hk => ?_)
        · repeat (first | apply RunP.seq | apply RunP.region | apply RunP.condT rfl | apply RunP.condF rfl | apply RunP.skip | apply RunP.block | apply RunP.exit | apply RunP.ret)
          refine CallK.of (refIsSign_has _ s) ?_
          repeat (first | apply RunP.seq | apply RunP.region | apply RunP.condT rfl | apply RunP.condF rfl | apply RunP.skip | apply RunP.block | apply RunP.exit | apply RunP.ret)
          exact ⟨rfl, _, rfl, rfl, by subst hk; rfl⟩
        · repeat (first | apply RunP.seq | apply RunP.region | apply RunP.condT rfl | apply RunP.condF rfl | apply RunP.skip | apply RunP.block | apply RunP.exit | apply RunP.ret)
          refine And.intro (fun hk => ?_) (fun hk => ?_)
          · repeat (first | apply RunP.seq | apply RunP.region | apply RunP.condT rfl | apply RunP.condF rfl | apply RunP.skip | apply RunP.block | apply RunP.exit | apply RunP.ret)
            refine CallK.of (refIsWord_has _ s) ?_
            repeat (first | apply RunP.seq | apply RunP.region | apply RunP.condT rfl | apply RunP.condF rfl | apply RunP.skip | apply RunP.block | apply RunP.exit | apply RunP.ret)
            exact ⟨rfl, _, rfl, rfl, by subst hk; rfl⟩
          · repeat (first | apply RunP.seq | apply RunP.region | apply RunP.condT rfl | apply RunP.condF rfl | apply RunP.skip | apply RunP.block | apply RunP.exit | apply RunP.ret)
            refine And.intro (fun h6 => ?_) (fun h6 => ?_)
            · refine And.intro (fun he => ?_) (fun he => ?_)
              · repeat (first | apply RunP.seq | apply RunP.region | apply RunP.condT rfl | apply RunP.condF rfl | apply RunP.skip | apply RunP.block | apply RunP.exit | apply RunP.ret)
                exact ⟨rfl, _, rfl, rfl, by rw [isTokB_end h6]; cases s with | nil => rfl | cons a b => cases he⟩
              · repeat (first | apply RunP.seq | apply RunP.region | apply RunP.condT rfl | apply RunP.condF rfl | apply RunP.skip | apply RunP.block | apply RunP.exit | apply RunP.ret)
                exact ⟨rfl, _, rfl, rfl, by rw [isTokB_end h6]; cases s with | nil => exact absurd rfl he | cons a b => rfl⟩
            · repeat (first | apply RunP.seq | apply RunP.region | apply RunP.condT rfl | apply RunP.condF rfl | apply RunP.skip | apply RunP.block | apply RunP.exit | apply RunP.ret)
              exact ⟨rfl, _, rfl, rfl, (congrArg V.bool (isTokB_no ‹_› ‹_› ‹_› ‹_› ‹_› h6)).symm⟩
end Go.Proofs.YtmpgphjbeoboaaaDoor

/- The program's text of a token. -/

namespace Go.Proofs.YtmpgphjbeoboaaaDoor
open Go.Sb
set_option maxRecDepth 100000

/-- Whether a token has a text. -/
def textOk (k : Int) (s : List UInt8) : Bool := (decide (1 ≤ k) && decide (k ≤ 5)) && isTokB k s
/-- What lexis.text answers. -/
def textR (k : Int) (s : List UInt8) (v : V) : Prop := ∃ w, v = .tup [.str w, .bool (textOk k s)] ∧ (textOk k s = true → w = Lex.shown k s)
theorem textR_yes {k : Int} {s w : List UInt8} (h : textOk k s = true) (hw : w = Lex.shown k s) : textR k s (.tup [.str w, .bool true]) := ⟨w, by rw [h], fun _ => hw⟩
theorem textR_no {k : Int} {s w : List UInt8} (h : textOk k s = false) : textR k s (.tup [.str w, .bool false]) := ⟨w, by rw [h], fun q => by rw [h] at q; cases q⟩
theorem textR_of {k j : Int} {s : List UInt8} {b : Bool} (hk : k = j) (hj : j ≠ 3) (hb : textOk j s = b) : textR k s (.tup [.str s, .bool b]) := by
  subst hk; subst hb; exact ⟨s, rfl, fun _ => (Lex.shown_same hj).symm⟩
theorem textOk_no {k : Int} {s : List UInt8} (h1 : ¬ k = 1) (h2 : ¬ k = 2) (h3 : ¬ k = 3) (h4 : ¬ k = 4) (h5 : ¬ k = 5) : textOk k s = false := by
  unfold textOk
  rw [show (decide (1 ≤ k) && decide (k ≤ 5)) = false from by
    simp only [Bool.and_eq_false_iff, decide_eq_false_iff_not]; omega]
  rfl
theorem textOk1 (s : List UInt8) : textOk 1 s = Lex.isName s := by unfold textOk isTokB; simp
theorem textOk2 (s : List UInt8) : textOk 2 s = Lex.isNumeral s := by unfold textOk isTokB; simp
theorem textOk3 (s : List UInt8) : textOk 3 s = Lex.isText s := by unfold textOk isTokB; simp
theorem textOk4 (s : List UInt8) : textOk 4 s = Lex.isSign s := by unfold textOk isTokB; simp
theorem textOk5 (s : List UInt8) : textOk 5 s = Lex.isWord s := by unfold textOk isTokB; simp
set_option maxHeartbeats 4000000 in
theorem text_has (h : Heap) (k : Int) (s : List UInt8) (a : Int) (hs : s.length ≤ 2 ^ 47) : ∃ v, Has envQ .own 47 [.agg [.int .i64 k, .str s, .int .i64 a]] h (.val v h) ∧ textR k s v := by
  refine HasP.ownE (a := [.agg [.int .i64 k, .str s, .int .i64 a]]) (d := fn47) rfl rfl rfl (of_decide_eq_true rfl) ?_
  repeat (first | apply RunP.seq | apply RunP.region | apply RunP.condT rfl | apply RunP.condF rfl | apply RunP.skip | apply RunP.block | apply RunP.exit | apply RunP.ret)
  apply RunP.drawn2
  · decide +kernel
  · decide +kernel
  obtain ⟨v1, g1, q1, rfl, rfl⟩ := signs_has (push [] (Blk.cells 35 (V.agg [V.int IntKind.i64 k, V.str s, V.int IntKind.i64 a]).cells))
  have hcell0 : (push [] (Blk.cells 35 (V.agg [V.int IntKind.i64 k, V.str s, V.int IntKind.i64 a]).cells))[0]? = some (.cells 35 [.int .i64 k, .str s, .int .i64 a]) := rfl
  refine CallK.of q1 ?_
  clear q1
  generalize (push [] (Blk.cells 35 (V.agg [V.int IntKind.i64 k, V.str s, V.int IntKind.i64 a]).cells)) = G0 at hcell0 ⊢
  generalize hG : push G0 (.map (kvs sgs)) = G
  have hcell : G[0]? = some (.cells 35 [.int .i64 k, .str s, .int .i64 a]) := by rw [← hG]; exact push_old hcell0
  have hmap : G[G0.length]? = some (.map (kvs sgs)) := by rw [← hG]; exact push_last _ _
  clear hG
  refine drawS (by decide +kernel) (acc_nil ?_)
  refine bindK_of (load_at (E := envQ) (t := 9) (n := 3) hcell rfl) ?_
  refine drawR (by decide +kernel) (by decide +kernel) (was_read (StillK.of ?_) (was_nil ?_))
  · exact bindK_of (load_at (E := envQ) (t := 9) (n := 3) hcell0 rfl) rfl
  obtain ⟨c0, hlk⟩ := look_sign s hmap
  refine bindR_of (congrArg (fun x => val x G) hlk) ?_
  refine drawR (by decide +kernel) (by decide +kernel) (was_yes (by decide +kernel) (was_nil ?_))
  clear hmap hlk hcell0
  generalize G0.length = M
  repeat (first | apply RunP.seq | apply RunP.region | apply RunP.condT rfl | apply RunP.condF rfl | apply RunP.skip | apply RunP.block | apply RunP.exit | apply RunP.ret)
  refine bindK_of (load_at (E := envQ) (t := 3) (n := 3) hcell rfl) ?_
  repeat (first | apply RunP.seq | apply RunP.region | apply RunP.condT rfl | apply RunP.condF rfl | apply RunP.skip | apply RunP.block | apply RunP.exit | apply RunP.ret)
  refine And.intro (fun hk => ?_) (fun hk => ?_)
  · repeat (first | apply RunP.seq | apply RunP.region | apply RunP.condT rfl | apply RunP.condF rfl | apply RunP.skip | apply RunP.block | apply RunP.exit | apply RunP.ret)
    refine RunP.drawnR _ (by decide +kernel) (fun K => rfl) ?_
    refine draw_z rfl (fun K hK => hK) (by decide +kernel) ?_
    refine draw_r rfl (fun K hK => bindK_of (load_at (E := envQ) (t := 9) (n := 3) hcell rfl) hK) (by decide +kernel) ?_
    refine draw_z rfl (fun K hK => hK) (by decide +kernel) ?_
    refine draw_r rfl (fun K hK => bindK_of (load_at (E := envQ) (t := 9) (n := 3) hcell rfl) hK) (by decide +kernel) ?_
    refine draw_r rfl (fun K hK => CallK.of (isName_has _ s (by omega)) hK) (by decide +kernel) ?_
    refine draw_z rfl (fun K hK => hK) (by decide +kernel) ?_
    refine draw_z rfl (fun K hK => hK) (by decide +kernel) ?_
    repeat (first | apply RunP.seq | apply RunP.region | apply RunP.condT rfl | apply RunP.condF rfl | apply RunP.skip | apply RunP.block | apply RunP.exit | apply RunP.ret)
    exact ⟨rfl, _, rfl, rfl, textR_of hk (by decide) (textOk1 s)⟩
  · repeat (first | apply RunP.seq | apply RunP.region | apply RunP.condT rfl | apply RunP.condF rfl | apply RunP.skip | apply RunP.block | apply RunP.exit | apply RunP.ret)
    refine And.intro (fun hk => ?_) (fun hk => ?_)
    · repeat (first | apply RunP.seq | apply RunP.region | apply RunP.condT rfl | apply RunP.condF rfl | apply RunP.skip | apply RunP.block | apply RunP.exit | apply RunP.ret)
      refine RunP.drawnR _ (by decide +kernel) (fun K => rfl) ?_
      refine draw_z rfl (fun K hK => hK) (by decide +kernel) ?_
      refine draw_r rfl (fun K hK => bindK_of (load_at (E := envQ) (t := 9) (n := 3) hcell rfl) hK) (by decide +kernel) ?_
      refine draw_z rfl (fun K hK => hK) (by decide +kernel) ?_
      refine draw_r rfl (fun K hK => bindK_of (load_at (E := envQ) (t := 9) (n := 3) hcell rfl) hK) (by decide +kernel) ?_
      refine draw_r rfl (fun K hK => CallK.of (isNumeral_has _ s (by omega)) hK) (by decide +kernel) ?_
      refine draw_z rfl (fun K hK => hK) (by decide +kernel) ?_
      refine draw_z rfl (fun K hK => hK) (by decide +kernel) ?_
      repeat (first | apply RunP.seq | apply RunP.region | apply RunP.condT rfl | apply RunP.condF rfl | apply RunP.skip | apply RunP.block | apply RunP.exit | apply RunP.ret)
      exact ⟨rfl, _, rfl, rfl, textR_of hk (by decide) (textOk2 s)⟩
    · repeat (first | apply RunP.seq | apply RunP.region | apply RunP.condT rfl | apply RunP.condF rfl | apply RunP.skip | apply RunP.block | apply RunP.exit | apply RunP.ret)
      refine And.intro (fun hk => ?_) (fun hk => ?_)
      · repeat (first | apply RunP.seq | apply RunP.region | apply RunP.condT rfl | apply RunP.condF rfl | apply RunP.skip | apply RunP.block | apply RunP.exit | apply RunP.ret)
        refine bindK_of (load_at (E := envQ) (t := 9) (n := 3) hcell rfl) ?_
        have hq := fun g => Quote_has g s (by omega)
        cases ht : Lex.isText s
        · simp only [quoteV_no ht] at hq
          refine CallK.of (hq _) ?_
          repeat (first | apply RunP.seq | apply RunP.region | apply RunP.condT rfl | apply RunP.condF rfl | apply RunP.skip | apply RunP.block | apply RunP.exit | apply RunP.ret)
          refine And.intro (fun q => absurd q (by decide)) (fun _ => ?_)
          repeat (first | apply RunP.seq | apply RunP.region | apply RunP.condT rfl | apply RunP.condF rfl | apply RunP.skip | apply RunP.block | apply RunP.exit | apply RunP.ret)
          exact ⟨rfl, _, rfl, rfl, textR_no (by subst hk; rw [textOk3, ht])⟩
        · simp only [quoteV_yes ht] at hq
          refine CallK.of (hq _) ?_
          repeat (first | apply RunP.seq | apply RunP.region | apply RunP.condT rfl | apply RunP.condF rfl | apply RunP.skip | apply RunP.block | apply RunP.exit | apply RunP.ret)
          refine And.intro (fun _ => ?_) (fun q => absurd rfl q)
          repeat (first | apply RunP.seq | apply RunP.region | apply RunP.condT rfl | apply RunP.condF rfl | apply RunP.skip | apply RunP.block | apply RunP.exit | apply RunP.ret)
          exact ⟨rfl, _, rfl, rfl, textR_yes (by subst hk; rw [textOk3, ht]) (by subst hk; rfl)⟩
      · repeat (first | apply RunP.seq | apply RunP.region | apply RunP.condT rfl | apply RunP.condF rfl | apply RunP.skip | apply RunP.block | apply RunP.exit | apply RunP.ret)
        refine And.intro (fun hk => ?_) (fun hk => ?_)
        · repeat (first | apply RunP.seq | apply RunP.region | apply RunP.condT rfl | apply RunP.condF rfl | apply RunP.skip | apply RunP.block | apply RunP.exit | apply RunP.ret)
          refine bindK_of (load_at (E := envQ) (t := 9) (n := 3) hcell rfl) ?_
          repeat (first | apply RunP.seq | apply RunP.region | apply RunP.condT rfl | apply RunP.condF rfl | apply RunP.skip | apply RunP.block | apply RunP.exit | apply RunP.ret)
          exact ⟨rfl, _, rfl, rfl, textR_of hk (by decide) (textOk4 s)⟩
        · repeat (first | apply RunP.seq | apply RunP.region | apply RunP.condT rfl | apply RunP.condF rfl | apply RunP.skip | apply RunP.block | apply RunP.exit | apply RunP.ret)
          refine And.intro (fun hk => ?_) (fun hk => ?_)
          · repeat (first | apply RunP.seq | apply RunP.region | apply RunP.condT rfl | apply RunP.condF rfl | apply RunP.skip | apply RunP.block | apply RunP.exit | apply RunP.ret)
            refine RunP.drawnR _ (by decide +kernel) (fun K => rfl) ?_
            refine draw_z rfl (fun K hK => hK) (by decide +kernel) ?_
            refine draw_r rfl (fun K hK => bindK_of (load_at (E := envQ) (t := 9) (n := 3) hcell rfl) hK) (by decide +kernel) ?_
            refine draw_z rfl (fun K hK => hK) (by decide +kernel) ?_
            refine draw_r rfl (fun K hK => bindK_of (load_at (E := envQ) (t := 9) (n := 3) hcell rfl) hK) (by decide +kernel) ?_
            refine draw_r rfl (fun K hK => CallK.of (isWord_has _ s) hK) (by decide +kernel) ?_
            refine draw_z rfl (fun K hK => hK) (by decide +kernel) ?_
            refine draw_z rfl (fun K hK => hK) (by decide +kernel) ?_
            repeat (first | apply RunP.seq | apply RunP.region | apply RunP.condT rfl | apply RunP.condF rfl | apply RunP.skip | apply RunP.block | apply RunP.exit | apply RunP.ret)
            exact ⟨rfl, _, rfl, rfl, textR_of hk (by decide) (textOk5 s)⟩
          · repeat (first | apply RunP.seq | apply RunP.region | apply RunP.condT rfl | apply RunP.condF rfl | apply RunP.skip | apply RunP.block | apply RunP.exit | apply RunP.ret)
            exact ⟨rfl, _, rfl, rfl, textR_no (textOk_no ‹_› ‹_› ‹_› ‹_› ‹_›)⟩
end Go.Proofs.YtmpgphjbeoboaaaDoor

/- The program's Join of tokens. -/

namespace Go.Proofs.YtmpgphjbeoboaaaDoor
open Go.Sb
set_option maxRecDepth 100000

/-- The texts of tokens; their size with blanks between, and one more. -/
def texts (ts : List TokT) : List (List UInt8) := ts.map fun t => Lex.shown t.1 t.2.1
def szT (ts : List TokT) : Nat := (ts.map fun t => (Lex.shown t.1 t.2.1).length + 1).sum
theorem szT_snoc (ts : List TokT) (t : TokT) : szT (ts ++ [t]) = szT ts + ((Lex.shown t.1 t.2.1).length + 1) := by unfold szT; simp
theorem szT_take (ts : List TokT) (i : Nat) : szT (ts.take i) ≤ szT ts := by
  conv => rhs; rw [← List.take_append_drop i ts]
  unfold szT; rw [List.map_append, List.sum_append]; omega
theorem joinT_len : ∀ ts : List TokT, ts ≠ [] → (Lex.joinT ts).length + 1 = szT ts
  | [], h => absurd rfl h
  | [t], _ => by simp [Lex.joinT, szT]
  | t :: a :: ts, _ => by
    have ih := joinT_len (a :: ts) (by simp)
    show (Lex.shown t.1 t.2.1 ++ 32 :: Lex.joinT (a :: ts)).length + 1 = _
    unfold szT at ih ⊢
    rw [List.map_cons, List.sum_cons, ← ih]
    simp only [List.length_append, List.length_cons]; omega
theorem joinT_lib : ∀ ts : List TokT, Lib.join (texts ts) [32] = Lex.joinT ts
  | [] => rfl
  | [t] => Lib.join_one _ _
  | t :: a :: ts => by
    have ih := joinT_lib (a :: ts)
    show Lib.join (Lex.shown t.1 t.2.1 :: texts (a :: ts)) [32] = Lex.shown t.1 t.2.1 ++ 32 :: Lex.joinT (a :: ts)
    rw [← ih, Lib.join_cons]
    show _ ++ Lib.joinTail [32] (Lex.shown a.1 a.2.1 :: texts ts) = _ ++ 32 :: Lib.join (Lex.shown a.1 a.2.1 :: texts ts) [32]
    rw [Lib.join_cons]
    simp [Lib.joinTail]
theorem str_cells (ss : List (List UInt8)) : (ss.map V.str).flatMap V.cells = ss.map V.str := by
  induction ss with
  | nil => rfl
  | cons s ss ih => rw [List.map_cons, List.flatMap_cons, ih]; rfl
theorem app_strE {E : Env} {h : Heap} {t T : TypeId} {dt d : TyD} {v : V} {ss : List (List UInt8)} (ht : E.ty t = some dt) (hu : dt.u = .slice T) (hT : E.ty T = some d) (hd : d.size = 1) (hb : d.bytes = 16) (hr : InRow h T 1 v (ss.map V.str)) (c : List UInt8) (hl : ss.length ≤ 2 ^ 20) :
    ∃ v' g, evAppend E t v (.sl h.length 0 1 1 1 1) (Sb.push h (.cells T [.str c])) = some (v', g) ∧ InRow g T 1 v' ((ss ++ [c]).map V.str) := by
  obtain ⟨v', g, a1, a2, a3, a4⟩ := append_rowS (E := E) (t := t) (T := T) (e := 1) (es' := [V.str c]) (k := 1) ht hu hT hd (by omega) (hr.push (.cells T [.str c])) (by rw [str_cells]; simp) (contents_last (n := 1) h T [.str c] rfl) rfl
    (by rw [hb]; simp [roomy]; omega)
  exact ⟨v', g, a1, by rw [List.map_append]; exact a2⟩
theorem fz_strs {E : Env} {h : Heap} {n : Nat} {T : TypeId} {d : TyD} {v : V} {ss : List (List UInt8)} (hr : InRow h T 1 v (ss.map V.str)) (hT : E.ty T = some d) (hd : d.size = 1) (ha : d.agg = false) : ∃ g, Sb.fz E h (n + 2) v = some g ∧ ((g = .nils ∧ ss = []) ∨ g = .lst 1 (ss.map V.str)) := by
  rcases hr with ⟨rfl, h0⟩ | ⟨b, rfl, hb, hne⟩
  · exact ⟨.nils, rfl, .inl ⟨rfl, by simpa using h0⟩⟩
  · refine ⟨.lst 1 (ss.map V.str), ?_, .inr rfl⟩
    rw [str_cells] at hb
    have hc : cellsAt h b ((ss.map V.str).length * 1) = some (T, ss.map V.str) := by unfold cellsAt; rw [hb]; simp
    have hm : (ss.map V.str).mapM (Sb.fz E h (n + 1)) = some (ss.map V.str) := by
      clear hb hc hne
      induction ss with
      | nil => rfl
      | cons s ss ih => rw [List.map_cons, List.mapM_cons, ih]; rfl
    show ((cellsAt h b ((ss.map V.str).length * 1)).bind fun x => (E.ty x.1).bind fun d =>
      if d.size = 1 ∧ 0 < 1 ∧ 0 + (ss.map V.str).length * 1 ≤ x.2.length ∧ (ss.map V.str).length ≤ (ss.map V.str).length then
        (if d.agg then (List.range (ss.map V.str).length).mapM (fun i => (((x.2.drop (0 + i * 1)).take 1).mapM (Sb.fz E h (n + 1))).map .agg)
         else if (1 : Nat) = 1 then ((x.2.drop 0).take (ss.map V.str).length).mapM (Sb.fz E h (n + 1)) else none).map (V.lst 1)
      else none) = _
    rw [hc]
    simp only [Option.bind_some, hT]
    rw [if_pos ⟨hd, by omega, by simp, Nat.le_refl _⟩, ha]
    simp only [Bool.false_eq_true, if_false, if_true, List.drop_zero, List.take_length, hm, Option.map_some]
theorem join_told {h : Heap} {v : V} {ss : List (List UInt8)} (hr : InRow h 9 1 v (ss.map V.str)) (hl : ss.length ≤ 1000000) (hj : (Lib.join ss [32]).length ≤ 100000000) : Has envQ .own 48 [v, .str [32]] h (.val (.str (Lib.join ss [32])) h) := by
  obtain ⟨g, h1, h2⟩ := fz_strs (E := envQ) (n := 10) hr rfl rfl rfl
  refine Has.told (E := envQ) (a := [g, .str [32]]) (p := tellJoin) ?_ rfl ?_ ?_
  · show (Sb.fz envQ h 12 v).bind _ = _
    rw [h1]; rfl
  · rcases h2 with ⟨rfl, rfl⟩ | rfl
    · rfl
    · simp only [tellJoin, unStrs_of, Option.bind_some]
      rw [if_pos ⟨hl, hj⟩]
  · simp [V.flat]
def jnI (B : List TokT) (k : Nat) (s : List V) (h : Heap) : Prop :=
  ∃ (i : Nat) (z y : Int) (w : V), (i + k = B.length ∧ z = i ∧ y = (szT (B.take i) : Int) - 1 ∧ (szT (B.take i) : Int) - 1 ≤ 4000 ∧ InRow h 9 1 w ((texts (B.take i)).map V.str)) ∧ s.length = 67 ∧ s.getD 0 und = und ∧ s.getD 3 und = .str [] ∧ s.getD 4 und = .int .i64 0 ∧ s.getD 6 und = w ∧ s.getD 7 und = .int .i64 y ∧ s.getD 38 und = .lst 3 (B.map tkV) ∧ s.getD 39 und = .int .i64 ((B.map tkV).length : Int) ∧ s.getD 40 und = .int .i64 z
theorem jnI_lit {B : List TokT} {k : Nat} {s : List V} {h : Heap} (hI : jnI B k s h) : ∃ (i : Nat) (z y : Int) (w : V) (x : Nat → V), (i + k = B.length ∧ z = i ∧ y = (szT (B.take i) : Int) - 1 ∧ (szT (B.take i) : Int) - 1 ≤ 4000 ∧ InRow h 9 1 w ((texts (B.take i)).map V.str)) ∧
    s = [und, x 1, x 2, .str [], .int .i64 0, x 5, w, .int .i64 y, x 8, x 9, x 10, x 11, x 12, x 13, x 14, x 15, x 16, x 17, x 18, x 19, x 20, x 21, x 22, x 23, x 24, x 25, x 26, x 27, x 28, x 29, x 30, x 31, x 32, x 33, x 34, x 35, x 36, x 37, .lst 3 (B.map tkV), .int .i64 ((B.map tkV).length : Int), .int .i64 z, x 41, x 42, x 43, x 44, x 45, x 46, x 47, x 48, x 49, x 50, x 51, x 52, x 53, x 54, x 55, x 56, x 57, x 58, x 59, x 60, x 61, x 62, x 63, x 64, x 65, x 66] := by
  obtain ⟨i, z, y, w, hF, hl, e0, e3, e4, e6, e7, e38, e39, e40⟩ := hI
  refine ⟨i, z, y, w, fun n => s.getD n und, hF, (lit_of hl).trans ?_⟩
  show [s.getD 0 und, s.getD 1 und, s.getD 2 und, s.getD 3 und, s.getD 4 und, s.getD 5 und, s.getD 6 und, s.getD 7 und, s.getD 8 und, s.getD 9 und, s.getD 10 und, s.getD 11 und, s.getD 12 und, s.getD 13 und, s.getD 14 und, s.getD 15 und, s.getD 16 und, s.getD 17 und, s.getD 18 und, s.getD 19 und, s.getD 20 und, s.getD 21 und, s.getD 22 und, s.getD 23 und, s.getD 24 und, s.getD 25 und, s.getD 26 und, s.getD 27 und, s.getD 28 und, s.getD 29 und, s.getD 30 und, s.getD 31 und, s.getD 32 und, s.getD 33 und, s.getD 34 und, s.getD 35 und, s.getD 36 und, s.getD 37 und, s.getD 38 und, s.getD 39 und, s.getD 40 und, s.getD 41 und, s.getD 42 und, s.getD 43 und, s.getD 44 und, s.getD 45 und, s.getD 46 und, s.getD 47 und, s.getD 48 und, s.getD 49 und, s.getD 50 und, s.getD 51 und, s.getD 52 und, s.getD 53 und, s.getD 54 und, s.getD 55 und, s.getD 56 und, s.getD 57 und, s.getD 58 und, s.getD 59 und, s.getD 60 und, s.getD 61 und, s.getD 62 und, s.getD 63 und, s.getD 64 und, s.getD 65 und, s.getD 66 und] = _
  rw [e0, e3, e4, e6, e7, e38, e39, e40]
def joM (B : List TokT) (k : Nat) (s : List V) (h : Heap) : Prop :=
  ∃ (l0 : List V), (l0 = B.map tkV ∧ h = []) ∧ s.length = 67 ∧ s.getD 0 und = und ∧ s.getD 1 und = .lst 3 l0 ∧ s.getD 3 und = .str [] ∧ s.getD 4 und = .int .i64 0
theorem joM_lit {B : List TokT} {k : Nat} {s : List V} {h : Heap} (hI : joM B k s h) : ∃ (l0 : List V) (x : Nat → V), (l0 = B.map tkV ∧ h = []) ∧
    s = [und, .lst 3 l0, x 2, .str [], .int .i64 0, x 5, x 6, x 7, x 8, x 9, x 10, x 11, x 12, x 13, x 14, x 15, x 16, x 17, x 18, x 19, x 20, x 21, x 22, x 23, x 24, x 25, x 26, x 27, x 28, x 29, x 30, x 31, x 32, x 33, x 34, x 35, x 36, x 37, x 38, x 39, x 40, x 41, x 42, x 43, x 44, x 45, x 46, x 47, x 48, x 49, x 50, x 51, x 52, x 53, x 54, x 55, x 56, x 57, x 58, x 59, x 60, x 61, x 62, x 63, x 64, x 65, x 66] := by
  obtain ⟨l0, hF, hl, e0, e1, e3, e4⟩ := hI
  refine ⟨l0, fun n => s.getD n und, hF, (lit_of hl).trans ?_⟩
  show [s.getD 0 und, s.getD 1 und, s.getD 2 und, s.getD 3 und, s.getD 4 und, s.getD 5 und, s.getD 6 und, s.getD 7 und, s.getD 8 und, s.getD 9 und, s.getD 10 und, s.getD 11 und, s.getD 12 und, s.getD 13 und, s.getD 14 und, s.getD 15 und, s.getD 16 und, s.getD 17 und, s.getD 18 und, s.getD 19 und, s.getD 20 und, s.getD 21 und, s.getD 22 und, s.getD 23 und, s.getD 24 und, s.getD 25 und, s.getD 26 und, s.getD 27 und, s.getD 28 und, s.getD 29 und, s.getD 30 und, s.getD 31 und, s.getD 32 und, s.getD 33 und, s.getD 34 und, s.getD 35 und, s.getD 36 und, s.getD 37 und, s.getD 38 und, s.getD 39 und, s.getD 40 und, s.getD 41 und, s.getD 42 und, s.getD 43 und, s.getD 44 und, s.getD 45 und, s.getD 46 und, s.getD 47 und, s.getD 48 und, s.getD 49 und, s.getD 50 und, s.getD 51 und, s.getD 52 und, s.getD 53 und, s.getD 54 und, s.getD 55 und, s.getD 56 und, s.getD 57 und, s.getD 58 und, s.getD 59 und, s.getD 60 und, s.getD 61 und, s.getD 62 und, s.getD 63 und, s.getD 64 und, s.getD 65 und, s.getD 66 und] = _
  rw [e0, e1, e3, e4]

def joinV (B : List TokT) : V := if (Lex.joinT B).length ≤ 4000 then .tup [.str (Lex.joinT B), .int .i64 0] else .tup [.str [], .int .i64 2]
set_option maxHeartbeats 8000000 in
theorem Join_has (h : Heap) (B tl : List TokT) (htl : tl = [] ∨ ∃ x, tl = [(6, [], x)]) (hok : ∀ t ∈ B, Lex.tokOk t.1 t.2.1) (hB : B.length ≤ 4001) (hs : ∀ t ∈ B, t.2.1.length ≤ 4001) : Has envQ .own 30 [.lst 3 ((B ++ tl).map tkV)] h (.val (joinV B) h) := by
  suffices hx : ∃ v, Has envQ .own 30 [.lst 3 ((B ++ tl).map tkV)] h (.val v h) ∧ v = joinV B by
    obtain ⟨v, h1, rfl⟩ := hx; exact h1
  refine HasP.ownE (a := [.lst 3 ((B ++ tl).map tkV)]) (d := fn30) rfl rfl rfl (of_decide_eq_true rfl) ?_
  apply RunP.seq
  apply RunP.region
  refine RunP.mid (M := fun s' h' => joM B 0 s' h') ?_ ?_
  · rcases htl with rfl | ⟨x, rfl⟩
    · rw [List.append_nil]
      rcases Lex.snoc_cases B with rfl | ⟨r, c, rfl⟩
      · skip
        apply RunP.seq
        refine RunP.regionR _ (fun K => rfl) ?_
        refine ops_sl (s' := [_,_,_,_,_,_,_,_,_,_,_,_,_,_,_,_,_,_,_,_,_,_,_,_,_,_,_,_,_,_,_,_,_,_,_,_,_,_,_,_,_,_,_,_,_,_,_,_,_,_,_,_,_,_,_,_,_,_,_,_,_,_,_,_,_,_,_]) rfl (fun K hK => hK) rfl ?_
        refine ops_sl (s' := [_,_,_,_,_,_,_,_,_,_,_,_,_,_,_,_,_,_,_,_,_,_,_,_,_,_,_,_,_,_,_,_,_,_,_,_,_,_,_,_,_,_,_,_,_,_,_,_,_,_,_,_,_,_,_,_,_,_,_,_,_,_,_,_,_,_,_]) rfl (fun K hK => hK) rfl ?_
        refine ops_sl (s' := [_,_,_,_,_,_,_,_,_,_,_,_,_,_,_,_,_,_,_,_,_,_,_,_,_,_,_,_,_,_,_,_,_,_,_,_,_,_,_,_,_,_,_,_,_,_,_,_,_,_,_,_,_,_,_,_,_,_,_,_,_,_,_,_,_,_,_]) rfl (fun K hK => hK) rfl ?_
        apply RunP.seq
        refine RunP.regionR _ (fun K => rfl) ?_
        refine ops_sl (s' := [_,_,_,_,_,_,_,_,_,_,_,_,_,_,_,_,_,_,_,_,_,_,_,_,_,_,_,_,_,_,_,_,_,_,_,_,_,_,_,_,_,_,_,_,_,_,_,_,_,_,_,_,_,_,_,_,_,_,_,_,_,_,_,_,_,_,_]) rfl (fun K hK => hK) rfl ?_
        refine ops_sl (s' := [_,_,_,_,_,_,_,_,_,_,_,_,_,_,_,_,_,_,_,_,_,_,_,_,_,_,_,_,_,_,_,_,_,_,_,_,_,_,_,_,_,_,_,_,_,_,_,_,_,_,_,_,_,_,_,_,_,_,_,_,_,_,_,_,_,_,_]) rfl (fun K hK => And.intro (fun w => absurd w (by simp)) (fun _ => hK)) rfl ?_
        refine ops_sl (s' := [_,_,_,_,_,_,_,_,_,_,_,_,_,_,_,_,_,_,_,_,_,_,_,_,_,_,_,_,_,_,_,_,_,_,_,_,_,_,_,_,_,_,_,_,_,_,_,_,_,_,_,_,_,_,_,_,_,_,_,_,_,_,_,_,_,_,_]) rfl (fun K hK => hK) rfl ?_
        refine ops_nl (s' := [_,_,_,_,_,_,_,_,_,_,_,_,_,_,_,_,_,_,_,_,_,_,_,_,_,_,_,_,_,_,_,_,_,_,_,_,_,_,_,_,_,_,_,_,_,_,_,_,_,_,_,_,_,_,_,_,_,_,_,_,_,_,_,_,_,_,_]) rfl rfl rfl rfl ?_
        refine ops_nl (s' := [_,_,_,_,_,_,_,_,_,_,_,_,_,_,_,_,_,_,_,_,_,_,_,_,_,_,_,_,_,_,_,_,_,_,_,_,_,_,_,_,_,_,_,_,_,_,_,_,_,_,_,_,_,_,_,_,_,_,_,_,_,_,_,_,_,_,_]) rfl rfl rfl rfl ?_
        refine ops_nl (s' := [_,_,_,_,_,_,_,_,_,_,_,_,_,_,_,_,_,_,_,_,_,_,_,_,_,_,_,_,_,_,_,_,_,_,_,_,_,_,_,_,_,_,_,_,_,_,_,_,_,_,_,_,_,_,_,_,_,_,_,_,_,_,_,_,_,_,_]) rfl rfl rfl rfl ?_
        refine ops_nl (s' := [_,_,_,_,_,_,_,_,_,_,_,_,_,_,_,_,_,_,_,_,_,_,_,_,_,_,_,_,_,_,_,_,_,_,_,_,_,_,_,_,_,_,_,_,_,_,_,_,_,_,_,_,_,_,_,_,_,_,_,_,_,_,_,_,_,_,_]) rfl rfl rfl rfl ?_
        refine ops_nl (s' := [_,_,_,_,_,_,_,_,_,_,_,_,_,_,_,_,_,_,_,_,_,_,_,_,_,_,_,_,_,_,_,_,_,_,_,_,_,_,_,_,_,_,_,_,_,_,_,_,_,_,_,_,_,_,_,_,_,_,_,_,_,_,_,_,_,_,_]) rfl rfl rfl rfl ?_
        refine ops_nl (s' := [_,_,_,_,_,_,_,_,_,_,_,_,_,_,_,_,_,_,_,_,_,_,_,_,_,_,_,_,_,_,_,_,_,_,_,_,_,_,_,_,_,_,_,_,_,_,_,_,_,_,_,_,_,_,_,_,_,_,_,_,_,_,_,_,_,_,_]) rfl rfl rfl rfl ?_
        refine ops_nl (s' := [_,_,_,_,_,_,_,_,_,_,_,_,_,_,_,_,_,_,_,_,_,_,_,_,_,_,_,_,_,_,_,_,_,_,_,_,_,_,_,_,_,_,_,_,_,_,_,_,_,_,_,_,_,_,_,_,_,_,_,_,_,_,_,_,_,_,_]) rfl rfl rfl rfl ?_
        refine ops_sl (s' := [_,_,_,_,_,_,_,_,_,_,_,_,_,_,_,_,_,_,_,_,_,_,_,_,_,_,_,_,_,_,_,_,_,_,_,_,_,_,_,_,_,_,_,_,_,_,_,_,_,_,_,_,_,_,_,_,_,_,_,_,_,_,_,_,_,_,_]) rfl (fun K hK => hK) rfl ?_
        refine ops_sl (s' := [_,_,_,_,_,_,_,_,_,_,_,_,_,_,_,_,_,_,_,_,_,_,_,_,_,_,_,_,_,_,_,_,_,_,_,_,_,_,_,_,_,_,_,_,_,_,_,_,_,_,_,_,_,_,_,_,_,_,_,_,_,_,_,_,_,_,_]) rfl (fun K hK => hK) rfl ?_
        refine ops_nl (s' := [_,_,_,_,_,_,_,_,_,_,_,_,_,_,_,_,_,_,_,_,_,_,_,_,_,_,_,_,_,_,_,_,_,_,_,_,_,_,_,_,_,_,_,_,_,_,_,_,_,_,_,_,_,_,_,_,_,_,_,_,_,_,_,_,_,_,_]) rfl rfl rfl rfl ?_
        refine ops_nl (s' := [_,_,_,_,_,_,_,_,_,_,_,_,_,_,_,_,_,_,_,_,_,_,_,_,_,_,_,_,_,_,_,_,_,_,_,_,_,_,_,_,_,_,_,_,_,_,_,_,_,_,_,_,_,_,_,_,_,_,_,_,_,_,_,_,_,_,_]) rfl rfl rfl rfl ?_
        refine ops_nl (s' := [_,_,_,_,_,_,_,_,_,_,_,_,_,_,_,_,_,_,_,_,_,_,_,_,_,_,_,_,_,_,_,_,_,_,_,_,_,_,_,_,_,_,_,_,_,_,_,_,_,_,_,_,_,_,_,_,_,_,_,_,_,_,_,_,_,_,_]) rfl rfl rfl rfl ?_
        refine ops_nl (s' := [_,_,_,_,_,_,_,_,_,_,_,_,_,_,_,_,_,_,_,_,_,_,_,_,_,_,_,_,_,_,_,_,_,_,_,_,_,_,_,_,_,_,_,_,_,_,_,_,_,_,_,_,_,_,_,_,_,_,_,_,_,_,_,_,_,_,_]) rfl rfl rfl rfl ?_
        refine ops_nl (s' := [_,_,_,_,_,_,_,_,_,_,_,_,_,_,_,_,_,_,_,_,_,_,_,_,_,_,_,_,_,_,_,_,_,_,_,_,_,_,_,_,_,_,_,_,_,_,_,_,_,_,_,_,_,_,_,_,_,_,_,_,_,_,_,_,_,_,_]) rfl rfl rfl rfl ?_
        refine ops_nl (s' := [_,_,_,_,_,_,_,_,_,_,_,_,_,_,_,_,_,_,_,_,_,_,_,_,_,_,_,_,_,_,_,_,_,_,_,_,_,_,_,_,_,_,_,_,_,_,_,_,_,_,_,_,_,_,_,_,_,_,_,_,_,_,_,_,_,_,_]) rfl rfl rfl rfl ?_
        refine ops_nl (s' := [_,_,_,_,_,_,_,_,_,_,_,_,_,_,_,_,_,_,_,_,_,_,_,_,_,_,_,_,_,_,_,_,_,_,_,_,_,_,_,_,_,_,_,_,_,_,_,_,_,_,_,_,_,_,_,_,_,_,_,_,_,_,_,_,_,_,_]) rfl rfl rfl rfl ?_
        refine ops_sl (s' := [_,_,_,_,_,_,_,_,_,_,_,_,_,_,_,_,_,_,_,_,_,_,_,_,_,_,_,_,_,_,_,_,_,_,_,_,_,_,_,_,_,_,_,_,_,_,_,_,_,_,_,_,_,_,_,_,_,_,_,_,_,_,_,_,_,_,_]) rfl (fun K hK => hK) rfl ?_
        repeat (first | apply RunP.seq | apply RunP.condT rfl | apply RunP.condF rfl | apply RunP.skip | apply RunP.block)
        exact ⟨rfl, _, ⟨by simp, rfl⟩, rfl, rfl, rfl, rfl, rfl⟩
      · have hLl : ((r ++ [c]).map tkV).length = r.length + 1 := by simp
        have hcl : r.length ≤ 4000 := by simp at hB; omega
        have ew : IntKind.i64.wrap ((((r ++ [c]).map tkV).length : Int) - 1) = (r.length : Int) := by rw [hLl, wrapS (by omega) (by omega)]; omega
        have hget : ((r ++ [c]).map tkV)[(IntKind.i64.wrap ((((r ++ [c]).map tkV).length : Int) - 1)).toNat]? = some (tkV c) := by rw [ew]; simp
        have h6 : ¬ c.1 = 6 := fun q => by
          rcases hok c (by simp) with ⟨w, _⟩ | ⟨w, _⟩ | ⟨w, _⟩ | ⟨w, _⟩ | ⟨w, _⟩ <;> rw [q] at w <;> exact absurd w (by decide)
        apply RunP.seq
        refine RunP.regionR _ (fun K => rfl) ?_
        refine ops_sl (s' := [_,_,_,_,_,_,_,_,_,_,_,_,_,_,_,_,_,_,_,_,_,_,_,_,_,_,_,_,_,_,_,_,_,_,_,_,_,_,_,_,_,_,_,_,_,_,_,_,_,_,_,_,_,_,_,_,_,_,_,_,_,_,_,_,_,_,_]) rfl (fun K hK => hK) rfl ?_
        refine ops_sl (s' := [_,_,_,_,_,_,_,_,_,_,_,_,_,_,_,_,_,_,_,_,_,_,_,_,_,_,_,_,_,_,_,_,_,_,_,_,_,_,_,_,_,_,_,_,_,_,_,_,_,_,_,_,_,_,_,_,_,_,_,_,_,_,_,_,_,_,_]) rfl (fun K hK => hK) rfl ?_
        refine ops_sl (s' := [_,_,_,_,_,_,_,_,_,_,_,_,_,_,_,_,_,_,_,_,_,_,_,_,_,_,_,_,_,_,_,_,_,_,_,_,_,_,_,_,_,_,_,_,_,_,_,_,_,_,_,_,_,_,_,_,_,_,_,_,_,_,_,_,_,_,_]) rfl (fun K hK => hK) rfl ?_
        apply RunP.seq
        refine RunP.regionR _ (fun K => rfl) ?_
        refine ops_sl (s' := [_,_,_,_,_,_,_,_,_,_,_,_,_,_,_,_,_,_,_,_,_,_,_,_,_,_,_,_,_,_,_,_,_,_,_,_,_,_,_,_,_,_,_,_,_,_,_,_,_,_,_,_,_,_,_,_,_,_,_,_,_,_,_,_,_,_,_]) rfl (fun K hK => hK) rfl ?_
        refine ops_sl (s' := [_,_,_,_,_,_,_,_,_,_,_,_,_,_,_,_,_,_,_,_,_,_,_,_,_,_,_,_,_,_,_,_,_,_,_,_,_,_,_,_,_,_,_,_,_,_,_,_,_,_,_,_,_,_,_,_,_,_,_,_,_,_,_,_,_,_,_]) rfl (fun K hK => And.intro (fun _ => hK) (fun w => absurd w (by rw [hLl]; omega))) rfl ?_
        refine ops_sl (s' := [_,_,_,_,_,_,_,_,_,_,_,_,_,_,_,_,_,_,_,_,_,_,_,_,_,_,_,_,_,_,_,_,_,_,_,_,_,_,_,_,_,_,_,_,_,_,_,_,_,_,_,_,_,_,_,_,_,_,_,_,_,_,_,_,_,_,_]) rfl (fun K hK => hK) rfl ?_
        refine ops_yl (s' := [_,_,_,_,_,_,_,_,_,_,_,_,_,_,_,_,_,_,_,_,_,_,_,_,_,_,_,_,_,_,_,_,_,_,_,_,_,_,_,_,_,_,_,_,_,_,_,_,_,_,_,_,_,_,_,_,_,_,_,_,_,_,_,_,_,_,_]) rfl rfl (fun K hK => hK) rfl ?_
        refine ops_yl (s' := [_,_,_,_,_,_,_,_,_,_,_,_,_,_,_,_,_,_,_,_,_,_,_,_,_,_,_,_,_,_,_,_,_,_,_,_,_,_,_,_,_,_,_,_,_,_,_,_,_,_,_,_,_,_,_,_,_,_,_,_,_,_,_,_,_,_,_]) rfl rfl (fun K hK => hK) rfl ?_
        refine ops_yl (s' := [_,_,_,_,_,_,_,_,_,_,_,_,_,_,_,_,_,_,_,_,_,_,_,_,_,_,_,_,_,_,_,_,_,_,_,_,_,_,_,_,_,_,_,_,_,_,_,_,_,_,_,_,_,_,_,_,_,_,_,_,_,_,_,_,_,_,_]) rfl rfl (fun K hK => hK) rfl ?_
        refine ops_yl (s' := [_,_,_,_,_,_,_,_,_,_,_,_,_,_,_,_,_,_,_,_,_,_,_,_,_,_,_,_,_,_,_,_,_,_,_,_,_,_,_,_,_,_,_,_,_,_,_,_,_,_,_,_,_,_,_,_,_,_,_,_,_,_,_,_,_,_,_]) rfl rfl (fun K hK => And.intro (by rw [ew]; omega) (And.intro rfl (Exists.intro _ (And.intro hget hK)))) rfl ?_
        refine ops_yl (s' := [_,_,_,_,_,_,_,_,_,_,_,_,_,_,_,_,_,_,_,_,_,_,_,_,_,_,_,_,_,_,_,_,_,_,_,_,_,_,_,_,_,_,_,_,_,_,_,_,_,_,_,_,_,_,_,_,_,_,_,_,_,_,_,_,_,_,_]) rfl rfl (fun K hK => hK) rfl ?_
        refine ops_yl (s' := [_,_,_,_,_,_,_,_,_,_,_,_,_,_,_,_,_,_,_,_,_,_,_,_,_,_,_,_,_,_,_,_,_,_,_,_,_,_,_,_,_,_,_,_,_,_,_,_,_,_,_,_,_,_,_,_,_,_,_,_,_,_,_,_,_,_,_]) rfl rfl (fun K hK => hK) rfl ?_
        refine ops_yl (s' := [_,_,_,_,_,_,_,_,_,_,_,_,_,_,_,_,_,_,_,_,_,_,_,_,_,_,_,_,_,_,_,_,_,_,_,_,_,_,_,_,_,_,_,_,_,_,_,_,_,_,_,_,_,_,_,_,_,_,_,_,_,_,_,_,_,_,_]) rfl rfl (fun K hK => And.intro (fun w => absurd w h6) (fun _ => hK)) rfl ?_
        refine ops_sl (s' := [_,_,_,_,_,_,_,_,_,_,_,_,_,_,_,_,_,_,_,_,_,_,_,_,_,_,_,_,_,_,_,_,_,_,_,_,_,_,_,_,_,_,_,_,_,_,_,_,_,_,_,_,_,_,_,_,_,_,_,_,_,_,_,_,_,_,_]) rfl (fun K hK => hK) rfl ?_
        refine ops_sl (s' := [_,_,_,_,_,_,_,_,_,_,_,_,_,_,_,_,_,_,_,_,_,_,_,_,_,_,_,_,_,_,_,_,_,_,_,_,_,_,_,_,_,_,_,_,_,_,_,_,_,_,_,_,_,_,_,_,_,_,_,_,_,_,_,_,_,_,_]) rfl (fun K hK => hK) rfl ?_
        refine ops_nl (s' := [_,_,_,_,_,_,_,_,_,_,_,_,_,_,_,_,_,_,_,_,_,_,_,_,_,_,_,_,_,_,_,_,_,_,_,_,_,_,_,_,_,_,_,_,_,_,_,_,_,_,_,_,_,_,_,_,_,_,_,_,_,_,_,_,_,_,_]) rfl rfl rfl rfl ?_
        refine ops_nl (s' := [_,_,_,_,_,_,_,_,_,_,_,_,_,_,_,_,_,_,_,_,_,_,_,_,_,_,_,_,_,_,_,_,_,_,_,_,_,_,_,_,_,_,_,_,_,_,_,_,_,_,_,_,_,_,_,_,_,_,_,_,_,_,_,_,_,_,_]) rfl rfl rfl rfl ?_
        refine ops_nl (s' := [_,_,_,_,_,_,_,_,_,_,_,_,_,_,_,_,_,_,_,_,_,_,_,_,_,_,_,_,_,_,_,_,_,_,_,_,_,_,_,_,_,_,_,_,_,_,_,_,_,_,_,_,_,_,_,_,_,_,_,_,_,_,_,_,_,_,_]) rfl rfl rfl rfl ?_
        refine ops_nl (s' := [_,_,_,_,_,_,_,_,_,_,_,_,_,_,_,_,_,_,_,_,_,_,_,_,_,_,_,_,_,_,_,_,_,_,_,_,_,_,_,_,_,_,_,_,_,_,_,_,_,_,_,_,_,_,_,_,_,_,_,_,_,_,_,_,_,_,_]) rfl rfl rfl rfl ?_
        refine ops_nl (s' := [_,_,_,_,_,_,_,_,_,_,_,_,_,_,_,_,_,_,_,_,_,_,_,_,_,_,_,_,_,_,_,_,_,_,_,_,_,_,_,_,_,_,_,_,_,_,_,_,_,_,_,_,_,_,_,_,_,_,_,_,_,_,_,_,_,_,_]) rfl rfl rfl rfl ?_
        refine ops_nl (s' := [_,_,_,_,_,_,_,_,_,_,_,_,_,_,_,_,_,_,_,_,_,_,_,_,_,_,_,_,_,_,_,_,_,_,_,_,_,_,_,_,_,_,_,_,_,_,_,_,_,_,_,_,_,_,_,_,_,_,_,_,_,_,_,_,_,_,_]) rfl rfl rfl rfl ?_
        refine ops_nl (s' := [_,_,_,_,_,_,_,_,_,_,_,_,_,_,_,_,_,_,_,_,_,_,_,_,_,_,_,_,_,_,_,_,_,_,_,_,_,_,_,_,_,_,_,_,_,_,_,_,_,_,_,_,_,_,_,_,_,_,_,_,_,_,_,_,_,_,_]) rfl rfl rfl rfl ?_
        refine ops_sl (s' := [_,_,_,_,_,_,_,_,_,_,_,_,_,_,_,_,_,_,_,_,_,_,_,_,_,_,_,_,_,_,_,_,_,_,_,_,_,_,_,_,_,_,_,_,_,_,_,_,_,_,_,_,_,_,_,_,_,_,_,_,_,_,_,_,_,_,_]) rfl (fun K hK => hK) rfl ?_
        repeat (first | apply RunP.seq | apply RunP.condT rfl | apply RunP.condF rfl | apply RunP.skip | apply RunP.block)
        exact ⟨rfl, _, ⟨by simp, rfl⟩, rfl, rfl, rfl, rfl, rfl⟩
    · have hLl : ((B ++ [((6 : Int), ([] : List UInt8), x)]).map tkV).length = B.length + 1 := by simp
      have ew : IntKind.i64.wrap ((((B ++ [((6 : Int), ([] : List UInt8), x)]).map tkV).length : Int) - 1) = (B.length : Int) := by rw [hLl, wrapS (by omega) (by omega)]; omega
      have hget : ((B ++ [((6 : Int), ([] : List UInt8), x)]).map tkV)[(IntKind.i64.wrap ((((B ++ [((6 : Int), ([] : List UInt8), x)]).map tkV).length : Int) - 1)).toNat]? = some (tkV (6, [], x)) := by rw [ew]; simp
      have htake : (((B ++ [((6 : Int), ([] : List UInt8), x)]).map tkV).take (IntKind.i64.wrap ((((B ++ [((6 : Int), ([] : List UInt8), x)]).map tkV).length : Int) - 1)).toNat).drop 0 = B.map tkV := by rw [ew]; simp
      apply RunP.seq
      refine RunP.regionR _ (fun K => rfl) ?_
      refine ops_sl (s' := [_,_,_,_,_,_,_,_,_,_,_,_,_,_,_,_,_,_,_,_,_,_,_,_,_,_,_,_,_,_,_,_,_,_,_,_,_,_,_,_,_,_,_,_,_,_,_,_,_,_,_,_,_,_,_,_,_,_,_,_,_,_,_,_,_,_,_]) rfl (fun K hK => hK) rfl ?_
      refine ops_sl (s' := [_,_,_,_,_,_,_,_,_,_,_,_,_,_,_,_,_,_,_,_,_,_,_,_,_,_,_,_,_,_,_,_,_,_,_,_,_,_,_,_,_,_,_,_,_,_,_,_,_,_,_,_,_,_,_,_,_,_,_,_,_,_,_,_,_,_,_]) rfl (fun K hK => hK) rfl ?_
      refine ops_sl (s' := [_,_,_,_,_,_,_,_,_,_,_,_,_,_,_,_,_,_,_,_,_,_,_,_,_,_,_,_,_,_,_,_,_,_,_,_,_,_,_,_,_,_,_,_,_,_,_,_,_,_,_,_,_,_,_,_,_,_,_,_,_,_,_,_,_,_,_]) rfl (fun K hK => hK) rfl ?_
      apply RunP.seq
      refine RunP.regionR _ (fun K => rfl) ?_
      refine ops_sl (s' := [_,_,_,_,_,_,_,_,_,_,_,_,_,_,_,_,_,_,_,_,_,_,_,_,_,_,_,_,_,_,_,_,_,_,_,_,_,_,_,_,_,_,_,_,_,_,_,_,_,_,_,_,_,_,_,_,_,_,_,_,_,_,_,_,_,_,_]) rfl (fun K hK => hK) rfl ?_
      refine ops_sl (s' := [_,_,_,_,_,_,_,_,_,_,_,_,_,_,_,_,_,_,_,_,_,_,_,_,_,_,_,_,_,_,_,_,_,_,_,_,_,_,_,_,_,_,_,_,_,_,_,_,_,_,_,_,_,_,_,_,_,_,_,_,_,_,_,_,_,_,_]) rfl (fun K hK => And.intro (fun _ => hK) (fun w => absurd w (by rw [hLl]; omega))) rfl ?_
      refine ops_sl (s' := [_,_,_,_,_,_,_,_,_,_,_,_,_,_,_,_,_,_,_,_,_,_,_,_,_,_,_,_,_,_,_,_,_,_,_,_,_,_,_,_,_,_,_,_,_,_,_,_,_,_,_,_,_,_,_,_,_,_,_,_,_,_,_,_,_,_,_]) rfl (fun K hK => hK) rfl ?_
      refine ops_yl (s' := [_,_,_,_,_,_,_,_,_,_,_,_,_,_,_,_,_,_,_,_,_,_,_,_,_,_,_,_,_,_,_,_,_,_,_,_,_,_,_,_,_,_,_,_,_,_,_,_,_,_,_,_,_,_,_,_,_,_,_,_,_,_,_,_,_,_,_]) rfl rfl (fun K hK => hK) rfl ?_
      refine ops_yl (s' := [_,_,_,_,_,_,_,_,_,_,_,_,_,_,_,_,_,_,_,_,_,_,_,_,_,_,_,_,_,_,_,_,_,_,_,_,_,_,_,_,_,_,_,_,_,_,_,_,_,_,_,_,_,_,_,_,_,_,_,_,_,_,_,_,_,_,_]) rfl rfl (fun K hK => hK) rfl ?_
      refine ops_yl (s' := [_,_,_,_,_,_,_,_,_,_,_,_,_,_,_,_,_,_,_,_,_,_,_,_,_,_,_,_,_,_,_,_,_,_,_,_,_,_,_,_,_,_,_,_,_,_,_,_,_,_,_,_,_,_,_,_,_,_,_,_,_,_,_,_,_,_,_]) rfl rfl (fun K hK => hK) rfl ?_
      refine ops_yl (s' := [_,_,_,_,_,_,_,_,_,_,_,_,_,_,_,_,_,_,_,_,_,_,_,_,_,_,_,_,_,_,_,_,_,_,_,_,_,_,_,_,_,_,_,_,_,_,_,_,_,_,_,_,_,_,_,_,_,_,_,_,_,_,_,_,_,_,_]) rfl rfl (fun K hK => And.intro (by rw [ew]; omega) (And.intro rfl (Exists.intro _ (And.intro hget hK)))) rfl ?_
      refine ops_yl (s' := [_,_,_,_,_,_,_,_,_,_,_,_,_,_,_,_,_,_,_,_,_,_,_,_,_,_,_,_,_,_,_,_,_,_,_,_,_,_,_,_,_,_,_,_,_,_,_,_,_,_,_,_,_,_,_,_,_,_,_,_,_,_,_,_,_,_,_]) rfl rfl (fun K hK => hK) rfl ?_
      refine ops_yl (s' := [_,_,_,_,_,_,_,_,_,_,_,_,_,_,_,_,_,_,_,_,_,_,_,_,_,_,_,_,_,_,_,_,_,_,_,_,_,_,_,_,_,_,_,_,_,_,_,_,_,_,_,_,_,_,_,_,_,_,_,_,_,_,_,_,_,_,_]) rfl rfl (fun K hK => hK) rfl ?_
      refine ops_yl (s' := [_,_,_,_,_,_,_,_,_,_,_,_,_,_,_,_,_,_,_,_,_,_,_,_,_,_,_,_,_,_,_,_,_,_,_,_,_,_,_,_,_,_,_,_,_,_,_,_,_,_,_,_,_,_,_,_,_,_,_,_,_,_,_,_,_,_,_]) rfl rfl (fun K hK => And.intro (fun _ => hK) (fun w => absurd rfl w)) rfl ?_
      refine ops_sl (s' := [_,_,_,_,_,_,_,_,_,_,_,_,_,_,_,_,_,_,_,_,_,_,_,_,_,_,_,_,_,_,_,_,_,_,_,_,_,_,_,_,_,_,_,_,_,_,_,_,_,_,_,_,_,_,_,_,_,_,_,_,_,_,_,_,_,_,_]) rfl (fun K hK => hK) rfl ?_
      refine ops_sl (s' := [_,_,_,_,_,_,_,_,_,_,_,_,_,_,_,_,_,_,_,_,_,_,_,_,_,_,_,_,_,_,_,_,_,_,_,_,_,_,_,_,_,_,_,_,_,_,_,_,_,_,_,_,_,_,_,_,_,_,_,_,_,_,_,_,_,_,_]) rfl (fun K hK => hK) rfl ?_
      refine ops_yl (s' := [_,_,_,_,_,_,_,_,_,_,_,_,_,_,_,_,_,_,_,_,_,_,_,_,_,_,_,_,_,_,_,_,_,_,_,_,_,_,_,_,_,_,_,_,_,_,_,_,_,_,_,_,_,_,_,_,_,_,_,_,_,_,_,_,_,_,_]) rfl rfl (fun K hK => hK) rfl ?_
      refine ops_yl (s' := [_,_,_,_,_,_,_,_,_,_,_,_,_,_,_,_,_,_,_,_,_,_,_,_,_,_,_,_,_,_,_,_,_,_,_,_,_,_,_,_,_,_,_,_,_,_,_,_,_,_,_,_,_,_,_,_,_,_,_,_,_,_,_,_,_,_,_]) rfl rfl (fun K hK => hK) rfl ?_
      refine ops_yl (s' := [_,_,_,_,_,_,_,_,_,_,_,_,_,_,_,_,_,_,_,_,_,_,_,_,_,_,_,_,_,_,_,_,_,_,_,_,_,_,_,_,_,_,_,_,_,_,_,_,_,_,_,_,_,_,_,_,_,_,_,_,_,_,_,_,_,_,_]) rfl rfl (fun K hK => hK) rfl ?_
      refine ops_yl (s' := [_,_,_,_,_,_,_,_,_,_,_,_,_,_,_,_,_,_,_,_,_,_,_,_,_,_,_,_,_,_,_,_,_,_,_,_,_,_,_,_,_,_,_,_,_,_,_,_,_,_,_,_,_,_,_,_,_,_,_,_,_,_,_,_,_,_,_]) rfl rfl (fun K hK => And.intro (by rw [ew]; omega) (And.intro rfl (Exists.intro _ (And.intro hget hK)))) rfl ?_
      refine ops_yl (s' := [_,_,_,_,_,_,_,_,_,_,_,_,_,_,_,_,_,_,_,_,_,_,_,_,_,_,_,_,_,_,_,_,_,_,_,_,_,_,_,_,_,_,_,_,_,_,_,_,_,_,_,_,_,_,_,_,_,_,_,_,_,_,_,_,_,_,_]) rfl rfl (fun K hK => hK) rfl ?_
      refine ops_yl (s' := [_,_,_,_,_,_,_,_,_,_,_,_,_,_,_,_,_,_,_,_,_,_,_,_,_,_,_,_,_,_,_,_,_,_,_,_,_,_,_,_,_,_,_,_,_,_,_,_,_,_,_,_,_,_,_,_,_,_,_,_,_,_,_,_,_,_,_]) rfl rfl (fun K hK => hK) rfl ?_
      refine ops_yl (s' := [_,_,_,_,_,_,_,_,_,_,_,_,_,_,_,_,_,_,_,_,_,_,_,_,_,_,_,_,_,_,_,_,_,_,_,_,_,_,_,_,_,_,_,_,_,_,_,_,_,_,_,_,_,_,_,_,_,_,_,_,_,_,_,_,_,_,_]) rfl rfl (fun K hK => And.intro (fun _ => hK) (fun w => absurd rfl w)) rfl ?_
      refine ops_sl (s' := [_,_,_,_,_,_,_,_,_,_,_,_,_,_,_,_,_,_,_,_,_,_,_,_,_,_,_,_,_,_,_,_,_,_,_,_,_,_,_,_,_,_,_,_,_,_,_,_,_,_,_,_,_,_,_,_,_,_,_,_,_,_,_,_,_,_,_]) rfl (fun K hK => hK) rfl ?_
      repeat (first | apply RunP.seq | apply RunP.condT rfl | apply RunP.condF rfl | apply RunP.skip | apply RunP.block)
      refine RunP.regionR _ (fun K => rfl) ?_
      refine ops_sl (s' := [_,_,_,_,_,_,_,_,_,_,_,_,_,_,_,_,_,_,_,_,_,_,_,_,_,_,_,_,_,_,_,_,_,_,_,_,_,_,_,_,_,_,_,_,_,_,_,_,_,_,_,_,_,_,_,_,_,_,_,_,_,_,_,_,_,_,_]) rfl (fun K hK => hK) rfl ?_
      refine ops_sl (s' := [_,_,_,_,_,_,_,_,_,_,_,_,_,_,_,_,_,_,_,_,_,_,_,_,_,_,_,_,_,_,_,_,_,_,_,_,_,_,_,_,_,_,_,_,_,_,_,_,_,_,_,_,_,_,_,_,_,_,_,_,_,_,_,_,_,_,_]) rfl (fun K hK => hK) rfl ?_
      refine ops_sl (s' := [_,_,_,_,_,_,_,_,_,_,_,_,_,_,_,_,_,_,_,_,_,_,_,_,_,_,_,_,_,_,_,_,_,_,_,_,_,_,_,_,_,_,_,_,_,_,_,_,_,_,_,_,_,_,_,_,_,_,_,_,_,_,_,_,_,_,_]) rfl (fun K hK => hK) rfl ?_
      refine ops_sl (s' := [_,_,_,_,_,_,_,_,_,_,_,_,_,_,_,_,_,_,_,_,_,_,_,_,_,_,_,_,_,_,_,_,_,_,_,_,_,_,_,_,_,_,_,_,_,_,_,_,_,_,_,_,_,_,_,_,_,_,_,_,_,_,_,_,_,_,_]) rfl (fun K hK => And.intro (by rw [ew]; omega) (And.intro rfl (And.intro ⟨Nat.zero_le _, by rw [ew]; simp⟩ hK))) rfl ?_
      refine ops_sl (s' := [_,_,_,_,_,_,_,_,_,_,_,_,_,_,_,_,_,_,_,_,_,_,_,_,_,_,_,_,_,_,_,_,_,_,_,_,_,_,_,_,_,_,_,_,_,_,_,_,_,_,_,_,_,_,_,_,_,_,_,_,_,_,_,_,_,_,_]) rfl (fun K hK => hK) rfl ?_
      exact ⟨rfl, _, ⟨htake, rfl⟩, rfl, rfl, rfl, rfl, rfl⟩
  intro s1 g1 hM
  obtain ⟨l0, x, ⟨rfl, rfl⟩, rfl⟩ := joM_lit hM
  clear hM
  have hBl : (B.map tkV).length = B.length := List.length_map ..
  repeat (first | apply RunP.seq | apply RunP.region | apply RunP.condT rfl | apply RunP.condF rfl | apply RunP.skip | apply RunP.block | apply RunP.exit | apply RunP.ret)
  refine RunP.loop (jnI B) ?_ B.length ⟨0, _, _, _, ⟨by omega, rfl, rfl, by simp [szT], .inl ⟨rfl, rfl⟩⟩, rfl, rfl, rfl, rfl, rfl, rfl, rfl, rfl, rfl⟩
  intro k st g hI
  obtain ⟨i, z, y, w, x2, ⟨hik, hz, hy, hle, hrow⟩, rfl⟩ := jnI_lit hI
  clear hI
  subst hz
  have ew : IntKind.i64.wrap ((i : Int) + 1) = ((i + 1 : Nat) : Int) := wrap1 (by omega)
  repeat (first | apply RunP.seq | apply RunP.region | apply RunP.condT rfl | apply RunP.condF rfl | apply RunP.skip | apply RunP.block | apply RunP.exit | apply RunP.ret)
  refine And.intro (fun hlt => ?_) (fun hge => ?_)
  · rw [hBl] at hlt
    have hi : i < B.length := by omega
    obtain ⟨kd, tx, pa, hr⟩ : ∃ kd tx pa, B[i] = (kd, tx, pa) := ⟨_, _, _, rfl⟩
    have hm : (kd, tx, pa) ∈ B := by rw [← hr]; exact List.getElem_mem hi
    have hget : (B.map tkV)[i]? = some (.agg [.int .i64 kd, .str tx, .int .i64 pa]) := by rw [List.getElem?_map, List.getElem?_eq_getElem hi, hr]; rfl
    have htk : B.take (i + 1) = B.take i ++ [(kd, tx, pa)] := by rw [List.take_add_one, List.getElem?_eq_getElem hi, hr]; rfl
    have hsz := szT_snoc (B.take i) (kd, tx, pa)
    rw [← htk] at hsz
    have hall := szT_take B (i + 1)
    have hT : ∀ g, Has envQ .own 47 [.agg [.int .i64 kd, .str tx, .int .i64 pa]] g (.val (.tup [.str (Lex.shown kd tx), .bool true]) g) := fun g => by
      obtain ⟨v, h1, w, rfl, hw⟩ := text_has g kd tx pa (by have := hs _ hm; simp only [] at this; omega)
      have ht : textOk kd tx = true := by
        have hk := hok _ hm
        have hb := isTokB_of hk
        unfold textOk
        rw [hb, Bool.and_true]
        rcases hk with ⟨q, _⟩ | ⟨q, _⟩ | ⟨q, _⟩ | ⟨q, _⟩ | ⟨q, _⟩ <;> simp only [] at q <;> subst q <;> rfl
      rw [hw ht, ht] at h1
      exact h1
    have htl2 : (texts (B.take i)).length ≤ 2 ^ 20 := by unfold texts; rw [List.length_map, List.length_take]; omega
    have hne : B ≠ [] := fun q => by rw [q] at hi; simp at hi
    have hjl := joinT_len B hne
    have hshl : (Lex.shown kd tx).length ≤ 8004 := by
      have h1 := esc_len tx
      have h2 : tx.length ≤ 4001 := hs _ hm
      unfold Lex.shown Lex.quote
      split
      · simp only [List.length_cons, List.length_append, List.length_nil]; omega
      · omega
    generalize hsh : Lex.shown kd tx = sh at *
    repeat (first | apply RunP.seq | apply RunP.region | apply RunP.condT rfl | apply RunP.condF rfl | apply RunP.skip | apply RunP.block | apply RunP.exit | apply RunP.ret)
    refine And.intro (by omega) (And.intro rfl (Exists.intro _ (And.intro hget ?_)))
    refine bindK_of (store_last (E := envQ) (t := 35) (n := 3) (v := .agg [.int .i64 kd, .str tx, .int .i64 pa]) rfl rfl rfl rfl rfl) ?_
    have hrow2 := hrow.push (.cells 35 (V.agg [.int .i64 kd, .str tx, .int .i64 pa]).cells)
    generalize hb : g.length = b
    generalize hG : Sb.push g (.cells 35 (V.agg [.int .i64 kd, .str tx, .int .i64 pa]).cells) = G at hrow2 ⊢
    have hcell : G[b]? = some (.cells 35 [.int .i64 kd, .str tx, .int .i64 pa]) := by rw [← hG, ← hb]; exact push_last _ _
    clear hG hb hrow
    have es1 : IntKind.i64.wrap ((sh.length : Int) + 1) = ((sh.length + 1 : Nat) : Int) := by rw [wrapS (by omega) (by omega)]; omega
    have es2 : IntKind.i64.wrap (y + IntKind.i64.wrap ((sh.length : Int) + 1)) = (szT (B.take (i + 1)) : Int) - 1 := by rw [es1, wrapS (by omega) (by omega)]; omega
    repeat (first | apply RunP.seq | apply RunP.condT rfl | apply RunP.condF rfl | apply RunP.skip | apply RunP.block)
    refine RunP.regionR _ (fun K => rfl) ?_
    refine ops_sl (s' := [_,_,_,_,_,_,_,_,_,_,_,_,_,_,_,_,_,_,_,_,_,_,_,_,_,_,_,_,_,_,_,_,_,_,_,_,_,_,_,_,_,_,_,_,_,_,_,_,_,_,_,_,_,_,_,_,_,_,_,_,_,_,_,_,_,_,_]) rfl (fun K hK => bindK_of (load_at (E := envQ) (t := 35) (n := 3) hcell rfl) hK) rfl ?_
    refine ops_sl (s' := [_,_,_,_,_,_,_,_,_,_,_,_,_,_,_,_,_,_,_,_,_,_,_,_,_,_,_,_,_,_,_,_,_,_,_,_,_,_,_,_,_,_,_,_,_,_,_,_,_,_,_,_,_,_,_,_,_,_,_,_,_,_,_,_,_,_,_]) rfl (fun K hK => CallK.of (hT _) hK) rfl ?_
    refine ops_sl (s' := [_,_,_,_,_,_,_,_,_,_,_,_,_,_,_,_,_,_,_,_,_,_,_,_,_,_,_,_,_,_,_,_,_,_,_,_,_,_,_,_,_,_,_,_,_,_,_,_,_,_,_,_,_,_,_,_,_,_,_,_,_,_,_,_,_,_,_]) rfl (fun K hK => hK) rfl ?_
    refine ops_sl (s' := [_,_,_,_,_,_,_,_,_,_,_,_,_,_,_,_,_,_,_,_,_,_,_,_,_,_,_,_,_,_,_,_,_,_,_,_,_,_,_,_,_,_,_,_,_,_,_,_,_,_,_,_,_,_,_,_,_,_,_,_,_,_,_,_,_,_,_]) rfl (fun K hK => hK) rfl ?_
    refine ops_sl (s' := [_,_,_,_,_,_,_,_,_,_,_,_,_,_,_,_,_,_,_,_,_,_,_,_,_,_,_,_,_,_,_,_,_,_,_,_,_,_,_,_,_,_,_,_,_,_,_,_,_,_,_,_,_,_,_,_,_,_,_,_,_,_,_,_,_,_,_]) rfl (fun K hK => hK) rfl ?_
    refine ops_sl (s' := [_,_,_,_,_,_,_,_,_,_,_,_,_,_,_,_,_,_,_,_,_,_,_,_,_,_,_,_,_,_,_,_,_,_,_,_,_,_,_,_,_,_,_,_,_,_,_,_,_,_,_,_,_,_,_,_,_,_,_,_,_,_,_,_,_,_,_]) rfl (fun K hK => hK) rfl ?_
    refine ops_sl (s' := [_,_,_,_,_,_,_,_,_,_,_,_,_,_,_,_,_,_,_,_,_,_,_,_,_,_,_,_,_,_,_,_,_,_,_,_,_,_,_,_,_,_,_,_,_,_,_,_,_,_,_,_,_,_,_,_,_,_,_,_,_,_,_,_,_,_,_]) rfl (fun K hK => hK) rfl ?_
    repeat (first | apply RunP.seq | apply RunP.condT rfl | apply RunP.condF rfl | apply RunP.skip | apply RunP.block)
    refine RunP.regionR _ (fun K => rfl) ?_
    refine ops_sl (s' := [_,_,_,_,_,_,_,_,_,_,_,_,_,_,_,_,_,_,_,_,_,_,_,_,_,_,_,_,_,_,_,_,_,_,_,_,_,_,_,_,_,_,_,_,_,_,_,_,_,_,_,_,_,_,_,_,_,_,_,_,_,_,_,_,_,_,_]) rfl (fun K hK => hK) rfl ?_
    refine ops_sl (s' := [_,_,_,_,_,_,_,_,_,_,_,_,_,_,_,_,_,_,_,_,_,_,_,_,_,_,_,_,_,_,_,_,_,_,_,_,_,_,_,_,_,_,_,_,_,_,_,_,_,_,_,_,_,_,_,_,_,_,_,_,_,_,_,_,_,_,_]) rfl (fun K hK => hK) rfl ?_
    refine ops_sl (s' := [_,_,_,_,_,_,_,_,_,_,_,_,_,_,_,_,_,_,_,_,_,_,_,_,_,_,_,_,_,_,_,_,_,_,_,_,_,_,_,_,_,_,_,_,_,_,_,_,_,_,_,_,_,_,_,_,_,_,_,_,_,_,_,_,_,_,_]) rfl (fun K hK => hK) rfl ?_
    refine ops_sl (s' := [_,_,_,_,_,_,_,_,_,_,_,_,_,_,_,_,_,_,_,_,_,_,_,_,_,_,_,_,_,_,_,_,_,_,_,_,_,_,_,_,_,_,_,_,_,_,_,_,_,_,_,_,_,_,_,_,_,_,_,_,_,_,_,_,_,_,_]) rfl (fun K hK => hK) rfl ?_
    refine ops_sl (s' := [_,_,_,_,_,_,_,_,_,_,_,_,_,_,_,_,_,_,_,_,_,_,_,_,_,_,_,_,_,_,_,_,_,_,_,_,_,_,_,_,_,_,_,_,_,_,_,_,_,_,_,_,_,_,_,_,_,_,_,_,_,_,_,_,_,_,_]) rfl (fun K hK => hK) rfl ?_
    refine ops_sl (s' := [_,_,_,_,_,_,_,_,_,_,_,_,_,_,_,_,_,_,_,_,_,_,_,_,_,_,_,_,_,_,_,_,_,_,_,_,_,_,_,_,_,_,_,_,_,_,_,_,_,_,_,_,_,_,_,_,_,_,_,_,_,_,_,_,_,_,_]) rfl (fun K hK => hK) rfl ?_
    by_cases hbig : 4000 < (szT (B.take (i + 1)) : Int) - 1
    · repeat (first | apply RunP.seq | apply RunP.condT rfl | apply RunP.condF rfl | apply RunP.skip | apply RunP.block)
      refine RunP.regionR _ (fun K => rfl) ?_
      refine ops_sl (s' := [_,_,_,_,_,_,_,_,_,_,_,_,_,_,_,_,_,_,_,_,_,_,_,_,_,_,_,_,_,_,_,_,_,_,_,_,_,_,_,_,_,_,_,_,_,_,_,_,_,_,_,_,_,_,_,_,_,_,_,_,_,_,_,_,_,_,_]) rfl (fun K hK => hK) rfl ?_
      refine ops_sl (s' := [_,_,_,_,_,_,_,_,_,_,_,_,_,_,_,_,_,_,_,_,_,_,_,_,_,_,_,_,_,_,_,_,_,_,_,_,_,_,_,_,_,_,_,_,_,_,_,_,_,_,_,_,_,_,_,_,_,_,_,_,_,_,_,_,_,_,_]) rfl (fun K hK => hK) rfl ?_
      refine ops_sl (s' := [_,_,_,_,_,_,_,_,_,_,_,_,_,_,_,_,_,_,_,_,_,_,_,_,_,_,_,_,_,_,_,_,_,_,_,_,_,_,_,_,_,_,_,_,_,_,_,_,_,_,_,_,_,_,_,_,_,_,_,_,_,_,_,_,_,_,_]) rfl (fun K hK => hK) rfl ?_
      refine ops_yl (s' := [_,_,_,_,_,_,_,_,_,_,_,_,_,_,_,_,_,_,_,_,_,_,_,_,_,_,_,_,_,_,_,_,_,_,_,_,_,_,_,_,_,_,_,_,_,_,_,_,_,_,_,_,_,_,_,_,_,_,_,_,_,_,_,_,_,_,_]) rfl rfl (fun K hK => hK) rfl ?_
      refine ops_yl (s' := [_,_,_,_,_,_,_,_,_,_,_,_,_,_,_,_,_,_,_,_,_,_,_,_,_,_,_,_,_,_,_,_,_,_,_,_,_,_,_,_,_,_,_,_,_,_,_,_,_,_,_,_,_,_,_,_,_,_,_,_,_,_,_,_,_,_,_]) rfl rfl (fun K hK => And.intro (fun _ => hK) (fun w => absurd w (by rw [es2]; omega))) rfl ?_
      refine ops_sl (s' := [_,_,_,_,_,_,_,_,_,_,_,_,_,_,_,_,_,_,_,_,_,_,_,_,_,_,_,_,_,_,_,_,_,_,_,_,_,_,_,_,_,_,_,_,_,_,_,_,_,_,_,_,_,_,_,_,_,_,_,_,_,_,_,_,_,_,_]) rfl (fun K hK => hK) rfl ?_
      repeat (first | apply RunP.seq | apply RunP.region | apply RunP.condT rfl | apply RunP.condF rfl | apply RunP.skip | apply RunP.block | apply RunP.exit | apply RunP.ret)
      exact ⟨rfl, _, rfl, rfl, by unfold joinV; rw [if_neg (by omega)]; rfl⟩
    · obtain ⟨v', g', ha, hr'⟩ := app_strE (E := envQ) (t := 38) (T := 9) rfl rfl rfl rfl rfl hrow2 sh htl2
      repeat (first | apply RunP.seq | apply RunP.condT rfl | apply RunP.condF rfl | apply RunP.skip | apply RunP.block)
      refine RunP.regionR _ (fun K => rfl) ?_
      refine ops_sl (s' := [_,_,_,_,_,_,_,_,_,_,_,_,_,_,_,_,_,_,_,_,_,_,_,_,_,_,_,_,_,_,_,_,_,_,_,_,_,_,_,_,_,_,_,_,_,_,_,_,_,_,_,_,_,_,_,_,_,_,_,_,_,_,_,_,_,_,_]) rfl (fun K hK => hK) rfl ?_
      refine ops_sl (s' := [_,_,_,_,_,_,_,_,_,_,_,_,_,_,_,_,_,_,_,_,_,_,_,_,_,_,_,_,_,_,_,_,_,_,_,_,_,_,_,_,_,_,_,_,_,_,_,_,_,_,_,_,_,_,_,_,_,_,_,_,_,_,_,_,_,_,_]) rfl (fun K hK => hK) rfl ?_
      refine ops_sl (s' := [_,_,_,_,_,_,_,_,_,_,_,_,_,_,_,_,_,_,_,_,_,_,_,_,_,_,_,_,_,_,_,_,_,_,_,_,_,_,_,_,_,_,_,_,_,_,_,_,_,_,_,_,_,_,_,_,_,_,_,_,_,_,_,_,_,_,_]) rfl (fun K hK => hK) rfl ?_
      refine ops_yl (s' := [_,_,_,_,_,_,_,_,_,_,_,_,_,_,_,_,_,_,_,_,_,_,_,_,_,_,_,_,_,_,_,_,_,_,_,_,_,_,_,_,_,_,_,_,_,_,_,_,_,_,_,_,_,_,_,_,_,_,_,_,_,_,_,_,_,_,_]) rfl rfl (fun K hK => hK) rfl ?_
      refine ops_yl (s' := [_,_,_,_,_,_,_,_,_,_,_,_,_,_,_,_,_,_,_,_,_,_,_,_,_,_,_,_,_,_,_,_,_,_,_,_,_,_,_,_,_,_,_,_,_,_,_,_,_,_,_,_,_,_,_,_,_,_,_,_,_,_,_,_,_,_,_]) rfl rfl (fun K hK => And.intro (fun w => absurd w (by rw [es2]; omega)) (fun _ => hK)) rfl ?_
      refine ops_sl (s' := [_,_,_,_,_,_,_,_,_,_,_,_,_,_,_,_,_,_,_,_,_,_,_,_,_,_,_,_,_,_,_,_,_,_,_,_,_,_,_,_,_,_,_,_,_,_,_,_,_,_,_,_,_,_,_,_,_,_,_,_,_,_,_,_,_,_,_]) rfl (fun K hK => hK) rfl ?_
      repeat (first | apply RunP.seq | apply RunP.condT rfl | apply RunP.condF rfl | apply RunP.skip | apply RunP.block)
      refine RunP.regionR _ (fun K => rfl) ?_
      refine ops_sl (s' := [_,_,_,_,_,_,_,_,_,_,_,_,_,_,_,_,_,_,_,_,_,_,_,_,_,_,_,_,_,_,_,_,_,_,_,_,_,_,_,_,_,_,_,_,_,_,_,_,_,_,_,_,_,_,_,_,_,_,_,_,_,_,_,_,_,_,_]) rfl (fun K hK => hK) rfl ?_
      refine ops_sl (s' := [_,_,_,_,_,_,_,_,_,_,_,_,_,_,_,_,_,_,_,_,_,_,_,_,_,_,_,_,_,_,_,_,_,_,_,_,_,_,_,_,_,_,_,_,_,_,_,_,_,_,_,_,_,_,_,_,_,_,_,_,_,_,_,_,_,_,_]) rfl (fun K hK => hK) rfl ?_
      refine ops_sl (v := .sl (_ : Heap).length 0 1 1 1 1) (g := Sb.push _ (.cells 9 [.str sh])) (s' := [_,_,_,_,_,_,_,_,_,_,_,_,_,_,_,_,_,_,_,_,_,_,_,_,_,_,_,_,_,_,_,_,_,_,_,_,_,_,_,_,_,_,_,_,_,_,_,_,_,_,_,_,_,_,_,_,_,_,_,_,_,_,_,_,_,_,_]) rfl (fun K hK => hK) rfl ?_
      refine ops_sl (s' := [_,_,_,_,_,_,_,_,_,_,_,_,_,_,_,_,_,_,_,_,_,_,_,_,_,_,_,_,_,_,_,_,_,_,_,_,_,_,_,_,_,_,_,_,_,_,_,_,_,_,_,_,_,_,_,_,_,_,_,_,_,_,_,_,_,_,_]) rfl (fun K hK => bindR_of (show valH (evAppend envQ 38 w (.sl G.length 0 1 1 1 1) (Sb.push G (.cells 9 [.str sh]))) = some (.val v' g') from by rw [ha]; rfl) hK) rfl ?_
      refine ops_sl (s' := [_,_,_,_,_,_,_,_,_,_,_,_,_,_,_,_,_,_,_,_,_,_,_,_,_,_,_,_,_,_,_,_,_,_,_,_,_,_,_,_,_,_,_,_,_,_,_,_,_,_,_,_,_,_,_,_,_,_,_,_,_,_,_,_,_,_,_]) rfl (fun K hK => hK) rfl ?_
      repeat (first | apply RunP.seq | apply RunP.region | apply RunP.condT rfl | apply RunP.condF rfl | apply RunP.skip | apply RunP.block | apply RunP.exit | apply RunP.ret)
      exact ⟨k - 1, by omega, i + 1, _, _, _, ⟨by omega, ew, es2, by omega, by rw [htk]; unfold texts at hr' ⊢; rw [List.map_append]; show InRow g' _ _ v' ((List.map _ _ ++ [Lex.shown kd tx]).map V.str); rw [hsh]; exact hr'⟩, rfl, rfl, rfl, rfl, rfl, rfl, rfl, rfl, rfl⟩
  · rw [hBl] at hge
    have hi : i = B.length := by omega
    subst hi
    rw [List.take_length] at hrow hle
    have hj := joinT_lib B
    have hjl : (Lex.joinT B).length ≤ 4000 := by
      by_cases hne : B = []
      · subst hne; simp [Lex.joinT]
      · have := joinT_len B hne; omega
    repeat (first | apply RunP.seq | apply RunP.region | apply RunP.condT rfl | apply RunP.condF rfl | apply RunP.skip | apply RunP.block | apply RunP.exit | apply RunP.ret)
    refine CallK.of (join_told hrow (by unfold texts; rw [List.length_map]; omega) (by rw [hj]; omega)) ?_
    repeat (first | apply RunP.seq | apply RunP.region | apply RunP.condT rfl | apply RunP.condF rfl | apply RunP.skip | apply RunP.block | apply RunP.exit | apply RunP.ret)
    exact ⟨rfl, _, rfl, rfl, by unfold joinV; rw [if_pos hjl, hj]; rfl⟩
end Go.Proofs.YtmpgphjbeoboaaaDoor
