/- Whether this can be a token: the reference's word. -/
import Derived.Test.YtmpgphjbeoboaaaDoorSbLexisQuotes
import Derived.Test.YtmpgphjbeoboaaaDoorSbNumeral
import Derived.Test.YtmpgphjbeoboaaaDoorSbLexT5
import Derived.Test.YtmpgphjbeoboaaaDoorSbToksR
set_option linter.unusedVariables false
set_option linter.unusedSimpArgs false
namespace Go.Proofs.YtmpgphjbeoboaaaDoor
open Go.Sb
set_option maxRecDepth 100000

/-- Whether this can be a token. -/
def isTokB (k : Int) (s : List UInt8) : Bool :=
  if k = 1 then Lex.isName s else if k = 2 then Lex.isNumeral s else if k = 3 then Lex.isText s else if k = 4 then Lex.isSign s else if k = 5 then Lex.isWord s else decide (k = 6) && s.isEmpty
theorem isTokB_end {k : Int} {s : List UInt8} (h : k = 6) : isTokB k s = s.isEmpty := by subst h; unfold isTokB; simp
theorem isTokB_no {k : Int} {s : List UInt8} (h1 : ¬ k = 1) (h2 : ¬ k = 2) (h3 : ¬ k = 3) (h4 : ¬ k = 4) (h5 : ¬ k = 5) (h6 : ¬ k = 6) : isTokB k s = false := by
  unfold isTokB; rw [if_neg h1, if_neg h2, if_neg h3, if_neg h4, if_neg h5]; simp [h6]
theorem isTokB_of {k : Int} {s : List UInt8} (h : Lex.tokOk k s) : isTokB k s = true := by
  rcases h with ⟨rfl, h⟩ | ⟨rfl, h⟩ | ⟨rfl, h⟩ | ⟨rfl, h⟩ | ⟨rfl, h⟩ <;> exact h
set_option maxHeartbeats 4000000 in
theorem refIsToken_has (h : Heap) (k : Int) (s : List UInt8) (a : Int) (hs : s.length ≤ 2 ^ 30) : Has envQ .own 22 [.agg [.int .i64 k, .str s, .int .i64 a]] h (.val (.bool (isTokB k s)) h) := by
  suffices hx : ∃ v, Has envQ .own 22 [.agg [.int .i64 k, .str s, .int .i64 a]] h (.val v h) ∧ v = .bool (isTokB k s) by
    obtain ⟨v, h1, rfl⟩ := hx; exact h1
  refine HasP.ownE (a := [.agg [.int .i64 k, .str s, .int .i64 a]]) (d := fn22) rfl rfl rfl (of_decide_eq_true rfl) ?_
  repeat (first | apply RunP.seq | apply RunP.region | apply RunP.condT rfl | apply RunP.condF rfl | apply RunP.skip | apply RunP.block | apply RunP.exit | apply RunP.ret)
  refine And.intro (fun hk => ?_) (fun hk => ?_)
  · repeat (first | apply RunP.seq | apply RunP.region | apply RunP.condT rfl | apply RunP.condF rfl | apply RunP.skip | apply RunP.block | apply RunP.exit | apply RunP.ret)
    refine CallK.of (refIsName_has _ s (by omega)) ?_
    repeat (first | apply RunP.seq | apply RunP.region | apply RunP.condT rfl | apply RunP.condF rfl | apply RunP.skip | apply RunP.block | apply RunP.exit | apply RunP.ret)
    exact ⟨rfl, _, rfl, rfl, by subst hk; rfl⟩
  · repeat (first | apply RunP.seq | apply RunP.region | apply RunP.condT rfl | apply RunP.condF rfl | apply RunP.skip | apply RunP.block | apply RunP.exit | apply RunP.ret)
    refine And.intro (fun hk => ?_) (fun hk => ?_)
    · repeat (first | apply RunP.seq | apply RunP.region | apply RunP.condT rfl | apply RunP.condF rfl | apply RunP.skip | apply RunP.block | apply RunP.exit | apply RunP.ret)
      refine CallK.of (refNumeral_has _ s (by omega)) ?_
      repeat (first | apply RunP.seq | apply RunP.region | apply RunP.condT rfl | apply RunP.condF rfl | apply RunP.skip | apply RunP.block | apply RunP.exit | apply RunP.ret)
      exact ⟨rfl, _, rfl, rfl, by subst hk; rfl⟩
    · repeat (first | apply RunP.seq | apply RunP.region | apply RunP.condT rfl | apply RunP.condF rfl | apply RunP.skip | apply RunP.block | apply RunP.exit | apply RunP.ret)
      refine And.intro (fun hk => ?_) (fun hk => ?_)
      · repeat (first | apply RunP.seq | apply RunP.region | apply RunP.condT rfl | apply RunP.condF rfl | apply RunP.skip | apply RunP.block | apply RunP.exit | apply RunP.ret)
        refine CallK.of (refIsText_has _ s (by omega)) ?_
        repeat (first | apply RunP.seq | apply RunP.region | apply RunP.condT rfl | apply RunP.condF rfl | apply RunP.skip | apply RunP.block | apply RunP.exit | apply RunP.ret)
        exact ⟨rfl, _, rfl, rfl, by subst hk; rfl⟩
      · repeat (first | apply RunP.seq | apply RunP.region | apply RunP.condT rfl | apply RunP.condF rfl | apply RunP.skip | apply RunP.block | apply RunP.exit | apply RunP.ret)
        refine And.intro (fun hk => ?_) (fun hk => ?_)
        · repeat (first | apply RunP.seq | apply RunP.region | apply RunP.condT rfl | apply RunP.condF rfl | apply RunP.skip | apply RunP.block | apply RunP.exit | apply RunP.ret)
          refine CallK.of (refIsSign_has _ s) ?_
          repeat (first | apply RunP.seq | apply RunP.region | apply RunP.condT rfl | apply RunP.condF rfl | apply RunP.skip | apply RunP.block | apply RunP.exit | apply RunP.ret)
          exact ⟨rfl, _, rfl, rfl, by subst hk; rfl⟩
        · repeat (first | apply RunP.seq | apply RunP.region | apply RunP.condT rfl | apply RunP.condF rfl | apply RunP.skip | apply RunP.block | apply RunP.exit | apply RunP.ret)
          refine And.intro (fun hk => ?_) (fun hk => ?_)
          · repeat (first | apply RunP.seq | apply RunP.region | apply RunP.condT rfl | apply RunP.condF rfl | apply RunP.skip | apply RunP.block | apply RunP.exit | apply RunP.ret)
            refine CallK.of (refIsWord_has _ s) ?_
            repeat (first | apply RunP.seq | apply RunP.region | apply RunP.condT rfl | apply RunP.condF rfl | apply RunP.skip | apply RunP.block | apply RunP.exit | apply RunP.ret)
            exact ⟨rfl, _, rfl, rfl, by subst hk; rfl⟩
          · repeat (first | apply RunP.seq | apply RunP.region | apply RunP.condT rfl | apply RunP.condF rfl | apply RunP.skip | apply RunP.block | apply RunP.exit | apply RunP.ret)
            refine And.intro (fun h6 => ?_) (fun h6 => ?_)
            · refine And.intro (fun he => ?_) (fun he => ?_)
              · repeat (first | apply RunP.seq | apply RunP.region | apply RunP.condT rfl | apply RunP.condF rfl | apply RunP.skip | apply RunP.block | apply RunP.exit | apply RunP.ret)
                exact ⟨rfl, _, rfl, rfl, by rw [isTokB_end h6]; cases s with | nil => rfl | cons a b => cases he⟩
              · repeat (first | apply RunP.seq | apply RunP.region | apply RunP.condT rfl | apply RunP.condF rfl | apply RunP.skip | apply RunP.block | apply RunP.exit | apply RunP.ret)
                exact ⟨rfl, _, rfl, rfl, by rw [isTokB_end h6]; cases s with | nil => exact absurd rfl he | cons a b => rfl⟩
            · repeat (first | apply RunP.seq | apply RunP.region | apply RunP.condT rfl | apply RunP.condF rfl | apply RunP.skip | apply RunP.block | apply RunP.exit | apply RunP.ret)
              exact ⟨rfl, _, rfl, rfl, (congrArg V.bool (isTokB_no ‹_› ‹_› ‹_› ‹_› ‹_› h6)).symm⟩
end Go.Proofs.YtmpgphjbeoboaaaDoor
