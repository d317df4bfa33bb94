/- The law LexisQuotes. -/
import Derived.Test.YtmpgphjbeoboaaaDoorSbQuote
set_option linter.unusedVariables false
set_option linter.unusedSimpArgs false
namespace Go.Proofs.YtmpgphjbeoboaaaDoor
open Go.Sb
set_option maxRecDepth 100000

/-- The first bytes of a text. -/
theorem brief_len (n : Nat) (s : List UInt8) : ((List.drop 0 (List.take (if ((n : Int)) < (s.length : Int) then ((n : Int)) else (s.length : Int)).toNat s)).length : Int) ≤ n := by
  rw [List.drop_zero, List.length_take]
  split <;> omega

theorem quoteV_yes {u : List UInt8} (h : Lex.isText u = true) : quoteV u = .tup [.str (Lex.quote u), .int .i64 0] := by unfold quoteV; rw [h]; rfl
theorem quoteV_no {u : List UInt8} (h : Lex.isText u = false) : quoteV u = .tup [.str [], .int .i64 2] := by unfold quoteV; rw [h]; rfl
theorem lexisQuotes_has (s : List UInt8) : Has envQ .own 4 [.str s] [] (.val (.bool true) []) := by
  refine HasP.own (a := [.str s]) (d := fn4) rfl rfl rfl (of_decide_eq_true rfl) ?_
  repeat (first | apply RunP.seq | apply RunP.region | apply RunP.condT rfl | apply RunP.condF rfl | apply RunP.skip | apply RunP.block | apply RunP.exit | apply RunP.ret)
  apply And.intro
  · split <;> omega
  apply And.intro
  · split <;> omega
  have hx := brief_len 100 s
  generalize List.drop 0 (List.take (if (100 : Int) < (s.length : Int) then (100 : Int) else (s.length : Int)).toNat s) = u at hx ⊢
  repeat (first | apply RunP.seq | apply RunP.region | apply RunP.condT rfl | apply RunP.condF rfl | apply RunP.skip | apply RunP.block | apply RunP.exit | apply RunP.ret)
  have hq := Quote_has [] u (by omega)
  have ht := refIsText_has [] u (by omega)
  cases hT : Lex.isText u
  · rw [quoteV_no hT] at hq
    rw [hT] at ht
    refine CallK.of hq ?_
    repeat (first | apply RunP.seq | apply RunP.region | apply RunP.condT rfl | apply RunP.condF rfl | apply RunP.skip | apply RunP.block | apply RunP.exit | apply RunP.ret)
    refine CallK.of ht ?_
    repeat (first | apply RunP.seq | apply RunP.region | apply RunP.condT rfl | apply RunP.condF rfl | apply RunP.skip | apply RunP.block | apply RunP.exit | apply RunP.ret)
    refine And.intro (fun _ => ?_) (fun h => absurd rfl h)
    repeat (first | apply RunP.seq | apply RunP.region | apply RunP.condT rfl | apply RunP.condF rfl | apply RunP.skip | apply RunP.block | apply RunP.exit | apply RunP.ret)
    refine And.intro (fun _ => ?_) (fun h => absurd rfl h)
    refine CallK.of (awake_told _) ?_
    repeat (first | apply RunP.seq | apply RunP.region | apply RunP.condT rfl | apply RunP.condF rfl | apply RunP.skip | apply RunP.block | apply RunP.exit | apply RunP.ret)
    exact ⟨rfl, rfl, rfl⟩
  · rw [quoteV_yes hT] at hq
    rw [hT] at ht
    refine CallK.of hq ?_
    repeat (first | apply RunP.seq | apply RunP.region | apply RunP.condT rfl | apply RunP.condF rfl | apply RunP.skip | apply RunP.block | apply RunP.exit | apply RunP.ret)
    refine CallK.of ht ?_
    repeat (first | apply RunP.seq | apply RunP.region | apply RunP.condT rfl | apply RunP.condF rfl | apply RunP.skip | apply RunP.block | apply RunP.exit | apply RunP.ret)
    refine CallK.of (refQuote_has _ u (by omega)) ?_
    refine And.intro (fun _ => ?_) (fun h => absurd rfl h)
    refine And.intro (fun _ => ?_) (fun h => absurd rfl h)
    refine CallK.of (awake_told _) ?_
    repeat (first | apply RunP.seq | apply RunP.region | apply RunP.condT rfl | apply RunP.condF rfl | apply RunP.skip | apply RunP.block | apply RunP.exit | apply RunP.ret)
    exact ⟨rfl, rfl, rfl⟩
end Go.Proofs.YtmpgphjbeoboaaaDoor
