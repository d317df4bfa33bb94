/- EvalShows: the law answers true. -/
import Derived.Test.YtkjhnpmgieplgaaGreatDoorSbShow
import Derived.Test.YtkjhnpmgieplgaaGreatDoorSbEvalValid
set_option linter.unusedVariables false
set_option linter.unusedSimpArgs false
namespace Go.Proofs.YtkjhnpmgieplgaaGreatDoor
open Go.Sb
set_option maxRecDepth 100000

theorem refShow_has (h : Heap) (k n : Int) (s : List UInt8) (hv : ValidP k n s) : Has envQ .own 18 [.agg [.int .i64 k, .int .i64 n, .str s]] h (.val (.str (showL k n s)) h) := by
  suffices hx : ∃ v, Has envQ .own 18 [.agg [.int .i64 k, .int .i64 n, .str s]] h (.val v h) ∧ v = .str (showL k n s) by
    obtain ⟨v, h1, rfl⟩ := hx; exact h1
  refine HasP.ownE (a := [.agg [.int .i64 k, .int .i64 n, .str s]]) (d := fn18) rfl rfl rfl (of_decide_eq_true rfl) ?_
  have hn := valid_n hv
  have hl := itoa_len hn
  repeat (first | apply RunP.seq | apply RunP.region | apply RunP.condT rfl | apply RunP.condF rfl | apply RunP.skip | apply RunP.block | apply RunP.exit | apply RunP.ret)
  refine And.intro (fun k0 => ?_) (fun k0 => ?_)
  · repeat (first | apply RunP.seq | apply RunP.region | apply RunP.condT rfl | apply RunP.condF rfl | apply RunP.skip | apply RunP.block | apply RunP.exit | apply RunP.ret)
    exact ⟨rfl, _, rfl, rfl, by unfold showL; rw [if_pos k0]; rfl⟩
  · repeat (first | apply RunP.seq | apply RunP.region | apply RunP.condT rfl | apply RunP.condF rfl | apply RunP.skip | apply RunP.block | apply RunP.exit | apply RunP.ret)
    refine And.intro (fun k1 => ?_) (fun k1 => ?_)
    · repeat (first | apply RunP.seq | apply RunP.region | apply RunP.condT rfl | apply RunP.condF rfl | apply RunP.skip | apply RunP.block | apply RunP.exit | apply RunP.ret)
      refine CallK.of (Digits_has _ n hn) ?_
      repeat (first | apply RunP.seq | apply RunP.region | apply RunP.condT rfl | apply RunP.condF rfl | apply RunP.skip | apply RunP.block | apply RunP.exit | apply RunP.ret)
      exact ⟨rfl, _, rfl, rfl, by unfold showL; rw [if_neg k0, if_pos k1]; rfl⟩
    · repeat (first | apply RunP.seq | apply RunP.region | apply RunP.condT rfl | apply RunP.condF rfl | apply RunP.skip | apply RunP.block | apply RunP.exit | apply RunP.ret)
      refine And.intro (fun k2 => ?_) (fun k2 => ?_)
      · repeat (first | apply RunP.seq | apply RunP.region | apply RunP.condT rfl | apply RunP.condF rfl | apply RunP.skip | apply RunP.block | apply RunP.exit | apply RunP.ret)
        refine And.intro (fun a1 => ?_) (fun a1 => ?_)
        · repeat (first | apply RunP.seq | apply RunP.region | apply RunP.condT rfl | apply RunP.condF rfl | apply RunP.skip | apply RunP.block | apply RunP.exit | apply RunP.ret)
          exact ⟨rfl, _, rfl, rfl, by unfold showL; rw [if_neg k0, if_neg k1, if_pos k2, if_pos (decide_eq_true a1)]; rfl⟩
        · repeat (first | apply RunP.seq | apply RunP.region | apply RunP.condT rfl | apply RunP.condF rfl | apply RunP.skip | apply RunP.block | apply RunP.exit | apply RunP.ret)
          exact ⟨rfl, _, rfl, rfl, by unfold showL; rw [if_neg k0, if_neg k1, if_pos k2, if_neg (by simp [a1])]; rfl⟩
      · repeat (first | apply RunP.seq | apply RunP.region | apply RunP.condT rfl | apply RunP.condF rfl | apply RunP.skip | apply RunP.block | apply RunP.exit | apply RunP.ret)
        refine And.intro (fun k3 => ?_) (fun k3 => ?_)
        · have ht : Lex.isText s = true := by unfold ValidP at hv; exact textI_iff.1 (by omega)
          have hlen : s.length ≤ 60 := by unfold Lex.isText at ht; simp at ht; exact ht.2
          repeat (first | apply RunP.seq | apply RunP.region | apply RunP.condT rfl | apply RunP.condF rfl | apply RunP.skip | apply RunP.block | apply RunP.exit | apply RunP.ret)
          refine CallK.of (refQuote_has _ s (by omega)) ?_
          repeat (first | apply RunP.seq | apply RunP.region | apply RunP.condT rfl | apply RunP.condF rfl | apply RunP.skip | apply RunP.block | apply RunP.exit | apply RunP.ret)
          exact ⟨rfl, _, rfl, rfl, by unfold showL; rw [if_neg k0, if_neg k1, if_neg k2, if_pos k3]; rfl⟩
        · obtain ⟨h4, h6⟩ := valid_k hv k0 k1 k2 k3
          have e : k = 4 ∨ k = 5 ∨ k = 6 := by omega
          clear hv
          rcases e with rfl | rfl | rfl
          · skip
            repeat (first | apply RunP.seq | apply RunP.condT rfl | apply RunP.condF rfl | apply RunP.skip | apply RunP.block)
            refine RunP.drawnR _ (by decide +kernel) (fun K => rfl) ?_
            refine draw_zl (s' := [_,_,_,_,_,_,_,_,_,_,_,_,_,_,_,_,_,_,_,_,_,_,_,_,_,_,_,_,_,_,_,_]) rfl (fun K hK => hK) (by decide +kernel) rfl ?_
            refine draw_zl (s' := [_,_,_,_,_,_,_,_,_,_,_,_,_,_,_,_,_,_,_,_,_,_,_,_,_,_,_,_,_,_,_,_]) rfl (fun K hK => hK) (by decide +kernel) rfl ?_
            refine draw_rl (s' := [_,_,_,_,_,_,_,_,_,_,_,_,_,_,_,_,_,_,_,_,_,_,_,_,_,_,_,_,_,_,_,_]) rfl (fun K hK => hK) (by decide +kernel) rfl ?_
            refine draw_zl (s' := [_,_,_,_,_,_,_,_,_,_,_,_,_,_,_,_,_,_,_,_,_,_,_,_,_,_,_,_,_,_,_,_]) rfl (fun K hK => hK) (by decide +kernel) rfl ?_
            refine draw_zl (s' := [_,_,_,_,_,_,_,_,_,_,_,_,_,_,_,_,_,_,_,_,_,_,_,_,_,_,_,_,_,_,_,_]) rfl (fun K hK => hK) (by decide +kernel) rfl ?_
            refine draw_zl (s' := [_,_,_,_,_,_,_,_,_,_,_,_,_,_,_,_,_,_,_,_,_,_,_,_,_,_,_,_,_,_,_,_]) rfl (fun K hK => hK) (by decide +kernel) rfl ?_
            refine draw_rl (s' := [_,_,_,_,_,_,_,_,_,_,_,_,_,_,_,_,_,_,_,_,_,_,_,_,_,_,_,_,_,_,_,_]) rfl (fun K hK => hK) (by decide +kernel) rfl ?_
            refine draw_rl (s' := [_,_,_,_,_,_,_,_,_,_,_,_,_,_,_,_,_,_,_,_,_,_,_,_,_,_,_,_,_,_,_,_]) rfl (fun K hK => CallK.of (Digits_has _ n hn) hK) (by decide +kernel) rfl ?_
            refine draw_zl (s' := [_,_,_,_,_,_,_,_,_,_,_,_,_,_,_,_,_,_,_,_,_,_,_,_,_,_,_,_,_,_,_,_]) rfl (fun K hK => And.intro (by simp only [List.length_cons, List.length_nil]; omega) hK) (by decide +kernel) rfl ?_
            refine draw_zl (s' := [_,_,_,_,_,_,_,_,_,_,_,_,_,_,_,_,_,_,_,_,_,_,_,_,_,_,_,_,_,_,_,_]) rfl (fun K hK => hK) (by decide +kernel) rfl ?_
            repeat (first | apply RunP.seq | apply RunP.region | apply RunP.condT rfl | apply RunP.condF rfl | apply RunP.skip | apply RunP.block | apply RunP.exit | apply RunP.ret)
            exact ⟨rfl, _, rfl, rfl, rfl⟩
          · skip
            repeat (first | apply RunP.seq | apply RunP.condT rfl | apply RunP.condF rfl | apply RunP.skip | apply RunP.block)
            refine RunP.drawnR _ (by decide +kernel) (fun K => rfl) ?_
            refine draw_zl (s' := [_,_,_,_,_,_,_,_,_,_,_,_,_,_,_,_,_,_,_,_,_,_,_,_,_,_,_,_,_,_,_,_]) rfl (fun K hK => hK) (by decide +kernel) rfl ?_
            refine draw_zl (s' := [_,_,_,_,_,_,_,_,_,_,_,_,_,_,_,_,_,_,_,_,_,_,_,_,_,_,_,_,_,_,_,_]) rfl (fun K hK => hK) (by decide +kernel) rfl ?_
            refine draw_rl (s' := [_,_,_,_,_,_,_,_,_,_,_,_,_,_,_,_,_,_,_,_,_,_,_,_,_,_,_,_,_,_,_,_]) rfl (fun K hK => hK) (by decide +kernel) rfl ?_
            refine draw_zl (s' := [_,_,_,_,_,_,_,_,_,_,_,_,_,_,_,_,_,_,_,_,_,_,_,_,_,_,_,_,_,_,_,_]) rfl (fun K hK => hK) (by decide +kernel) rfl ?_
            refine draw_zl (s' := [_,_,_,_,_,_,_,_,_,_,_,_,_,_,_,_,_,_,_,_,_,_,_,_,_,_,_,_,_,_,_,_]) rfl (fun K hK => hK) (by decide +kernel) rfl ?_
            refine draw_zl (s' := [_,_,_,_,_,_,_,_,_,_,_,_,_,_,_,_,_,_,_,_,_,_,_,_,_,_,_,_,_,_,_,_]) rfl (fun K hK => hK) (by decide +kernel) rfl ?_
            refine draw_rl (s' := [_,_,_,_,_,_,_,_,_,_,_,_,_,_,_,_,_,_,_,_,_,_,_,_,_,_,_,_,_,_,_,_]) rfl (fun K hK => hK) (by decide +kernel) rfl ?_
            refine draw_rl (s' := [_,_,_,_,_,_,_,_,_,_,_,_,_,_,_,_,_,_,_,_,_,_,_,_,_,_,_,_,_,_,_,_]) rfl (fun K hK => CallK.of (Digits_has _ n hn) hK) (by decide +kernel) rfl ?_
            refine draw_zl (s' := [_,_,_,_,_,_,_,_,_,_,_,_,_,_,_,_,_,_,_,_,_,_,_,_,_,_,_,_,_,_,_,_]) rfl (fun K hK => And.intro (by simp only [List.length_cons, List.length_nil]; omega) hK) (by decide +kernel) rfl ?_
            refine draw_zl (s' := [_,_,_,_,_,_,_,_,_,_,_,_,_,_,_,_,_,_,_,_,_,_,_,_,_,_,_,_,_,_,_,_]) rfl (fun K hK => hK) (by decide +kernel) rfl ?_
            repeat (first | apply RunP.seq | apply RunP.region | apply RunP.condT rfl | apply RunP.condF rfl | apply RunP.skip | apply RunP.block | apply RunP.exit | apply RunP.ret)
            exact ⟨rfl, _, rfl, rfl, rfl⟩
          · skip
            repeat (first | apply RunP.seq | apply RunP.condT rfl | apply RunP.condF rfl | apply RunP.skip | apply RunP.block)
            refine RunP.drawnR _ (by decide +kernel) (fun K => rfl) ?_
            refine draw_zl (s' := [_,_,_,_,_,_,_,_,_,_,_,_,_,_,_,_,_,_,_,_,_,_,_,_,_,_,_,_,_,_,_,_]) rfl (fun K hK => hK) (by decide +kernel) rfl ?_
            refine draw_zl (s' := [_,_,_,_,_,_,_,_,_,_,_,_,_,_,_,_,_,_,_,_,_,_,_,_,_,_,_,_,_,_,_,_]) rfl (fun K hK => hK) (by decide +kernel) rfl ?_
            refine draw_rl (s' := [_,_,_,_,_,_,_,_,_,_,_,_,_,_,_,_,_,_,_,_,_,_,_,_,_,_,_,_,_,_,_,_]) rfl (fun K hK => hK) (by decide +kernel) rfl ?_
            refine draw_zl (s' := [_,_,_,_,_,_,_,_,_,_,_,_,_,_,_,_,_,_,_,_,_,_,_,_,_,_,_,_,_,_,_,_]) rfl (fun K hK => hK) (by decide +kernel) rfl ?_
            refine draw_zl (s' := [_,_,_,_,_,_,_,_,_,_,_,_,_,_,_,_,_,_,_,_,_,_,_,_,_,_,_,_,_,_,_,_]) rfl (fun K hK => hK) (by decide +kernel) rfl ?_
            refine draw_zl (s' := [_,_,_,_,_,_,_,_,_,_,_,_,_,_,_,_,_,_,_,_,_,_,_,_,_,_,_,_,_,_,_,_]) rfl (fun K hK => hK) (by decide +kernel) rfl ?_
            refine draw_rl (s' := [_,_,_,_,_,_,_,_,_,_,_,_,_,_,_,_,_,_,_,_,_,_,_,_,_,_,_,_,_,_,_,_]) rfl (fun K hK => hK) (by decide +kernel) rfl ?_
            refine draw_rl (s' := [_,_,_,_,_,_,_,_,_,_,_,_,_,_,_,_,_,_,_,_,_,_,_,_,_,_,_,_,_,_,_,_]) rfl (fun K hK => CallK.of (Digits_has _ n hn) hK) (by decide +kernel) rfl ?_
            refine draw_zl (s' := [_,_,_,_,_,_,_,_,_,_,_,_,_,_,_,_,_,_,_,_,_,_,_,_,_,_,_,_,_,_,_,_]) rfl (fun K hK => And.intro (by simp only [List.length_cons, List.length_nil]; omega) hK) (by decide +kernel) rfl ?_
            refine draw_zl (s' := [_,_,_,_,_,_,_,_,_,_,_,_,_,_,_,_,_,_,_,_,_,_,_,_,_,_,_,_,_,_,_,_]) rfl (fun K hK => hK) (by decide +kernel) rfl ?_
            repeat (first | apply RunP.seq | apply RunP.region | apply RunP.condT rfl | apply RunP.condF rfl | apply RunP.skip | apply RunP.block | apply RunP.exit | apply RunP.ret)
            exact ⟨rfl, _, rfl, rfl, rfl⟩
end Go.Proofs.YtkjhnpmgieplgaaGreatDoor
