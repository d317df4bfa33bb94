/- Operators: Binary, Unary. -/
import Derived.Test.YtkjhnpmgieplgaaGreatDoorSbOp4
set_option linter.unusedVariables false
set_option linter.unusedSimpArgs false
namespace Go.Proofs.YtkjhnpmgieplgaaGreatDoor
open Go.Sb
set_option maxRecDepth 100000

/-- What Binary answers. -/
def binaryV (op : Int) (v w : Int × Int × List UInt8) : V :=
  if (7 ≤ op ∧ op ≤ 19) ∧ ValidP v.1 v.2.1 v.2.2 ∧ ValidP w.1 w.2.1 w.2.2 then .tup [vV (binL op v w).1, fV (binL op v w).2, .int .i64 0] else .tup [vV zV, fV noF, .int .i64 2]
theorem valid_len {k n : Int} {s : List UInt8} (h : ValidP k n s) : s.length ≤ 60 := by
  unfold ValidP at h
  by_cases ht : textI s = 1
  · have := textI_iff.1 ht; unfold Lex.isText at this; simp at this; exact this.2
  · omega
set_option maxHeartbeats 4000000 in
theorem Binary_has (h : Heap) (op kv nv : Int) (sv : List UInt8) (kw nw : Int) (sw : List UInt8) (hsv : sv.length ≤ 9223372036854775807) (hsw : sw.length ≤ 9223372036854775807) : Has envQ .own 22 [.int .i64 op, .agg [.int .i64 kv, .int .i64 nv, .str sv], .agg [.int .i64 kw, .int .i64 nw, .str sw]] h (.val (binaryV op (kv, nv, sv) (kw, nw, sw)) h) := by
  suffices hx : ∃ v, Has envQ .own 22 [.int .i64 op, .agg [.int .i64 kv, .int .i64 nv, .str sv], .agg [.int .i64 kw, .int .i64 nw, .str sw]] h (.val v h) ∧ v = binaryV op (kv, nv, sv) (kw, nw, sw) by
    obtain ⟨v, h1, rfl⟩ := hx; exact h1
  refine HasP.ownE (a := [.int .i64 op, .agg [.int .i64 kv, .int .i64 nv, .str sv], .agg [.int .i64 kw, .int .i64 nw, .str sw]]) (d := fn22) rfl rfl rfl (of_decide_eq_true rfl) ?_
  have hV := fun g => evValid_has g kv nv sv hsv
  have hW := fun g => evValid_has g kw nw sw hsw
  apply RunP.seq
  apply RunP.region
  by_cases hA : op < 7
  · skip
    repeat (first | apply RunP.seq | apply RunP.condT rfl | apply RunP.condF rfl | apply RunP.skip | apply RunP.block)
    refine RunP.regionR _ (fun K => rfl) ?_
    refine ops_sl (s' := [_,_,_,_,_,_,_,_,_,_,_,_,_,_,_,_,_,_,_,_,_,_,_,_,_,_,_,_,_,_,_,_,_,_,_,_,_,_,_]) rfl (fun K hK => hK) rfl ?_
    refine ops_sl (s' := [_,_,_,_,_,_,_,_,_,_,_,_,_,_,_,_,_,_,_,_,_,_,_,_,_,_,_,_,_,_,_,_,_,_,_,_,_,_,_]) rfl (fun K hK => And.intro (fun _ => hK) (fun w => absurd w (by omega))) rfl ?_
    refine ops_sl (s' := [_,_,_,_,_,_,_,_,_,_,_,_,_,_,_,_,_,_,_,_,_,_,_,_,_,_,_,_,_,_,_,_,_,_,_,_,_,_,_]) rfl (fun K hK => hK) rfl ?_
    refine ops_nl (s' := [_,_,_,_,_,_,_,_,_,_,_,_,_,_,_,_,_,_,_,_,_,_,_,_,_,_,_,_,_,_,_,_,_,_,_,_,_,_,_]) rfl rfl rfl rfl ?_
    refine ops_nl (s' := [_,_,_,_,_,_,_,_,_,_,_,_,_,_,_,_,_,_,_,_,_,_,_,_,_,_,_,_,_,_,_,_,_,_,_,_,_,_,_]) rfl rfl rfl rfl ?_
    refine ops_sl (s' := [_,_,_,_,_,_,_,_,_,_,_,_,_,_,_,_,_,_,_,_,_,_,_,_,_,_,_,_,_,_,_,_,_,_,_,_,_,_,_]) rfl (fun K hK => hK) rfl ?_
    refine ops_sl (s' := [_,_,_,_,_,_,_,_,_,_,_,_,_,_,_,_,_,_,_,_,_,_,_,_,_,_,_,_,_,_,_,_,_,_,_,_,_,_,_]) rfl (fun K hK => hK) rfl ?_
    refine ops_nl (s' := [_,_,_,_,_,_,_,_,_,_,_,_,_,_,_,_,_,_,_,_,_,_,_,_,_,_,_,_,_,_,_,_,_,_,_,_,_,_,_]) rfl rfl rfl rfl ?_
    refine ops_nl (s' := [_,_,_,_,_,_,_,_,_,_,_,_,_,_,_,_,_,_,_,_,_,_,_,_,_,_,_,_,_,_,_,_,_,_,_,_,_,_,_]) rfl rfl rfl rfl ?_
    refine ops_nl (s' := [_,_,_,_,_,_,_,_,_,_,_,_,_,_,_,_,_,_,_,_,_,_,_,_,_,_,_,_,_,_,_,_,_,_,_,_,_,_,_]) rfl rfl rfl rfl ?_
    refine ops_sl (s' := [_,_,_,_,_,_,_,_,_,_,_,_,_,_,_,_,_,_,_,_,_,_,_,_,_,_,_,_,_,_,_,_,_,_,_,_,_,_,_]) rfl (fun K hK => hK) rfl ?_
    refine ops_sl (s' := [_,_,_,_,_,_,_,_,_,_,_,_,_,_,_,_,_,_,_,_,_,_,_,_,_,_,_,_,_,_,_,_,_,_,_,_,_,_,_]) rfl (fun K hK => hK) rfl ?_
    refine ops_nl (s' := [_,_,_,_,_,_,_,_,_,_,_,_,_,_,_,_,_,_,_,_,_,_,_,_,_,_,_,_,_,_,_,_,_,_,_,_,_,_,_]) rfl rfl rfl rfl ?_
    refine ops_nl (s' := [_,_,_,_,_,_,_,_,_,_,_,_,_,_,_,_,_,_,_,_,_,_,_,_,_,_,_,_,_,_,_,_,_,_,_,_,_,_,_]) rfl rfl rfl rfl ?_
    refine ops_nl (s' := [_,_,_,_,_,_,_,_,_,_,_,_,_,_,_,_,_,_,_,_,_,_,_,_,_,_,_,_,_,_,_,_,_,_,_,_,_,_,_]) rfl rfl rfl rfl ?_
    refine ops_sl (s' := [_,_,_,_,_,_,_,_,_,_,_,_,_,_,_,_,_,_,_,_,_,_,_,_,_,_,_,_,_,_,_,_,_,_,_,_,_,_,_]) rfl (fun K hK => hK) rfl ?_
    repeat (first | apply RunP.seq | apply RunP.region | apply RunP.condT rfl | apply RunP.condF rfl | apply RunP.skip | apply RunP.block | apply RunP.exit | apply RunP.ret)
    exact ⟨rfl, _, rfl, rfl, by unfold binaryV; rw [if_neg (fun q => by have := q.1.1; omega)]; rfl⟩
  by_cases hB : 19 < op
  · skip
    repeat (first | apply RunP.seq | apply RunP.condT rfl | apply RunP.condF rfl | apply RunP.skip | apply RunP.block)
    refine RunP.regionR _ (fun K => rfl) ?_
    refine ops_sl (s' := [_,_,_,_,_,_,_,_,_,_,_,_,_,_,_,_,_,_,_,_,_,_,_,_,_,_,_,_,_,_,_,_,_,_,_,_,_,_,_]) rfl (fun K hK => hK) rfl ?_
    refine ops_sl (s' := [_,_,_,_,_,_,_,_,_,_,_,_,_,_,_,_,_,_,_,_,_,_,_,_,_,_,_,_,_,_,_,_,_,_,_,_,_,_,_]) rfl (fun K hK => And.intro (fun w => absurd w (by omega)) (fun _ => hK)) rfl ?_
    refine ops_sl (s' := [_,_,_,_,_,_,_,_,_,_,_,_,_,_,_,_,_,_,_,_,_,_,_,_,_,_,_,_,_,_,_,_,_,_,_,_,_,_,_]) rfl (fun K hK => hK) rfl ?_
    refine ops_yl (s' := [_,_,_,_,_,_,_,_,_,_,_,_,_,_,_,_,_,_,_,_,_,_,_,_,_,_,_,_,_,_,_,_,_,_,_,_,_,_,_]) rfl rfl (fun K hK => hK) rfl ?_
    refine ops_yl (s' := [_,_,_,_,_,_,_,_,_,_,_,_,_,_,_,_,_,_,_,_,_,_,_,_,_,_,_,_,_,_,_,_,_,_,_,_,_,_,_]) rfl rfl (fun K hK => And.intro (fun _ => hK) (fun w => absurd w (by omega))) rfl ?_
    refine ops_sl (s' := [_,_,_,_,_,_,_,_,_,_,_,_,_,_,_,_,_,_,_,_,_,_,_,_,_,_,_,_,_,_,_,_,_,_,_,_,_,_,_]) rfl (fun K hK => hK) rfl ?_
    refine ops_sl (s' := [_,_,_,_,_,_,_,_,_,_,_,_,_,_,_,_,_,_,_,_,_,_,_,_,_,_,_,_,_,_,_,_,_,_,_,_,_,_,_]) rfl (fun K hK => hK) rfl ?_
    refine ops_nl (s' := [_,_,_,_,_,_,_,_,_,_,_,_,_,_,_,_,_,_,_,_,_,_,_,_,_,_,_,_,_,_,_,_,_,_,_,_,_,_,_]) rfl rfl rfl rfl ?_
    refine ops_nl (s' := [_,_,_,_,_,_,_,_,_,_,_,_,_,_,_,_,_,_,_,_,_,_,_,_,_,_,_,_,_,_,_,_,_,_,_,_,_,_,_]) rfl rfl rfl rfl ?_
    refine ops_nl (s' := [_,_,_,_,_,_,_,_,_,_,_,_,_,_,_,_,_,_,_,_,_,_,_,_,_,_,_,_,_,_,_,_,_,_,_,_,_,_,_]) rfl rfl rfl rfl ?_
    refine ops_sl (s' := [_,_,_,_,_,_,_,_,_,_,_,_,_,_,_,_,_,_,_,_,_,_,_,_,_,_,_,_,_,_,_,_,_,_,_,_,_,_,_]) rfl (fun K hK => hK) rfl ?_
    refine ops_sl (s' := [_,_,_,_,_,_,_,_,_,_,_,_,_,_,_,_,_,_,_,_,_,_,_,_,_,_,_,_,_,_,_,_,_,_,_,_,_,_,_]) rfl (fun K hK => hK) rfl ?_
    refine ops_nl (s' := [_,_,_,_,_,_,_,_,_,_,_,_,_,_,_,_,_,_,_,_,_,_,_,_,_,_,_,_,_,_,_,_,_,_,_,_,_,_,_]) rfl rfl rfl rfl ?_
    refine ops_nl (s' := [_,_,_,_,_,_,_,_,_,_,_,_,_,_,_,_,_,_,_,_,_,_,_,_,_,_,_,_,_,_,_,_,_,_,_,_,_,_,_]) rfl rfl rfl rfl ?_
    refine ops_nl (s' := [_,_,_,_,_,_,_,_,_,_,_,_,_,_,_,_,_,_,_,_,_,_,_,_,_,_,_,_,_,_,_,_,_,_,_,_,_,_,_]) rfl rfl rfl rfl ?_
    refine ops_sl (s' := [_,_,_,_,_,_,_,_,_,_,_,_,_,_,_,_,_,_,_,_,_,_,_,_,_,_,_,_,_,_,_,_,_,_,_,_,_,_,_]) rfl (fun K hK => hK) rfl ?_
    repeat (first | apply RunP.seq | apply RunP.region | apply RunP.condT rfl | apply RunP.condF rfl | apply RunP.skip | apply RunP.block | apply RunP.exit | apply RunP.ret)
    exact ⟨rfl, _, rfl, rfl, by unfold binaryV; rw [if_neg (fun q => by have := q.1.2; omega)]; rfl⟩
  by_cases hv : ValidP kv nv sv
  · simp only [decide_eq_true hv] at hV
    by_cases hw : ValidP kw nw sw
    · simp only [decide_eq_true hw] at hW
      repeat (first | apply RunP.seq | apply RunP.condT rfl | apply RunP.condF rfl | apply RunP.skip | apply RunP.block)
      refine RunP.regionR _ (fun K => rfl) ?_
      refine ops_sl (s' := [_,_,_,_,_,_,_,_,_,_,_,_,_,_,_,_,_,_,_,_,_,_,_,_,_,_,_,_,_,_,_,_,_,_,_,_,_,_,_]) rfl (fun K hK => hK) rfl ?_
      refine ops_sl (s' := [_,_,_,_,_,_,_,_,_,_,_,_,_,_,_,_,_,_,_,_,_,_,_,_,_,_,_,_,_,_,_,_,_,_,_,_,_,_,_]) rfl (fun K hK => And.intro (fun w => absurd w (by omega)) (fun _ => hK)) rfl ?_
      refine ops_sl (s' := [_,_,_,_,_,_,_,_,_,_,_,_,_,_,_,_,_,_,_,_,_,_,_,_,_,_,_,_,_,_,_,_,_,_,_,_,_,_,_]) rfl (fun K hK => hK) rfl ?_
      refine ops_yl (s' := [_,_,_,_,_,_,_,_,_,_,_,_,_,_,_,_,_,_,_,_,_,_,_,_,_,_,_,_,_,_,_,_,_,_,_,_,_,_,_]) rfl rfl (fun K hK => hK) rfl ?_
      refine ops_yl (s' := [_,_,_,_,_,_,_,_,_,_,_,_,_,_,_,_,_,_,_,_,_,_,_,_,_,_,_,_,_,_,_,_,_,_,_,_,_,_,_]) rfl rfl (fun K hK => And.intro (fun w => absurd w (by omega)) (fun _ => hK)) rfl ?_
      refine ops_sl (s' := [_,_,_,_,_,_,_,_,_,_,_,_,_,_,_,_,_,_,_,_,_,_,_,_,_,_,_,_,_,_,_,_,_,_,_,_,_,_,_]) rfl (fun K hK => hK) rfl ?_
      refine ops_sl (s' := [_,_,_,_,_,_,_,_,_,_,_,_,_,_,_,_,_,_,_,_,_,_,_,_,_,_,_,_,_,_,_,_,_,_,_,_,_,_,_]) rfl (fun K hK => hK) rfl ?_
      refine ops_yl (s' := [_,_,_,_,_,_,_,_,_,_,_,_,_,_,_,_,_,_,_,_,_,_,_,_,_,_,_,_,_,_,_,_,_,_,_,_,_,_,_]) rfl rfl (fun K hK => hK) rfl ?_
      refine ops_yl (s' := [_,_,_,_,_,_,_,_,_,_,_,_,_,_,_,_,_,_,_,_,_,_,_,_,_,_,_,_,_,_,_,_,_,_,_,_,_,_,_]) rfl rfl (fun K hK => CallK.of (hV _) hK) rfl ?_
      refine ops_yl (s' := [_,_,_,_,_,_,_,_,_,_,_,_,_,_,_,_,_,_,_,_,_,_,_,_,_,_,_,_,_,_,_,_,_,_,_,_,_,_,_]) rfl rfl (fun K hK => hK) rfl ?_
      refine ops_sl (s' := [_,_,_,_,_,_,_,_,_,_,_,_,_,_,_,_,_,_,_,_,_,_,_,_,_,_,_,_,_,_,_,_,_,_,_,_,_,_,_]) rfl (fun K hK => hK) rfl ?_
      refine ops_sl (s' := [_,_,_,_,_,_,_,_,_,_,_,_,_,_,_,_,_,_,_,_,_,_,_,_,_,_,_,_,_,_,_,_,_,_,_,_,_,_,_]) rfl (fun K hK => hK) rfl ?_
      refine ops_yl (s' := [_,_,_,_,_,_,_,_,_,_,_,_,_,_,_,_,_,_,_,_,_,_,_,_,_,_,_,_,_,_,_,_,_,_,_,_,_,_,_]) rfl rfl (fun K hK => hK) rfl ?_
      refine ops_yl (s' := [_,_,_,_,_,_,_,_,_,_,_,_,_,_,_,_,_,_,_,_,_,_,_,_,_,_,_,_,_,_,_,_,_,_,_,_,_,_,_]) rfl rfl (fun K hK => CallK.of (hW _) hK) rfl ?_
      refine ops_yl (s' := [_,_,_,_,_,_,_,_,_,_,_,_,_,_,_,_,_,_,_,_,_,_,_,_,_,_,_,_,_,_,_,_,_,_,_,_,_,_,_]) rfl rfl (fun K hK => hK) rfl ?_
      refine ops_sl (s' := [_,_,_,_,_,_,_,_,_,_,_,_,_,_,_,_,_,_,_,_,_,_,_,_,_,_,_,_,_,_,_,_,_,_,_,_,_,_,_]) rfl (fun K hK => hK) rfl ?_
      repeat (first | apply RunP.seq | apply RunP.region | apply RunP.condT rfl | apply RunP.condF rfl | apply RunP.skip | apply RunP.block | apply RunP.exit | apply RunP.ret)
      refine CallK.of (binary_has _ op kv nv sv kw nw sw ⟨by omega, by omega⟩ (valid_len hv) (valid_len hw)) ?_
      have hb : binaryV op (kv, nv, sv) (kw, nw, sw) = .tup [vV (binL op (kv, nv, sv) (kw, nw, sw)).1, fV (binL op (kv, nv, sv) (kw, nw, sw)).2, .int .i64 0] := by
        unfold binaryV; rw [if_pos ⟨⟨by omega, by omega⟩, hv, hw⟩]
      rw [hb]
      generalize binL op (kv, nv, sv) (kw, nw, sw) = r
      repeat (first | apply RunP.seq | apply RunP.condT rfl | apply RunP.condF rfl | apply RunP.skip | apply RunP.block)
      refine RunP.drawnR _ (by decide +kernel) (fun K => rfl) ?_
      refine draw_rl (s' := [_,_,_,_,_,_,_,_,_,_,_,_,_,_,_,_,_,_,_,_,_,_,_,_,_,_,_,_,_,_,_,_,_,_,_,_,_,_,_]) rfl (fun K hK => hK) (by decide +kernel) rfl ?_
      refine draw_rl (s' := [_,_,_,_,_,_,_,_,_,_,_,_,_,_,_,_,_,_,_,_,_,_,_,_,_,_,_,_,_,_,_,_,_,_,_,_,_,_,_]) rfl (fun K hK => hK) (by decide +kernel) rfl ?_
      refine draw_g (s' := [_,_,_,_,_,_,_,_,_,_,_,_,_,_,_,_,_,_,_,_,_,_,_,_,_,_,_,_,_,_,_,_,_,_,_,_,_,_,_]) rfl (fun K hK => hK) (by decide +kernel) (acc_still (StillK.of rfl) (acc_bound (by decide +kernel) trivial)) rfl ?_
      refine draw_g (s' := [_,_,_,_,_,_,_,_,_,_,_,_,_,_,_,_,_,_,_,_,_,_,_,_,_,_,_,_,_,_,_,_,_,_,_,_,_,_,_]) rfl (fun K hK => hK) (by decide +kernel) (acc_bound (by decide +kernel) (acc_bound (by decide +kernel) trivial)) rfl ?_
      refine draw_zl (s' := [_,_,_,_,_,_,_,_,_,_,_,_,_,_,_,_,_,_,_,_,_,_,_,_,_,_,_,_,_,_,_,_,_,_,_,_,_,_,_]) rfl (fun K hK => hK) (by decide +kernel) rfl ?_
      repeat (first | apply RunP.seq | apply RunP.region | apply RunP.condT rfl | apply RunP.condF rfl | apply RunP.skip | apply RunP.block | apply RunP.exit | apply RunP.ret)
      exact ⟨rfl, _, rfl, rfl, rfl⟩
    · simp only [decide_eq_false hw] at hW
      repeat (first | apply RunP.seq | apply RunP.condT rfl | apply RunP.condF rfl | apply RunP.skip | apply RunP.block)
      refine RunP.regionR _ (fun K => rfl) ?_
      refine ops_sl (s' := [_,_,_,_,_,_,_,_,_,_,_,_,_,_,_,_,_,_,_,_,_,_,_,_,_,_,_,_,_,_,_,_,_,_,_,_,_,_,_]) rfl (fun K hK => hK) rfl ?_
      refine ops_sl (s' := [_,_,_,_,_,_,_,_,_,_,_,_,_,_,_,_,_,_,_,_,_,_,_,_,_,_,_,_,_,_,_,_,_,_,_,_,_,_,_]) rfl (fun K hK => And.intro (fun w => absurd w (by omega)) (fun _ => hK)) rfl ?_
      refine ops_sl (s' := [_,_,_,_,_,_,_,_,_,_,_,_,_,_,_,_,_,_,_,_,_,_,_,_,_,_,_,_,_,_,_,_,_,_,_,_,_,_,_]) rfl (fun K hK => hK) rfl ?_
      refine ops_yl (s' := [_,_,_,_,_,_,_,_,_,_,_,_,_,_,_,_,_,_,_,_,_,_,_,_,_,_,_,_,_,_,_,_,_,_,_,_,_,_,_]) rfl rfl (fun K hK => hK) rfl ?_
      refine ops_yl (s' := [_,_,_,_,_,_,_,_,_,_,_,_,_,_,_,_,_,_,_,_,_,_,_,_,_,_,_,_,_,_,_,_,_,_,_,_,_,_,_]) rfl rfl (fun K hK => And.intro (fun w => absurd w (by omega)) (fun _ => hK)) rfl ?_
      refine ops_sl (s' := [_,_,_,_,_,_,_,_,_,_,_,_,_,_,_,_,_,_,_,_,_,_,_,_,_,_,_,_,_,_,_,_,_,_,_,_,_,_,_]) rfl (fun K hK => hK) rfl ?_
      refine ops_sl (s' := [_,_,_,_,_,_,_,_,_,_,_,_,_,_,_,_,_,_,_,_,_,_,_,_,_,_,_,_,_,_,_,_,_,_,_,_,_,_,_]) rfl (fun K hK => hK) rfl ?_
      refine ops_yl (s' := [_,_,_,_,_,_,_,_,_,_,_,_,_,_,_,_,_,_,_,_,_,_,_,_,_,_,_,_,_,_,_,_,_,_,_,_,_,_,_]) rfl rfl (fun K hK => hK) rfl ?_
      refine ops_yl (s' := [_,_,_,_,_,_,_,_,_,_,_,_,_,_,_,_,_,_,_,_,_,_,_,_,_,_,_,_,_,_,_,_,_,_,_,_,_,_,_]) rfl rfl (fun K hK => CallK.of (hV _) hK) rfl ?_
      refine ops_yl (s' := [_,_,_,_,_,_,_,_,_,_,_,_,_,_,_,_,_,_,_,_,_,_,_,_,_,_,_,_,_,_,_,_,_,_,_,_,_,_,_]) rfl rfl (fun K hK => hK) rfl ?_
      refine ops_sl (s' := [_,_,_,_,_,_,_,_,_,_,_,_,_,_,_,_,_,_,_,_,_,_,_,_,_,_,_,_,_,_,_,_,_,_,_,_,_,_,_]) rfl (fun K hK => hK) rfl ?_
      refine ops_sl (s' := [_,_,_,_,_,_,_,_,_,_,_,_,_,_,_,_,_,_,_,_,_,_,_,_,_,_,_,_,_,_,_,_,_,_,_,_,_,_,_]) rfl (fun K hK => hK) rfl ?_
      refine ops_yl (s' := [_,_,_,_,_,_,_,_,_,_,_,_,_,_,_,_,_,_,_,_,_,_,_,_,_,_,_,_,_,_,_,_,_,_,_,_,_,_,_]) rfl rfl (fun K hK => hK) rfl ?_
      refine ops_yl (s' := [_,_,_,_,_,_,_,_,_,_,_,_,_,_,_,_,_,_,_,_,_,_,_,_,_,_,_,_,_,_,_,_,_,_,_,_,_,_,_]) rfl rfl (fun K hK => CallK.of (hW _) hK) rfl ?_
      refine ops_yl (s' := [_,_,_,_,_,_,_,_,_,_,_,_,_,_,_,_,_,_,_,_,_,_,_,_,_,_,_,_,_,_,_,_,_,_,_,_,_,_,_]) rfl rfl (fun K hK => hK) rfl ?_
      refine ops_sl (s' := [_,_,_,_,_,_,_,_,_,_,_,_,_,_,_,_,_,_,_,_,_,_,_,_,_,_,_,_,_,_,_,_,_,_,_,_,_,_,_]) rfl (fun K hK => hK) rfl ?_
      repeat (first | apply RunP.seq | apply RunP.region | apply RunP.condT rfl | apply RunP.condF rfl | apply RunP.skip | apply RunP.block | apply RunP.exit | apply RunP.ret)
      exact ⟨rfl, _, rfl, rfl, by unfold binaryV; rw [if_neg (fun q => hw q.2.2)]; rfl⟩
  · simp only [decide_eq_false hv] at hV
    repeat (first | apply RunP.seq | apply RunP.condT rfl | apply RunP.condF rfl | apply RunP.skip | apply RunP.block)
    refine RunP.regionR _ (fun K => rfl) ?_
    refine ops_sl (s' := [_,_,_,_,_,_,_,_,_,_,_,_,_,_,_,_,_,_,_,_,_,_,_,_,_,_,_,_,_,_,_,_,_,_,_,_,_,_,_]) rfl (fun K hK => hK) rfl ?_
    refine ops_sl (s' := [_,_,_,_,_,_,_,_,_,_,_,_,_,_,_,_,_,_,_,_,_,_,_,_,_,_,_,_,_,_,_,_,_,_,_,_,_,_,_]) rfl (fun K hK => And.intro (fun w => absurd w (by omega)) (fun _ => hK)) rfl ?_
    refine ops_sl (s' := [_,_,_,_,_,_,_,_,_,_,_,_,_,_,_,_,_,_,_,_,_,_,_,_,_,_,_,_,_,_,_,_,_,_,_,_,_,_,_]) rfl (fun K hK => hK) rfl ?_
    refine ops_yl (s' := [_,_,_,_,_,_,_,_,_,_,_,_,_,_,_,_,_,_,_,_,_,_,_,_,_,_,_,_,_,_,_,_,_,_,_,_,_,_,_]) rfl rfl (fun K hK => hK) rfl ?_
    refine ops_yl (s' := [_,_,_,_,_,_,_,_,_,_,_,_,_,_,_,_,_,_,_,_,_,_,_,_,_,_,_,_,_,_,_,_,_,_,_,_,_,_,_]) rfl rfl (fun K hK => And.intro (fun w => absurd w (by omega)) (fun _ => hK)) rfl ?_
    refine ops_sl (s' := [_,_,_,_,_,_,_,_,_,_,_,_,_,_,_,_,_,_,_,_,_,_,_,_,_,_,_,_,_,_,_,_,_,_,_,_,_,_,_]) rfl (fun K hK => hK) rfl ?_
    refine ops_sl (s' := [_,_,_,_,_,_,_,_,_,_,_,_,_,_,_,_,_,_,_,_,_,_,_,_,_,_,_,_,_,_,_,_,_,_,_,_,_,_,_]) rfl (fun K hK => hK) rfl ?_
    refine ops_yl (s' := [_,_,_,_,_,_,_,_,_,_,_,_,_,_,_,_,_,_,_,_,_,_,_,_,_,_,_,_,_,_,_,_,_,_,_,_,_,_,_]) rfl rfl (fun K hK => hK) rfl ?_
    refine ops_yl (s' := [_,_,_,_,_,_,_,_,_,_,_,_,_,_,_,_,_,_,_,_,_,_,_,_,_,_,_,_,_,_,_,_,_,_,_,_,_,_,_]) rfl rfl (fun K hK => CallK.of (hV _) hK) rfl ?_
    refine ops_yl (s' := [_,_,_,_,_,_,_,_,_,_,_,_,_,_,_,_,_,_,_,_,_,_,_,_,_,_,_,_,_,_,_,_,_,_,_,_,_,_,_]) rfl rfl (fun K hK => hK) rfl ?_
    refine ops_sl (s' := [_,_,_,_,_,_,_,_,_,_,_,_,_,_,_,_,_,_,_,_,_,_,_,_,_,_,_,_,_,_,_,_,_,_,_,_,_,_,_]) rfl (fun K hK => hK) rfl ?_
    refine ops_sl (s' := [_,_,_,_,_,_,_,_,_,_,_,_,_,_,_,_,_,_,_,_,_,_,_,_,_,_,_,_,_,_,_,_,_,_,_,_,_,_,_]) rfl (fun K hK => hK) rfl ?_
    refine ops_nl (s' := [_,_,_,_,_,_,_,_,_,_,_,_,_,_,_,_,_,_,_,_,_,_,_,_,_,_,_,_,_,_,_,_,_,_,_,_,_,_,_]) rfl rfl rfl rfl ?_
    refine ops_nl (s' := [_,_,_,_,_,_,_,_,_,_,_,_,_,_,_,_,_,_,_,_,_,_,_,_,_,_,_,_,_,_,_,_,_,_,_,_,_,_,_]) rfl rfl rfl rfl ?_
    refine ops_nl (s' := [_,_,_,_,_,_,_,_,_,_,_,_,_,_,_,_,_,_,_,_,_,_,_,_,_,_,_,_,_,_,_,_,_,_,_,_,_,_,_]) rfl rfl rfl rfl ?_
    refine ops_sl (s' := [_,_,_,_,_,_,_,_,_,_,_,_,_,_,_,_,_,_,_,_,_,_,_,_,_,_,_,_,_,_,_,_,_,_,_,_,_,_,_]) rfl (fun K hK => hK) rfl ?_
    repeat (first | apply RunP.seq | apply RunP.region | apply RunP.condT rfl | apply RunP.condF rfl | apply RunP.skip | apply RunP.block | apply RunP.exit | apply RunP.ret)
    exact ⟨rfl, _, rfl, rfl, by unfold binaryV; rw [if_neg (fun q => hv q.2.1)]; rfl⟩
end Go.Proofs.YtkjhnpmgieplgaaGreatDoor
