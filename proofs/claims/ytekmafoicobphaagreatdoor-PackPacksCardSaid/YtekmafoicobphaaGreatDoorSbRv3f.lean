/- Codes: the reference's words: instructions (f). -/
import Derived.Test.YtekmafoicobphaaGreatDoorSbRv3
set_option linter.unusedVariables false
set_option linter.unusedSimpArgs false
namespace Go.Proofs.YtekmafoicobphaaGreatDoor
open Go.Sb
set_option maxRecDepth 100000
set_option maxHeartbeats 16000000 in
theorem rop_11 (h : Heap) (c : Cod) (f : Fnc) (L : List Ins) (k : Nat) (op a b cc kd n : Int) (tx : List UInt8) (l : Option (List Int)) (hS : 0 ≤ f.s ∧ f.s ≤ 200) (hl : lenO f.cd ≤ 4000) (hc : lenO c ≤ 1000) (hx : lenO l ≤ 2 ^ 50) (hcd : f.cd = some L) (hk : k ≤ L.length) (hs : tx.length ≤ 2 ^ 50) (bN : Bool) (hbN : decide ((lenO l : Int) = 0) = bN) (hz : kd = 0 ∧ n = 0 ∧ tx = []) (h11 : op = 11) (s : List V) (g : Heap) (hI : swI c f k op a b cc kd n tx l bN 0 s g) : RunP envQ fn45.md (sndC (sndC (sndC fn45.body))) s g (endK envQ fn45 fun v' h' => ∃ v, Sb.fz envQ h' ybq v' = some v ∧ (V.norefs [ckV c f, .agg (iC op a b cc kd n tx l), .int .i64 k] || v.flat) = true ∧ v = .bool (decide (rInsP c f L k ⟨op, a, b, cc, kd, n, tx, l⟩))) := by
 have hcl : lenO f.cd = L.length := by rw [hcd]; rfl
 obtain ⟨u, x, ⟨_, rfl⟩, rfl⟩ := ydj hI
 clear hI
 have hR : rInsP c f L k ⟨op, a, b, cc, kd, n, tx, l⟩ ↔ (op = 1 ∨ (kd = 0 ∧ n = 0 ∧ tx = [])) ∧ ((1 ≤ a ∧ a ≤ 3) ∧ b = 0 ∧ cc = 0 ∧ lenO l = (if a = 2 then 2 else 1) ∧ slsP f.s l) := by
  unfold rInsP
  simp only
  rw [if_neg (by omega), if_neg (by omega), if_neg (by omega), if_neg (by omega), if_neg (by omega), if_neg (by omega), if_neg (by omega), if_neg (by omega), if_neg (by omega), if_neg (by omega), if_pos (by omega)]
 refine jW ?_
 refine jR _ ?_
 iterate 2 (refine yaa ?_)
 refine jW ?_
 refine jR _ ?_
 refine yaa ?_ (fun K hK => jN (by omega) (fun _ => hK))
 refine yaa ?_
 refine jW ?_
 refine jR _ ?_
 refine yaa ?_ (fun K hK => jN (by omega) (fun _ => hK))
 refine yaa ?_
 refine jW ?_
 refine jR _ ?_
 refine yaa ?_ (fun K hK => jN (by omega) (fun _ => hK))
 refine yaa ?_
 refine jW ?_
 refine jR _ ?_
 refine yaa ?_ (fun K hK => jN (by omega) (fun _ => hK))
 refine yaa ?_
 refine jW ?_
 refine jR _ ?_
 refine yaa ?_ (fun K hK => jN (by omega) (fun _ => hK))
 refine yaa ?_
 refine jW ?_
 refine jR _ ?_
 refine yaa ?_ (fun K hK => jN (by omega) (fun _ => hK))
 refine yaa ?_
 refine jW ?_
 refine jR _ ?_
 refine yaa ?_ (fun K hK => jN (by omega) (fun _ => hK))
 refine yaa ?_
 refine jW ?_
 refine jR _ ?_
 refine yaa ?_ (fun K hK => jN (by omega) (fun _ => hK))
 refine yaa ?_
 refine jW ?_
 refine jR _ ?_
 refine yaa ?_ (fun K hK => jN (by omega) (fun _ => hK))
 refine yaa ?_
 refine jW ?_
 refine jR _ ?_
 refine yaa ?_ (fun K hK => jN (by omega) (fun _ => hK))
 refine yaa ?_
 refine jW ?_
 refine jR _ ?_
 refine yaa ?_ (fun K hK => jN (by omega) (fun _ => hK))
 refine yaa ?_
 refine jW ?_
 refine jR _ ?_
 refine yaa ?_ (fun K hK => jY (fun _ => hK) (by omega))
 refine yaa ?_
 refine jW ?_
 refine jR _ ?_
 refine yaa ?_
 refine jW ?_
 by_cases ha2 : a = 2
 ·skip
  rw [if_pos ha2] at hR
  obtain ⟨bA, hbA⟩ : ∃ w, decide (1 ≤ a) = w := ⟨_, rfl⟩
  obtain ⟨bB, hbB⟩ : ∃ w, decide (a ≤ 3) = w := ⟨_, rfl⟩
  obtain ⟨bC, hbC⟩ : ∃ w, decide (b = 0) = w := ⟨_, rfl⟩
  obtain ⟨bD, hbD⟩ : ∃ w, decide (cc = 0) = w := ⟨_, rfl⟩
  obtain ⟨bL, hbL⟩ : ∃ w, decide ((lenO l : Int) = 2) = w := ⟨_, rfl⟩
  obtain ⟨bS, hbS⟩ : ∃ w, decide (slsP f.s l) = w := ⟨_, rfl⟩
  have kbS := yfn [.cells 81 (ckC c f), .cells 68 (iC op a b cc kd n tx l)] c f l hS hx
  rw [hbS] at kbS
  refine jR _ ?_
  iterate 2 (refine yaa ?_)
  refine yaa ?_ (fun K hK => jY (fun _ => hK) (by omega))
  refine jW ?_
  refine jR _ ?_
  refine yaa ?_
  refine jW ?_
  refine jR _ ?_
  iterate 2 (refine yaa ?_)
  cases bA
  ·refine yaa ?_ (fun K hK => cmp2 (R := 1 ≤ a) (fun w => by omega) (fun w => by omega) (by rw [hbA]; exact hK))
   refine yaa ?_
   iterate 3 (refine yag ?_)
   iterate 2 (refine yaa ?_)
   iterate 3 (refine yag ?_)
   iterate 2 (refine yaa ?_)
   iterate 3 (refine yag ?_)
   iterate 2 (refine yaa ?_)
   iterate 5 (refine yag ?_)
   iterate 2 (refine yaa ?_)
   iterate 4 (refine yag ?_)
   iterate 2 (refine yaa ?_)
   refine jW ?_
   apply jH
   exact ⟨rfl, _, rfl, jO _, vN (fun q => by obtain ⟨_, q0, q1, q2, q3, q4⟩ := hR.1 q; have w := jU hbA; first | exact absurd q0 w | omega)⟩
  ·refine yaa ?_ (fun K hK => cmp2 (R := 1 ≤ a) (fun w => by omega) (fun w => by omega) (by rw [hbA]; exact hK))
   refine yaa ?_
   iterate 2 (refine yad ?_)
   cases bB
   ·refine yad ?_ (fun K hK => cmp2 (R := a ≤ 3) (fun w => by omega) (fun w => by omega) (by rw [hbB]; exact hK))
    iterate 2 (refine yaa ?_)
    iterate 3 (refine yag ?_)
    iterate 2 (refine yaa ?_)
    iterate 3 (refine yag ?_)
    iterate 2 (refine yaa ?_)
    iterate 5 (refine yag ?_)
    iterate 2 (refine yaa ?_)
    iterate 4 (refine yag ?_)
    iterate 2 (refine yaa ?_)
    refine jW ?_
    apply jH
    exact ⟨rfl, _, rfl, jO _, vN (fun q => by obtain ⟨_, q0, q1, q2, q3, q4⟩ := hR.1 q; have w := jU hbB; first | exact absurd q0 w | omega)⟩
   ·refine yad ?_ (fun K hK => cmp2 (R := a ≤ 3) (fun w => by omega) (fun w => by omega) (by rw [hbB]; exact hK))
    iterate 2 (refine yaa ?_)
    iterate 2 (refine yad ?_)
    cases bC
    ·refine yad ?_ (fun K hK => cmpK (by rw [hbC]; exact hK))
     iterate 2 (refine yaa ?_)
     iterate 3 (refine yag ?_)
     iterate 2 (refine yaa ?_)
     iterate 5 (refine yag ?_)
     iterate 2 (refine yaa ?_)
     iterate 4 (refine yag ?_)
     iterate 2 (refine yaa ?_)
     refine jW ?_
     apply jH
     exact ⟨rfl, _, rfl, jO _, vN (fun q => by obtain ⟨_, q0, q1, q2, q3, q4⟩ := hR.1 q; have w := jU hbC; first | exact absurd q1 w | omega)⟩
    ·refine yad ?_ (fun K hK => cmpK (by rw [hbC]; exact hK))
     iterate 2 (refine yaa ?_)
     iterate 2 (refine yad ?_)
     cases bD
     ·refine yad ?_ (fun K hK => cmpK (by rw [hbD]; exact hK))
      iterate 2 (refine yaa ?_)
      iterate 5 (refine yag ?_)
      iterate 2 (refine yaa ?_)
      iterate 4 (refine yag ?_)
      iterate 2 (refine yaa ?_)
      refine jW ?_
      apply jH
      exact ⟨rfl, _, rfl, jO _, vN (fun q => by obtain ⟨_, q0, q1, q2, q3, q4⟩ := hR.1 q; have w := jU hbD; first | exact absurd q2 w | omega)⟩
     ·refine yad ?_ (fun K hK => cmpK (by rw [hbD]; exact hK))
      iterate 2 (refine yaa ?_)
      iterate 2 (refine yad ?_)
      refine yad ?_ (fun K hK => yan (E := envQ) (t := 66) (el := 3) (d := ty66) rfl rfl hK)
      refine yad ?_
      cases bL
      ·refine yad ?_ (fun K hK => cmpK (by rw [hbL]; exact hK))
       iterate 2 (refine yaa ?_)
       iterate 4 (refine yag ?_)
       iterate 2 (refine yaa ?_)
       refine jW ?_
       apply jH
       exact ⟨rfl, _, rfl, jO _, vN (fun q => by obtain ⟨_, q0, q1, q2, q3, q4⟩ := hR.1 q; have w := jU hbL; first | exact absurd q3 w | omega)⟩
      ·refine yad ?_ (fun K hK => cmpK (by rw [hbL]; exact hK))
       iterate 2 (refine yaa ?_)
       iterate 3 (refine yad ?_)
       cases bS
       ·refine yad ?_ (fun K hK => CallK.of kbS hK)
        iterate 2 (refine yaa ?_)
        refine jW ?_
        apply jH
        exact ⟨rfl, _, rfl, jO _, vN (fun q => by obtain ⟨_, q0, q1, q2, q3, q4⟩ := hR.1 q; have w := jU hbS; first | exact absurd q4 w | omega)⟩
       ·refine yad ?_ (fun K hK => CallK.of kbS hK)
        iterate 2 (refine yaa ?_)
        refine jW ?_
        apply jH
        exact ⟨rfl, _, rfl, jO _, vY (hR.2 ⟨.inr hz, ⟨jT hbA, jT hbB⟩, jT hbC, jT hbD, (by have := jT hbL; omega), jT hbS⟩)⟩
 ·skip
  rw [if_neg ha2] at hR
  obtain ⟨bA, hbA⟩ : ∃ w, decide (1 ≤ a) = w := ⟨_, rfl⟩
  obtain ⟨bB, hbB⟩ : ∃ w, decide (a ≤ 3) = w := ⟨_, rfl⟩
  obtain ⟨bC, hbC⟩ : ∃ w, decide (b = 0) = w := ⟨_, rfl⟩
  obtain ⟨bD, hbD⟩ : ∃ w, decide (cc = 0) = w := ⟨_, rfl⟩
  obtain ⟨bL, hbL⟩ : ∃ w, decide ((lenO l : Int) = 1) = w := ⟨_, rfl⟩
  obtain ⟨bS, hbS⟩ : ∃ w, decide (slsP f.s l) = w := ⟨_, rfl⟩
  have kbS := yfn [.cells 81 (ckC c f), .cells 68 (iC op a b cc kd n tx l)] c f l hS hx
  rw [hbS] at kbS
  refine jR _ ?_
  iterate 2 (refine yaa ?_)
  refine yaa ?_ (fun K hK => jN (by omega) (fun _ => hK))
  refine jW ?_
  refine jR _ ?_
  iterate 2 (refine yaa ?_)
  cases bA
  ·refine yaa ?_ (fun K hK => cmp2 (R := 1 ≤ a) (fun w => by omega) (fun w => by omega) (by rw [hbA]; exact hK))
   refine yaa ?_
   iterate 3 (refine yag ?_)
   iterate 2 (refine yaa ?_)
   iterate 3 (refine yag ?_)
   iterate 2 (refine yaa ?_)
   iterate 3 (refine yag ?_)
   iterate 2 (refine yaa ?_)
   iterate 5 (refine yag ?_)
   iterate 2 (refine yaa ?_)
   iterate 4 (refine yag ?_)
   iterate 2 (refine yaa ?_)
   refine jW ?_
   apply jH
   exact ⟨rfl, _, rfl, jO _, vN (fun q => by obtain ⟨_, q0, q1, q2, q3, q4⟩ := hR.1 q; have w := jU hbA; first | exact absurd q0 w | omega)⟩
  ·refine yaa ?_ (fun K hK => cmp2 (R := 1 ≤ a) (fun w => by omega) (fun w => by omega) (by rw [hbA]; exact hK))
   refine yaa ?_
   iterate 2 (refine yad ?_)
   cases bB
   ·refine yad ?_ (fun K hK => cmp2 (R := a ≤ 3) (fun w => by omega) (fun w => by omega) (by rw [hbB]; exact hK))
    iterate 2 (refine yaa ?_)
    iterate 3 (refine yag ?_)
    iterate 2 (refine yaa ?_)
    iterate 3 (refine yag ?_)
    iterate 2 (refine yaa ?_)
    iterate 5 (refine yag ?_)
    iterate 2 (refine yaa ?_)
    iterate 4 (refine yag ?_)
    iterate 2 (refine yaa ?_)
    refine jW ?_
    apply jH
    exact ⟨rfl, _, rfl, jO _, vN (fun q => by obtain ⟨_, q0, q1, q2, q3, q4⟩ := hR.1 q; have w := jU hbB; first | exact absurd q0 w | omega)⟩
   ·refine yad ?_ (fun K hK => cmp2 (R := a ≤ 3) (fun w => by omega) (fun w => by omega) (by rw [hbB]; exact hK))
    iterate 2 (refine yaa ?_)
    iterate 2 (refine yad ?_)
    cases bC
    ·refine yad ?_ (fun K hK => cmpK (by rw [hbC]; exact hK))
     iterate 2 (refine yaa ?_)
     iterate 3 (refine yag ?_)
     iterate 2 (refine yaa ?_)
     iterate 5 (refine yag ?_)
     iterate 2 (refine yaa ?_)
     iterate 4 (refine yag ?_)
     iterate 2 (refine yaa ?_)
     refine jW ?_
     apply jH
     exact ⟨rfl, _, rfl, jO _, vN (fun q => by obtain ⟨_, q0, q1, q2, q3, q4⟩ := hR.1 q; have w := jU hbC; first | exact absurd q1 w | omega)⟩
    ·refine yad ?_ (fun K hK => cmpK (by rw [hbC]; exact hK))
     iterate 2 (refine yaa ?_)
     iterate 2 (refine yad ?_)
     cases bD
     ·refine yad ?_ (fun K hK => cmpK (by rw [hbD]; exact hK))
      iterate 2 (refine yaa ?_)
      iterate 5 (refine yag ?_)
      iterate 2 (refine yaa ?_)
      iterate 4 (refine yag ?_)
      iterate 2 (refine yaa ?_)
      refine jW ?_
      apply jH
      exact ⟨rfl, _, rfl, jO _, vN (fun q => by obtain ⟨_, q0, q1, q2, q3, q4⟩ := hR.1 q; have w := jU hbD; first | exact absurd q2 w | omega)⟩
     ·refine yad ?_ (fun K hK => cmpK (by rw [hbD]; exact hK))
      iterate 2 (refine yaa ?_)
      iterate 2 (refine yad ?_)
      refine yad ?_ (fun K hK => yan (E := envQ) (t := 66) (el := 3) (d := ty66) rfl rfl hK)
      refine yad ?_
      cases bL
      ·refine yad ?_ (fun K hK => cmpK (by rw [hbL]; exact hK))
       iterate 2 (refine yaa ?_)
       iterate 4 (refine yag ?_)
       iterate 2 (refine yaa ?_)
       refine jW ?_
       apply jH
       exact ⟨rfl, _, rfl, jO _, vN (fun q => by obtain ⟨_, q0, q1, q2, q3, q4⟩ := hR.1 q; have w := jU hbL; first | exact absurd q3 w | omega)⟩
      ·refine yad ?_ (fun K hK => cmpK (by rw [hbL]; exact hK))
       iterate 2 (refine yaa ?_)
       iterate 3 (refine yad ?_)
       cases bS
       ·refine yad ?_ (fun K hK => CallK.of kbS hK)
        iterate 2 (refine yaa ?_)
        refine jW ?_
        apply jH
        exact ⟨rfl, _, rfl, jO _, vN (fun q => by obtain ⟨_, q0, q1, q2, q3, q4⟩ := hR.1 q; have w := jU hbS; first | exact absurd q4 w | omega)⟩
       ·refine yad ?_ (fun K hK => CallK.of kbS hK)
        iterate 2 (refine yaa ?_)
        refine jW ?_
        apply jH
        exact ⟨rfl, _, rfl, jO _, vY (hR.2 ⟨.inr hz, ⟨jT hbA, jT hbB⟩, jT hbC, jT hbD, (by have := jT hbL; omega), jT hbS⟩)⟩
end Go.Proofs.YtekmafoicobphaaGreatDoor
