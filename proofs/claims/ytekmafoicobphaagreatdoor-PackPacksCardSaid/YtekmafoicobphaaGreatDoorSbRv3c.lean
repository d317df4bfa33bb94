/- Codes: the reference's words: instructions (c). -/
import Derived.Test.YtekmafoicobphaaGreatDoorSbRv3
set_option linter.unusedVariables false
set_option linter.unusedSimpArgs false
namespace Go.Proofs.YtekmafoicobphaaGreatDoor
open Go.Sb
set_option maxRecDepth 100000
set_option maxHeartbeats 16000000 in
theorem rop_7 (h : Heap) (c : Cod) (f : Fnc) (L : List Ins) (k : Nat) (op a b cc kd n : Int) (tx : List UInt8) (l : Option (List Int)) (hS : 0 ≤ f.s ∧ f.s ≤ 200) (hl : lenO f.cd ≤ 4000) (hc : lenO c ≤ 1000) (hx : lenO l ≤ 2 ^ 50) (hcd : f.cd = some L) (hk : k ≤ L.length) (hs : tx.length ≤ 2 ^ 50) (bN : Bool) (hbN : decide ((lenO l : Int) = 0) = bN) (hz : kd = 0 ∧ n = 0 ∧ tx = []) (h7 : op = 7) (s : List V) (g : Heap) (hI : swI c f k op a b cc kd n tx l bN 0 s g) : RunP envQ fn45.md (sndC (sndC (sndC fn45.body))) s g (endK envQ fn45 fun v' h' => ∃ v, Sb.fz envQ h' ybq v' = some v ∧ (V.norefs [ckV c f, .agg (iC op a b cc kd n tx l), .int .i64 k] || v.flat) = true ∧ v = .bool (decide (rInsP c f L k ⟨op, a, b, cc, kd, n, tx, l⟩))) := by
 have hcl : lenO f.cd = L.length := by rw [hcd]; rfl
 obtain ⟨u, x, ⟨_, rfl⟩, rfl⟩ := ydj hI
 clear hI
 have hR : rInsP c f L k ⟨op, a, b, cc, kd, n, tx, l⟩ ↔ (op = 1 ∨ (kd = 0 ∧ n = 0 ∧ tx = [])) ∧ ((a = -1 ∨ slP f.s a 1) ∧ fitP c f.s b l ∧ cc = 0) := by
  unfold rInsP
  simp only
  rw [if_neg (by omega), if_neg (by omega), if_neg (by omega), if_neg (by omega), if_neg (by omega), if_neg (by omega), if_pos (by omega)]
 obtain ⟨bM, hbM⟩ : ∃ w, decide (a = -1) = w := ⟨_, rfl⟩
 obtain ⟨bA, hbA⟩ : ∃ w, decide (slP f.s a 1) = w := ⟨_, rfl⟩
 have kbA := yct [.cells 81 (ckC c f), .cells 68 (iC op a b cc kd n tx l)] c f a 1 hS (by omega)
 rw [hbA] at kbA
 obtain ⟨bB, hbB⟩ : ∃ w, decide (fitP c f.s b l) = w := ⟨_, rfl⟩
 have kbB := yrb [.cells 81 (ckC c f), .cells 68 (iC op a b cc kd n tx l)] c f b l hS hl hc hx
 rw [hbB] at kbB
 obtain ⟨bC, hbC⟩ : ∃ w, decide (cc = 0) = w := ⟨_, rfl⟩
 refine jW ?_
 refine jR _ ?_
 iterate 2 (refine yaa ?_)
 refine jW ?_
 refine jR _ ?_
 refine yaa ?_ (fun K hK => jN (by omega) (fun _ => hK))
 refine yaa ?_
 refine jW ?_
 refine jR _ ?_
 refine yaa ?_ (fun K hK => jN (by omega) (fun _ => hK))
 refine yaa ?_
 refine jW ?_
 refine jR _ ?_
 refine yaa ?_ (fun K hK => jN (by omega) (fun _ => hK))
 refine yaa ?_
 refine jW ?_
 refine jR _ ?_
 refine yaa ?_ (fun K hK => jN (by omega) (fun _ => hK))
 refine yaa ?_
 refine jW ?_
 refine jR _ ?_
 refine yaa ?_ (fun K hK => jN (by omega) (fun _ => hK))
 refine yaa ?_
 refine jW ?_
 refine jR _ ?_
 refine yaa ?_ (fun K hK => jN (by omega) (fun _ => hK))
 refine yaa ?_
 refine jW ?_
 refine jR _ ?_
 refine yaa ?_ (fun K hK => jN (by omega) (fun _ => hK))
 refine yaa ?_
 refine jW ?_
 refine jR _ ?_
 refine yaa ?_ (fun K hK => jY (fun _ => hK) (by omega))
 refine yaa ?_
 refine jW ?_
 refine jR _ ?_
 iterate 2 (refine yaa ?_)
 cases bM
 ·refine yaa ?_ (fun K hK => cmpK (by rw [hbM]; exact hK))
  refine yaa ?_
  iterate 3 (refine yad ?_)
  cases bA
  ·refine yad ?_ (fun K hK => CallK.of kbA hK)
   iterate 2 (refine yaa ?_)
   iterate 6 (refine yag ?_)
   iterate 2 (refine yaa ?_)
   iterate 3 (refine yag ?_)
   iterate 2 (refine yaa ?_)
   refine jW ?_
   apply jH
   exact ⟨rfl, _, rfl, jO _, vN (fun q => by obtain ⟨_, q0, q1, q2⟩ := hR.1 q; rcases q0 with w | w; exact absurd w (jU hbM); exact absurd w (jU hbA))⟩
  ·refine yad ?_ (fun K hK => CallK.of kbA hK)
   iterate 2 (refine yaa ?_)
   iterate 5 (refine yad ?_)
   cases bB
   ·refine yad ?_ (fun K hK => CallK.of kbB hK)
    iterate 2 (refine yaa ?_)
    iterate 3 (refine yag ?_)
    iterate 2 (refine yaa ?_)
    refine jW ?_
    apply jH
    exact ⟨rfl, _, rfl, jO _, vN (fun q => by obtain ⟨_, q0, q1, q2⟩ := hR.1 q; have w := jU hbB; first | exact absurd q1 w | omega)⟩
   ·refine yad ?_ (fun K hK => CallK.of kbB hK)
    iterate 2 (refine yaa ?_)
    iterate 2 (refine yad ?_)
    cases bC
    ·refine yad ?_ (fun K hK => cmpK (by rw [hbC]; exact hK))
     iterate 2 (refine yaa ?_)
     refine jW ?_
     apply jH
     exact ⟨rfl, _, rfl, jO _, vN (fun q => by obtain ⟨_, q0, q1, q2⟩ := hR.1 q; have w := jU hbC; first | exact absurd q2 w | omega)⟩
    ·refine yad ?_ (fun K hK => cmpK (by rw [hbC]; exact hK))
     iterate 2 (refine yaa ?_)
     refine jW ?_
     apply jH
     exact ⟨rfl, _, rfl, jO _, vY (hR.2 ⟨.inr hz, (.inr (jT hbA)), jT hbB, jT hbC⟩)⟩
 ·refine yaa ?_ (fun K hK => cmpK (by rw [hbM]; exact hK))
  refine yaa ?_
  iterate 4 (refine yag ?_)
  iterate 2 (refine yaa ?_)
  iterate 5 (refine yad ?_)
  cases bB
  ·refine yad ?_ (fun K hK => CallK.of kbB hK)
   iterate 2 (refine yaa ?_)
   iterate 3 (refine yag ?_)
   iterate 2 (refine yaa ?_)
   refine jW ?_
   apply jH
   exact ⟨rfl, _, rfl, jO _, vN (fun q => by obtain ⟨_, q0, q1, q2⟩ := hR.1 q; have w := jU hbB; first | exact absurd q1 w | omega)⟩
  ·refine yad ?_ (fun K hK => CallK.of kbB hK)
   iterate 2 (refine yaa ?_)
   iterate 2 (refine yad ?_)
   cases bC
   ·refine yad ?_ (fun K hK => cmpK (by rw [hbC]; exact hK))
    iterate 2 (refine yaa ?_)
    refine jW ?_
    apply jH
    exact ⟨rfl, _, rfl, jO _, vN (fun q => by obtain ⟨_, q0, q1, q2⟩ := hR.1 q; have w := jU hbC; first | exact absurd q2 w | omega)⟩
   ·refine yad ?_ (fun K hK => cmpK (by rw [hbC]; exact hK))
    iterate 2 (refine yaa ?_)
    refine jW ?_
    apply jH
    exact ⟨rfl, _, rfl, jO _, vY (hR.2 ⟨.inr hz, (.inl (jT hbM)), jT hbB, jT hbC⟩)⟩
set_option maxHeartbeats 16000000 in
theorem rop_8 (h : Heap) (c : Cod) (f : Fnc) (L : List Ins) (k : Nat) (op a b cc kd n : Int) (tx : List UInt8) (l : Option (List Int)) (hS : 0 ≤ f.s ∧ f.s ≤ 200) (hl : lenO f.cd ≤ 4000) (hc : lenO c ≤ 1000) (hx : lenO l ≤ 2 ^ 50) (hcd : f.cd = some L) (hk : k ≤ L.length) (hs : tx.length ≤ 2 ^ 50) (bN : Bool) (hbN : decide ((lenO l : Int) = 0) = bN) (hz : kd = 0 ∧ n = 0 ∧ tx = []) (h8 : op = 8) (s : List V) (g : Heap) (hI : swI c f k op a b cc kd n tx l bN 0 s g) : RunP envQ fn45.md (sndC (sndC (sndC fn45.body))) s g (endK envQ fn45 fun v' h' => ∃ v, Sb.fz envQ h' ybq v' = some v ∧ (V.norefs [ckV c f, .agg (iC op a b cc kd n tx l), .int .i64 k] || v.flat) = true ∧ v = .bool (decide (rInsP c f L k ⟨op, a, b, cc, kd, n, tx, l⟩))) := by
 have hcl : lenO f.cd = L.length := by rw [hcd]; rfl
 obtain ⟨u, x, ⟨_, rfl⟩, rfl⟩ := ydj hI
 clear hI
 have hR : rInsP c f L k ⟨op, a, b, cc, kd, n, tx, l⟩ ↔ (op = 1 ∨ (kd = 0 ∧ n = 0 ∧ tx = [])) ∧ ((a = -1 ∨ slP f.s a 1) ∧ b = 0 ∧ cc = 0 ∧ lenO l = 0) := by
  unfold rInsP
  simp only
  rw [if_neg (by omega), if_neg (by omega), if_neg (by omega), if_neg (by omega), if_neg (by omega), if_neg (by omega), if_neg (by omega), if_pos (by omega)]
 obtain ⟨bM, hbM⟩ : ∃ w, decide (a = -1) = w := ⟨_, rfl⟩
 obtain ⟨bA, hbA⟩ : ∃ w, decide (slP f.s a 1) = w := ⟨_, rfl⟩
 have kbA := yct [.cells 81 (ckC c f), .cells 68 (iC op a b cc kd n tx l)] c f a 1 hS (by omega)
 rw [hbA] at kbA
 obtain ⟨bB, hbB⟩ : ∃ w, decide (b = 0) = w := ⟨_, rfl⟩
 obtain ⟨bC, hbC⟩ : ∃ w, decide (cc = 0) = w := ⟨_, rfl⟩
 refine jW ?_
 refine jR _ ?_
 iterate 2 (refine yaa ?_)
 refine jW ?_
 refine jR _ ?_
 refine yaa ?_ (fun K hK => jN (by omega) (fun _ => hK))
 refine yaa ?_
 refine jW ?_
 refine jR _ ?_
 refine yaa ?_ (fun K hK => jN (by omega) (fun _ => hK))
 refine yaa ?_
 refine jW ?_
 refine jR _ ?_
 refine yaa ?_ (fun K hK => jN (by omega) (fun _ => hK))
 refine yaa ?_
 refine jW ?_
 refine jR _ ?_
 refine yaa ?_ (fun K hK => jN (by omega) (fun _ => hK))
 refine yaa ?_
 refine jW ?_
 refine jR _ ?_
 refine yaa ?_ (fun K hK => jN (by omega) (fun _ => hK))
 refine yaa ?_
 refine jW ?_
 refine jR _ ?_
 refine yaa ?_ (fun K hK => jN (by omega) (fun _ => hK))
 refine yaa ?_
 refine jW ?_
 refine jR _ ?_
 refine yaa ?_ (fun K hK => jN (by omega) (fun _ => hK))
 refine yaa ?_
 refine jW ?_
 refine jR _ ?_
 refine yaa ?_ (fun K hK => jN (by omega) (fun _ => hK))
 refine yaa ?_
 refine jW ?_
 refine jR _ ?_
 refine yaa ?_ (fun K hK => jY (fun _ => hK) (by omega))
 refine yaa ?_
 refine jW ?_
 refine jR _ ?_
 iterate 2 (refine yaa ?_)
 cases bM
 ·refine yaa ?_ (fun K hK => cmpK (by rw [hbM]; exact hK))
  refine yaa ?_
  iterate 3 (refine yad ?_)
  cases bA
  ·refine yad ?_ (fun K hK => CallK.of kbA hK)
   iterate 2 (refine yaa ?_)
   iterate 3 (refine yag ?_)
   iterate 2 (refine yaa ?_)
   iterate 3 (refine yag ?_)
   iterate 2 (refine yaa ?_)
   refine yag ?_
   iterate 2 (refine yaa ?_)
   refine jW ?_
   apply jH
   exact ⟨rfl, _, rfl, jO _, vN (fun q => by obtain ⟨_, q0, q1, q2, q3⟩ := hR.1 q; rcases q0 with w | w; exact absurd w (jU hbM); exact absurd w (jU hbA))⟩
  ·refine yad ?_ (fun K hK => CallK.of kbA hK)
   iterate 2 (refine yaa ?_)
   iterate 2 (refine yad ?_)
   cases bB
   ·refine yad ?_ (fun K hK => cmpK (by rw [hbB]; exact hK))
    iterate 2 (refine yaa ?_)
    iterate 3 (refine yag ?_)
    iterate 2 (refine yaa ?_)
    refine yag ?_
    iterate 2 (refine yaa ?_)
    refine jW ?_
    apply jH
    exact ⟨rfl, _, rfl, jO _, vN (fun q => by obtain ⟨_, q0, q1, q2, q3⟩ := hR.1 q; have w := jU hbB; first | exact absurd q1 w | omega)⟩
   ·refine yad ?_ (fun K hK => cmpK (by rw [hbB]; exact hK))
    iterate 2 (refine yaa ?_)
    iterate 2 (refine yad ?_)
    cases bC
    ·refine yad ?_ (fun K hK => cmpK (by rw [hbC]; exact hK))
     iterate 2 (refine yaa ?_)
     refine yag ?_
     iterate 2 (refine yaa ?_)
     refine jW ?_
     apply jH
     exact ⟨rfl, _, rfl, jO _, vN (fun q => by obtain ⟨_, q0, q1, q2, q3⟩ := hR.1 q; have w := jU hbC; first | exact absurd q2 w | omega)⟩
    ·refine yad ?_ (fun K hK => cmpK (by rw [hbC]; exact hK))
     iterate 2 (refine yaa ?_)
     refine yad ?_
     iterate 2 (refine yaa ?_)
     refine jW ?_
     apply jH
     cases bN
     ·exact ⟨rfl, _, rfl, jO _, vN (fun q => by obtain ⟨_, q0, q1, q2, q3⟩ := hR.1 q; have w := jU hbN; omega)⟩
     ·exact ⟨rfl, _, rfl, jO _, vY (hR.2 ⟨.inr hz, (.inr (jT hbA)), jT hbB, jT hbC, (by have := jT hbN; omega)⟩)⟩
 ·refine yaa ?_ (fun K hK => cmpK (by rw [hbM]; exact hK))
  refine yaa ?_
  iterate 4 (refine yag ?_)
  iterate 2 (refine yaa ?_)
  iterate 2 (refine yad ?_)
  cases bB
  ·refine yad ?_ (fun K hK => cmpK (by rw [hbB]; exact hK))
   iterate 2 (refine yaa ?_)
   iterate 3 (refine yag ?_)
   iterate 2 (refine yaa ?_)
   refine yag ?_
   iterate 2 (refine yaa ?_)
   refine jW ?_
   apply jH
   exact ⟨rfl, _, rfl, jO _, vN (fun q => by obtain ⟨_, q0, q1, q2, q3⟩ := hR.1 q; have w := jU hbB; first | exact absurd q1 w | omega)⟩
  ·refine yad ?_ (fun K hK => cmpK (by rw [hbB]; exact hK))
   iterate 2 (refine yaa ?_)
   iterate 2 (refine yad ?_)
   cases bC
   ·refine yad ?_ (fun K hK => cmpK (by rw [hbC]; exact hK))
    iterate 2 (refine yaa ?_)
    refine yag ?_
    iterate 2 (refine yaa ?_)
    refine jW ?_
    apply jH
    exact ⟨rfl, _, rfl, jO _, vN (fun q => by obtain ⟨_, q0, q1, q2, q3⟩ := hR.1 q; have w := jU hbC; first | exact absurd q2 w | omega)⟩
   ·refine yad ?_ (fun K hK => cmpK (by rw [hbC]; exact hK))
    iterate 2 (refine yaa ?_)
    refine yad ?_
    iterate 2 (refine yaa ?_)
    refine jW ?_
    apply jH
    cases bN
    ·exact ⟨rfl, _, rfl, jO _, vN (fun q => by obtain ⟨_, q0, q1, q2, q3⟩ := hR.1 q; have w := jU hbN; omega)⟩
    ·exact ⟨rfl, _, rfl, jO _, vY (hR.2 ⟨.inr hz, (.inl (jT hbM)), jT hbB, jT hbC, (by have := jT hbN; omega)⟩)⟩
end Go.Proofs.YtekmafoicobphaaGreatDoor
