/- Codes: the reference's words: instructions (d). -/
import Derived.Test.YtekmafoicobphaaGreatDoorSbRv3
set_option linter.unusedVariables false
set_option linter.unusedSimpArgs false
namespace Go.Proofs.YtekmafoicobphaaGreatDoor
open Go.Sb
set_option maxRecDepth 100000
set_option maxHeartbeats 16000000 in
theorem rop_1 (h : Heap) (c : Cod) (f : Fnc) (L : List Ins) (k : Nat) (op a b cc kd n : Int) (tx : List UInt8) (l : Option (List Int)) (hS : 0 ≤ f.s ∧ f.s ≤ 200) (hl : lenO f.cd ≤ 4000) (hc : lenO c ≤ 1000) (hx : lenO l ≤ 2 ^ 50) (hcd : f.cd = some L) (hk : k ≤ L.length) (hs : tx.length ≤ 2 ^ 50) (bN : Bool) (hbN : decide ((lenO l : Int) = 0) = bN) (h1 : op = 1) (s : List V) (g : Heap) (hI : swI c f k op a b cc kd n tx l bN 0 s g) : RunP envQ fn45.md (sndC (sndC (sndC fn45.body))) s g (endK envQ fn45 fun v' h' => ∃ v, Sb.fz envQ h' ybq v' = some v ∧ (V.norefs [ckV c f, .agg (iC op a b cc kd n tx l), .int .i64 k] || v.flat) = true ∧ v = .bool (decide (rInsP c f L k ⟨op, a, b, cc, kd, n, tx, l⟩))) := by
 have hcl : lenO f.cd = L.length := by rw [hcd]; rfl
 obtain ⟨u, x, ⟨_, rfl⟩, rfl⟩ := ydj hI
 clear hI
 have hR : rInsP c f L k ⟨op, a, b, cc, kd, n, tx, l⟩ ↔ (op = 1 ∨ (kd = 0 ∧ n = 0 ∧ tx = [])) ∧ (slP f.s a 1 ∧ b = 0 ∧ cc = 0 ∧ lenO l = 0 ∧ yau kd n tx) := by
  unfold rInsP
  simp only
  rw [if_pos (by omega)]
 obtain ⟨bA, hbA⟩ : ∃ w, decide (slP f.s a 1) = w := ⟨_, rfl⟩
 have kbA := yct [.cells 81 (ckC c f), .cells 68 (iC op a b cc kd n tx l)] c f a 1 hS (by omega)
 rw [hbA] at kbA
 obtain ⟨bB, hbB⟩ : ∃ w, decide (b = 0) = w := ⟨_, rfl⟩
 obtain ⟨bC, hbC⟩ : ∃ w, decide (cc = 0) = w := ⟨_, rfl⟩
 obtain ⟨bV, hbV⟩ : ∃ w, decide (yau kd n tx) = w := ⟨_, rfl⟩
 have kbV := ywc [.cells 81 (ckC c f), .cells 68 (iC op a b cc kd n tx l)] kd n tx (by omega)
 rw [hbV] at kbV
 refine jW ?_
 refine jR _ ?_
 iterate 2 (refine yaa ?_)
 refine jW ?_
 refine jR _ ?_
 refine yaa ?_ (fun K hK => jY (fun _ => hK) (by omega))
 refine yaa ?_
 refine jW ?_
 cases bN
 ·refine jR _ ?_
  iterate 3 (refine yaa ?_)
  cases bA
  ·refine yaa ?_ (fun K hK => CallK.of kbA hK)
   refine yaa ?_
   iterate 3 (refine yag ?_)
   iterate 2 (refine yaa ?_)
   iterate 3 (refine yag ?_)
   iterate 2 (refine yaa ?_)
   refine yag ?_
   iterate 2 (refine yaa ?_)
   iterate 3 (refine yag ?_)
   iterate 2 (refine yaa ?_)
   refine jW ?_
   apply jH
   exact ⟨rfl, _, rfl, jO _, vN (fun q => by obtain ⟨_, q0, q1, q2, q3, q4⟩ := hR.1 q; have w := jU hbA; first | exact absurd q0 w | omega)⟩
  ·refine yaa ?_ (fun K hK => CallK.of kbA hK)
   refine yaa ?_
   iterate 2 (refine yad ?_)
   cases bB
   ·refine yad ?_ (fun K hK => cmpK (by rw [hbB]; exact hK))
    iterate 2 (refine yaa ?_)
    iterate 3 (refine yag ?_)
    iterate 2 (refine yaa ?_)
    refine yag ?_
    iterate 2 (refine yaa ?_)
    iterate 3 (refine yag ?_)
    iterate 2 (refine yaa ?_)
    refine jW ?_
    apply jH
    exact ⟨rfl, _, rfl, jO _, vN (fun q => by obtain ⟨_, q0, q1, q2, q3, q4⟩ := hR.1 q; have w := jU hbB; first | exact absurd q1 w | omega)⟩
   ·refine yad ?_ (fun K hK => cmpK (by rw [hbB]; exact hK))
    iterate 2 (refine yaa ?_)
    iterate 2 (refine yad ?_)
    cases bC
    ·refine yad ?_ (fun K hK => cmpK (by rw [hbC]; exact hK))
     iterate 2 (refine yaa ?_)
     refine yag ?_
     iterate 2 (refine yaa ?_)
     iterate 3 (refine yag ?_)
     iterate 2 (refine yaa ?_)
     refine jW ?_
     apply jH
     exact ⟨rfl, _, rfl, jO _, vN (fun q => by obtain ⟨_, q0, q1, q2, q3, q4⟩ := hR.1 q; have w := jU hbC; first | exact absurd q2 w | omega)⟩
    ·refine yad ?_ (fun K hK => cmpK (by rw [hbC]; exact hK))
     iterate 2 (refine yaa ?_)
     refine yad ?_
     iterate 2 (refine yaa ?_)
     iterate 3 (refine yag ?_)
     iterate 2 (refine yaa ?_)
     refine jW ?_
     apply jH
     exact ⟨rfl, _, rfl, jO _, vN (fun q => by obtain ⟨_, q0, q1, q2, q3, q4⟩ := hR.1 q; have w := jU hbN; omega)⟩
 ·refine jR _ ?_
  iterate 3 (refine yaa ?_)
  cases bA
  ·refine yaa ?_ (fun K hK => CallK.of kbA hK)
   refine yaa ?_
   iterate 3 (refine yag ?_)
   iterate 2 (refine yaa ?_)
   iterate 3 (refine yag ?_)
   iterate 2 (refine yaa ?_)
   refine yag ?_
   iterate 2 (refine yaa ?_)
   iterate 3 (refine yag ?_)
   iterate 2 (refine yaa ?_)
   refine jW ?_
   apply jH
   exact ⟨rfl, _, rfl, jO _, vN (fun q => by obtain ⟨_, q0, q1, q2, q3, q4⟩ := hR.1 q; have w := jU hbA; first | exact absurd q0 w | omega)⟩
  ·refine yaa ?_ (fun K hK => CallK.of kbA hK)
   refine yaa ?_
   iterate 2 (refine yad ?_)
   cases bB
   ·refine yad ?_ (fun K hK => cmpK (by rw [hbB]; exact hK))
    iterate 2 (refine yaa ?_)
    iterate 3 (refine yag ?_)
    iterate 2 (refine yaa ?_)
    refine yag ?_
    iterate 2 (refine yaa ?_)
    iterate 3 (refine yag ?_)
    iterate 2 (refine yaa ?_)
    refine jW ?_
    apply jH
    exact ⟨rfl, _, rfl, jO _, vN (fun q => by obtain ⟨_, q0, q1, q2, q3, q4⟩ := hR.1 q; have w := jU hbB; first | exact absurd q1 w | omega)⟩
   ·refine yad ?_ (fun K hK => cmpK (by rw [hbB]; exact hK))
    iterate 2 (refine yaa ?_)
    iterate 2 (refine yad ?_)
    cases bC
    ·refine yad ?_ (fun K hK => cmpK (by rw [hbC]; exact hK))
     iterate 2 (refine yaa ?_)
     refine yag ?_
     iterate 2 (refine yaa ?_)
     iterate 3 (refine yag ?_)
     iterate 2 (refine yaa ?_)
     refine jW ?_
     apply jH
     exact ⟨rfl, _, rfl, jO _, vN (fun q => by obtain ⟨_, q0, q1, q2, q3, q4⟩ := hR.1 q; have w := jU hbC; first | exact absurd q2 w | omega)⟩
    ·refine yad ?_ (fun K hK => cmpK (by rw [hbC]; exact hK))
     iterate 2 (refine yaa ?_)
     refine yad ?_
     iterate 2 (refine yaa ?_)
     iterate 2 (refine yad ?_)
     cases bV
     ·refine yad ?_ (fun K hK => CallK.of kbV hK)
      iterate 2 (refine yaa ?_)
      refine jW ?_
      apply jH
      exact ⟨rfl, _, rfl, jO _, vN (fun q => by obtain ⟨_, q0, q1, q2, q3, q4⟩ := hR.1 q; have w := jU hbV; first | exact absurd q4 w | omega)⟩
     ·refine yad ?_ (fun K hK => CallK.of kbV hK)
      iterate 2 (refine yaa ?_)
      refine jW ?_
      apply jH
      exact ⟨rfl, _, rfl, jO _, vY (hR.2 ⟨.inl h1, jT hbA, jT hbB, jT hbC, (by have := jT hbN; omega), jT hbV⟩)⟩
set_option maxHeartbeats 16000000 in
theorem rop_14 (h : Heap) (c : Cod) (f : Fnc) (L : List Ins) (k : Nat) (op a b cc kd n : Int) (tx : List UInt8) (l : Option (List Int)) (hS : 0 ≤ f.s ∧ f.s ≤ 200) (hl : lenO f.cd ≤ 4000) (hc : lenO c ≤ 1000) (hx : lenO l ≤ 2 ^ 50) (hcd : f.cd = some L) (hk : k ≤ L.length) (hs : tx.length ≤ 2 ^ 50) (bN : Bool) (hbN : decide ((lenO l : Int) = 0) = bN) (hz : kd = 0 ∧ n = 0 ∧ tx = []) (h14 : op = 14) (s : List V) (g : Heap) (hI : swI c f k op a b cc kd n tx l bN 0 s g) : RunP envQ fn45.md (sndC (sndC (sndC fn45.body))) s g (endK envQ fn45 fun v' h' => ∃ v, Sb.fz envQ h' ybq v' = some v ∧ (V.norefs [ckV c f, .agg (iC op a b cc kd n tx l), .int .i64 k] || v.flat) = true ∧ v = .bool (decide (rInsP c f L k ⟨op, a, b, cc, kd, n, tx, l⟩))) := by
 have hcl : lenO f.cd = L.length := by rw [hcd]; rfl
 obtain ⟨u, x, ⟨_, rfl⟩, rfl⟩ := ydj hI
 clear hI
 have hR : rInsP c f L k ⟨op, a, b, cc, kd, n, tx, l⟩ ↔ (op = 1 ∨ (kd = 0 ∧ n = 0 ∧ tx = [])) ∧ (op = 14 ∧ slP f.s a 2 ∧ b = 0 ∧ cc = 0 ∧ lenO l = 0) := by
  unfold rInsP
  simp only
  rw [if_neg (by omega), if_neg (by omega), if_neg (by omega), if_neg (by omega), if_neg (by omega), if_neg (by omega), if_neg (by omega), if_neg (by omega), if_neg (by omega), if_neg (by omega), if_neg (by omega), if_neg (by omega)]
 obtain ⟨bA, hbA⟩ : ∃ w, decide (slP f.s a 2) = w := ⟨_, rfl⟩
 have kbA := yct [.cells 81 (ckC c f), .cells 68 (iC op a b cc kd n tx l)] c f a 2 hS (by omega)
 rw [hbA] at kbA
 obtain ⟨bB, hbB⟩ : ∃ w, decide (b = 0) = w := ⟨_, rfl⟩
 obtain ⟨bC, hbC⟩ : ∃ w, decide (cc = 0) = w := ⟨_, rfl⟩
 refine jW ?_
 refine jR _ ?_
 iterate 2 (refine yaa ?_)
 refine jW ?_
 refine jR _ ?_
 refine yaa ?_ (fun K hK => jN (by omega) (fun _ => hK))
 refine yaa ?_
 refine jW ?_
 refine jR _ ?_
 refine yaa ?_ (fun K hK => jN (by omega) (fun _ => hK))
 refine yaa ?_
 refine jW ?_
 refine jR _ ?_
 refine yaa ?_ (fun K hK => jN (by omega) (fun _ => hK))
 refine yaa ?_
 refine jW ?_
 refine jR _ ?_
 refine yaa ?_ (fun K hK => jN (by omega) (fun _ => hK))
 refine yaa ?_
 refine jW ?_
 refine jR _ ?_
 refine yaa ?_ (fun K hK => jN (by omega) (fun _ => hK))
 refine yaa ?_
 refine jW ?_
 refine jR _ ?_
 refine yaa ?_ (fun K hK => jN (by omega) (fun _ => hK))
 refine yaa ?_
 refine jW ?_
 refine jR _ ?_
 refine yaa ?_ (fun K hK => jN (by omega) (fun _ => hK))
 refine yaa ?_
 refine jW ?_
 refine jR _ ?_
 refine yaa ?_ (fun K hK => jN (by omega) (fun _ => hK))
 refine yaa ?_
 refine jW ?_
 refine jR _ ?_
 refine yaa ?_ (fun K hK => jN (by omega) (fun _ => hK))
 refine yaa ?_
 refine jW ?_
 refine jR _ ?_
 refine yaa ?_ (fun K hK => jN (by omega) (fun _ => hK))
 refine yaa ?_
 refine jW ?_
 refine jR _ ?_
 refine yaa ?_ (fun K hK => jN (by omega) (fun _ => hK))
 refine yaa ?_
 refine jW ?_
 refine jR _ ?_
 refine yaa ?_ (fun K hK => jN (by omega) (fun _ => hK))
 refine yaa ?_
 refine jW ?_
 refine jR _ ?_
 refine yaa ?_ (fun K hK => jN (by omega) (fun _ => hK))
 refine yaa ?_
 refine jW ?_
 refine jR _ ?_
 iterate 2 (refine yaa ?_)
 refine yaa ?_ (fun K hK => jY (fun _ => hK) (by omega))
 refine yaa ?_
 iterate 3 (refine yad ?_)
 cases bA
 ·refine yad ?_ (fun K hK => CallK.of kbA hK)
  iterate 2 (refine yaa ?_)
  iterate 3 (refine yag ?_)
  iterate 2 (refine yaa ?_)
  iterate 3 (refine yag ?_)
  iterate 2 (refine yaa ?_)
  refine yag ?_
  iterate 2 (refine yaa ?_)
  refine jW ?_
  apply jH
  exact ⟨rfl, _, rfl, jO _, vN (fun q => by obtain ⟨_, _, q1, q2, q3, q4⟩ := hR.1 q; have w := jU hbA; first | exact absurd q1 w | omega)⟩
 ·refine yad ?_ (fun K hK => CallK.of kbA hK)
  iterate 2 (refine yaa ?_)
  iterate 2 (refine yad ?_)
  cases bB
  ·refine yad ?_ (fun K hK => cmpK (by rw [hbB]; exact hK))
   iterate 2 (refine yaa ?_)
   iterate 3 (refine yag ?_)
   iterate 2 (refine yaa ?_)
   refine yag ?_
   iterate 2 (refine yaa ?_)
   refine jW ?_
   apply jH
   exact ⟨rfl, _, rfl, jO _, vN (fun q => by obtain ⟨_, _, q1, q2, q3, q4⟩ := hR.1 q; have w := jU hbB; first | exact absurd q2 w | omega)⟩
  ·refine yad ?_ (fun K hK => cmpK (by rw [hbB]; exact hK))
   iterate 2 (refine yaa ?_)
   iterate 2 (refine yad ?_)
   cases bC
   ·refine yad ?_ (fun K hK => cmpK (by rw [hbC]; exact hK))
    iterate 2 (refine yaa ?_)
    refine yag ?_
    iterate 2 (refine yaa ?_)
    refine jW ?_
    apply jH
    exact ⟨rfl, _, rfl, jO _, vN (fun q => by obtain ⟨_, _, q1, q2, q3, q4⟩ := hR.1 q; have w := jU hbC; first | exact absurd q3 w | omega)⟩
   ·refine yad ?_ (fun K hK => cmpK (by rw [hbC]; exact hK))
    iterate 2 (refine yaa ?_)
    refine yad ?_
    iterate 2 (refine yaa ?_)
    refine jW ?_
    apply jH
    cases bN
    ·exact ⟨rfl, _, rfl, jO _, vN (fun q => by obtain ⟨_, _, q1, q2, q3, q4⟩ := hR.1 q; have w := jU hbN; omega)⟩
    ·exact ⟨rfl, _, rfl, jO _, vY (hR.2 ⟨.inr hz, h14, jT hbA, jT hbB, jT hbC, (by have := jT hbN; omega)⟩)⟩
set_option maxHeartbeats 16000000 in
theorem rop_4 (h : Heap) (c : Cod) (f : Fnc) (L : List Ins) (k : Nat) (op a b cc kd n : Int) (tx : List UInt8) (l : Option (List Int)) (hS : 0 ≤ f.s ∧ f.s ≤ 200) (hl : lenO f.cd ≤ 4000) (hc : lenO c ≤ 1000) (hx : lenO l ≤ 2 ^ 50) (hcd : f.cd = some L) (hk : k ≤ L.length) (hs : tx.length ≤ 2 ^ 50) (bN : Bool) (hbN : decide ((lenO l : Int) = 0) = bN) (hz : kd = 0 ∧ n = 0 ∧ tx = []) (h4 : op = 4) (s : List V) (g : Heap) (hI : swI c f k op a b cc kd n tx l bN 0 s g) : RunP envQ fn45.md (sndC (sndC (sndC fn45.body))) s g (endK envQ fn45 fun v' h' => ∃ v, Sb.fz envQ h' ybq v' = some v ∧ (V.norefs [ckV c f, .agg (iC op a b cc kd n tx l), .int .i64 k] || v.flat) = true ∧ v = .bool (decide (rInsP c f L k ⟨op, a, b, cc, kd, n, tx, l⟩))) := by
 have hcl : lenO f.cd = L.length := by rw [hcd]; rfl
 obtain ⟨u, x, ⟨_, rfl⟩, rfl⟩ := ydj hI
 clear hI
 have hR : rInsP c f L k ⟨op, a, b, cc, kd, n, tx, l⟩ ↔ (op = 1 ∨ (kd = 0 ∧ n = 0 ∧ tx = [])) ∧ (slP f.s a 1 ∧ (9 ≤ b ∧ b ≤ 19) ∧ slP f.s cc 1 ∧ lenO l = 1 ∧ slsP f.s l) := by
  unfold rInsP
  simp only
  rw [if_neg (by omega), if_neg (by omega), if_neg (by omega), if_pos (by omega)]
 obtain ⟨bA, hbA⟩ : ∃ w, decide (slP f.s a 1) = w := ⟨_, rfl⟩
 have kbA := yct [.cells 81 (ckC c f), .cells 68 (iC op a b cc kd n tx l)] c f a 1 hS (by omega)
 rw [hbA] at kbA
 obtain ⟨bB, hbB⟩ : ∃ w, decide (9 ≤ b) = w := ⟨_, rfl⟩
 obtain ⟨bD, hbD⟩ : ∃ w, decide (b ≤ 19) = w := ⟨_, rfl⟩
 obtain ⟨bC, hbC⟩ : ∃ w, decide (slP f.s cc 1) = w := ⟨_, rfl⟩
 have kbC := yct [.cells 81 (ckC c f), .cells 68 (iC op a b cc kd n tx l)] c f cc 1 hS (by omega)
 rw [hbC] at kbC
 obtain ⟨bL, hbL⟩ : ∃ w, decide ((lenO l : Int) = 1) = w := ⟨_, rfl⟩
 obtain ⟨bS, hbS⟩ : ∃ w, decide (slsP f.s l) = w := ⟨_, rfl⟩
 have kbS := yfn [.cells 81 (ckC c f), .cells 68 (iC op a b cc kd n tx l)] c f l hS hx
 rw [hbS] at kbS
 refine jW ?_
 refine jR _ ?_
 iterate 2 (refine yaa ?_)
 refine jW ?_
 refine jR _ ?_
 refine yaa ?_ (fun K hK => jN (by omega) (fun _ => hK))
 refine yaa ?_
 refine jW ?_
 refine jR _ ?_
 refine yaa ?_ (fun K hK => jN (by omega) (fun _ => hK))
 refine yaa ?_
 refine jW ?_
 refine jR _ ?_
 refine yaa ?_ (fun K hK => jN (by omega) (fun _ => hK))
 refine yaa ?_
 refine jW ?_
 refine jR _ ?_
 refine yaa ?_ (fun K hK => jY (fun _ => hK) (by omega))
 refine yaa ?_
 refine jW ?_
 refine jR _ ?_
 iterate 3 (refine yaa ?_)
 cases bA
 ·refine yaa ?_ (fun K hK => CallK.of kbA hK)
  refine yaa ?_
  iterate 3 (refine yag ?_)
  iterate 2 (refine yaa ?_)
  iterate 3 (refine yag ?_)
  iterate 2 (refine yaa ?_)
  iterate 4 (refine yag ?_)
  iterate 2 (refine yaa ?_)
  iterate 4 (refine yag ?_)
  iterate 2 (refine yaa ?_)
  iterate 4 (refine yag ?_)
  iterate 2 (refine yaa ?_)
  refine jW ?_
  apply jH
  exact ⟨rfl, _, rfl, jO _, vN (fun q => by obtain ⟨_, q0, q1, q2, q3, q4⟩ := hR.1 q; have w := jU hbA; first | exact absurd q0 w | omega)⟩
 ·refine yaa ?_ (fun K hK => CallK.of kbA hK)
  refine yaa ?_
  iterate 2 (refine yad ?_)
  cases bB
  ·refine yad ?_ (fun K hK => cmp2 (R := 9 ≤ b) (fun w => by omega) (fun w => by omega) (by rw [hbB]; exact hK))
   iterate 2 (refine yaa ?_)
   iterate 3 (refine yag ?_)
   iterate 2 (refine yaa ?_)
   iterate 4 (refine yag ?_)
   iterate 2 (refine yaa ?_)
   iterate 4 (refine yag ?_)
   iterate 2 (refine yaa ?_)
   iterate 4 (refine yag ?_)
   iterate 2 (refine yaa ?_)
   refine jW ?_
   apply jH
   exact ⟨rfl, _, rfl, jO _, vN (fun q => by obtain ⟨_, q0, q1, q2, q3, q4⟩ := hR.1 q; have w := jU hbB; first | exact absurd q1 w | omega)⟩
  ·refine yad ?_ (fun K hK => cmp2 (R := 9 ≤ b) (fun w => by omega) (fun w => by omega) (by rw [hbB]; exact hK))
   iterate 2 (refine yaa ?_)
   iterate 2 (refine yad ?_)
   cases bD
   ·refine yad ?_ (fun K hK => cmp2 (R := b ≤ 19) (fun w => by omega) (fun w => by omega) (by rw [hbD]; exact hK))
    iterate 2 (refine yaa ?_)
    iterate 4 (refine yag ?_)
    iterate 2 (refine yaa ?_)
    iterate 4 (refine yag ?_)
    iterate 2 (refine yaa ?_)
    iterate 4 (refine yag ?_)
    iterate 2 (refine yaa ?_)
    refine jW ?_
    apply jH
    exact ⟨rfl, _, rfl, jO _, vN (fun q => by obtain ⟨_, q0, q1, q2, q3, q4⟩ := hR.1 q; have w := jU hbD; first | exact absurd q1 w | omega)⟩
   ·refine yad ?_ (fun K hK => cmp2 (R := b ≤ 19) (fun w => by omega) (fun w => by omega) (by rw [hbD]; exact hK))
    iterate 2 (refine yaa ?_)
    iterate 3 (refine yad ?_)
    cases bC
    ·refine yad ?_ (fun K hK => CallK.of kbC hK)
     iterate 2 (refine yaa ?_)
     iterate 4 (refine yag ?_)
     iterate 2 (refine yaa ?_)
     iterate 4 (refine yag ?_)
     iterate 2 (refine yaa ?_)
     refine jW ?_
     apply jH
     exact ⟨rfl, _, rfl, jO _, vN (fun q => by obtain ⟨_, q0, q1, q2, q3, q4⟩ := hR.1 q; have w := jU hbC; first | exact absurd q2 w | omega)⟩
    ·refine yad ?_ (fun K hK => CallK.of kbC hK)
     iterate 2 (refine yaa ?_)
     iterate 2 (refine yad ?_)
     refine yad ?_ (fun K hK => yan (E := envQ) (t := 66) (el := 3) (d := ty66) rfl rfl hK)
     cases bL
     ·refine yad ?_ (fun K hK => cmpK (by rw [hbL]; exact hK))
      iterate 2 (refine yaa ?_)
      iterate 4 (refine yag ?_)
      iterate 2 (refine yaa ?_)
      refine jW ?_
      apply jH
      exact ⟨rfl, _, rfl, jO _, vN (fun q => by obtain ⟨_, q0, q1, q2, q3, q4⟩ := hR.1 q; have w := jU hbL; first | exact absurd q3 w | omega)⟩
     ·refine yad ?_ (fun K hK => cmpK (by rw [hbL]; exact hK))
      iterate 2 (refine yaa ?_)
      iterate 3 (refine yad ?_)
      cases bS
      ·refine yad ?_ (fun K hK => CallK.of kbS hK)
       iterate 2 (refine yaa ?_)
       refine jW ?_
       apply jH
       exact ⟨rfl, _, rfl, jO _, vN (fun q => by obtain ⟨_, q0, q1, q2, q3, q4⟩ := hR.1 q; have w := jU hbS; first | exact absurd q4 w | omega)⟩
      ·refine yad ?_ (fun K hK => CallK.of kbS hK)
       iterate 2 (refine yaa ?_)
       refine jW ?_
       apply jH
       exact ⟨rfl, _, rfl, jO _, vY (hR.2 ⟨.inr hz, jT hbA, ⟨jT hbB, jT hbD⟩, jT hbC, (by have := jT hbL; omega), jT hbS⟩)⟩
end Go.Proofs.YtekmafoicobphaaGreatDoor
