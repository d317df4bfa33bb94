/- Codes: the reference's words: instructions (a). -/
import Derived.Test.YtekmafoicobphaaGreatDoorSbRv3
set_option linter.unusedVariables false
set_option linter.unusedSimpArgs false
namespace Go.Proofs.YtekmafoicobphaaGreatDoor
open Go.Sb
set_option maxRecDepth 100000
set_option maxHeartbeats 16000000 in
theorem rop_2 (h : Heap) (c : Cod) (f : Fnc) (L : List Ins) (k : Nat) (op a b cc kd n : Int) (tx : List UInt8) (l : Option (List Int)) (hS : 0 ≤ f.s ∧ f.s ≤ 200) (hl : lenO f.cd ≤ 4000) (hc : lenO c ≤ 1000) (hx : lenO l ≤ 2 ^ 50) (hcd : f.cd = some L) (hk : k ≤ L.length) (hs : tx.length ≤ 2 ^ 50) (bN : Bool) (hbN : decide ((lenO l : Int) = 0) = bN) (hz : kd = 0 ∧ n = 0 ∧ tx = []) (h2 : op = 2) (s : List V) (g : Heap) (hI : swI c f k op a b cc kd n tx l bN 0 s g) : RunP envQ fn45.md (sndC (sndC (sndC fn45.body))) s g (endK envQ fn45 fun v' h' => ∃ v, Sb.fz envQ h' ybq v' = some v ∧ (V.norefs [ckV c f, .agg (iC op a b cc kd n tx l), .int .i64 k] || v.flat) = true ∧ v = .bool (decide (rInsP c f L k ⟨op, a, b, cc, kd, n, tx, l⟩))) := by
 have hcl : lenO f.cd = L.length := by rw [hcd]; rfl
 obtain ⟨u, x, ⟨_, rfl⟩, rfl⟩ := ydj hI
 clear hI
 have hR : rInsP c f L k ⟨op, a, b, cc, kd, n, tx, l⟩ ↔ (op = 1 ∨ (kd = 0 ∧ n = 0 ∧ tx = [])) ∧ (slP f.s a 1 ∧ slP f.s b 1 ∧ cc = 0 ∧ lenO l = 0) := by
  unfold rInsP
  simp only
  rw [if_neg (by omega), if_pos (by omega)]
 obtain ⟨bA, hbA⟩ : ∃ w, decide (slP f.s a 1) = w := ⟨_, rfl⟩
 have kbA := yct [.cells 81 (ckC c f), .cells 68 (iC op a b cc kd n tx l)] c f a 1 hS (by omega)
 rw [hbA] at kbA
 obtain ⟨bB, hbB⟩ : ∃ w, decide (slP f.s b 1) = w := ⟨_, rfl⟩
 have kbB := yct [.cells 81 (ckC c f), .cells 68 (iC op a b cc kd n tx l)] c f b 1 hS (by omega)
 rw [hbB] at kbB
 obtain ⟨bC, hbC⟩ : ∃ w, decide (cc = 0) = w := ⟨_, rfl⟩
 refine jW ?_
 refine jR _ ?_
 iterate 2 (refine yaa ?_)
 refine jW ?_
 refine jR _ ?_
 refine yaa ?_ (fun K hK => jN (by omega) (fun _ => hK))
 refine yaa ?_
 refine jW ?_
 refine jR _ ?_
 refine yaa ?_ (fun K hK => jY (fun _ => hK) (by omega))
 refine yaa ?_
 refine jW ?_
 refine jR _ ?_
 iterate 3 (refine yaa ?_)
 cases bA
 ·refine yaa ?_ (fun K hK => CallK.of kbA hK)
  refine yaa ?_
  iterate 4 (refine yag ?_)
  iterate 2 (refine yaa ?_)
  iterate 3 (refine yag ?_)
  iterate 2 (refine yaa ?_)
  refine yag ?_
  iterate 2 (refine yaa ?_)
  refine jW ?_
  apply jH
  exact ⟨rfl, _, rfl, jO _, vN (fun q => by obtain ⟨_, q0, q1, q2, q3⟩ := hR.1 q; have w := jU hbA; first | exact absurd q0 w | omega)⟩
 ·refine yaa ?_ (fun K hK => CallK.of kbA hK)
  refine yaa ?_
  iterate 3 (refine yad ?_)
  cases bB
  ·refine yad ?_ (fun K hK => CallK.of kbB hK)
   iterate 2 (refine yaa ?_)
   iterate 3 (refine yag ?_)
   iterate 2 (refine yaa ?_)
   refine yag ?_
   iterate 2 (refine yaa ?_)
   refine jW ?_
   apply jH
   exact ⟨rfl, _, rfl, jO _, vN (fun q => by obtain ⟨_, q0, q1, q2, q3⟩ := hR.1 q; have w := jU hbB; first | exact absurd q1 w | omega)⟩
  ·refine yad ?_ (fun K hK => CallK.of kbB hK)
   iterate 2 (refine yaa ?_)
   iterate 2 (refine yad ?_)
   cases bC
   ·refine yad ?_ (fun K hK => cmpK (by rw [hbC]; exact hK))
    iterate 2 (refine yaa ?_)
    refine yag ?_
    iterate 2 (refine yaa ?_)
    refine jW ?_
    apply jH
    exact ⟨rfl, _, rfl, jO _, vN (fun q => by obtain ⟨_, q0, q1, q2, q3⟩ := hR.1 q; have w := jU hbC; first | exact absurd q2 w | omega)⟩
   ·refine yad ?_ (fun K hK => cmpK (by rw [hbC]; exact hK))
    iterate 2 (refine yaa ?_)
    refine yad ?_
    iterate 2 (refine yaa ?_)
    refine jW ?_
    apply jH
    cases bN
    ·exact ⟨rfl, _, rfl, jO _, vN (fun q => by obtain ⟨_, q0, q1, q2, q3⟩ := hR.1 q; have w := jU hbN; omega)⟩
    ·exact ⟨rfl, _, rfl, jO _, vY (hR.2 ⟨.inr hz, jT hbA, jT hbB, jT hbC, (by have := jT hbN; omega)⟩)⟩
set_option maxHeartbeats 16000000 in
theorem rop_3 (h : Heap) (c : Cod) (f : Fnc) (L : List Ins) (k : Nat) (op a b cc kd n : Int) (tx : List UInt8) (l : Option (List Int)) (hS : 0 ≤ f.s ∧ f.s ≤ 200) (hl : lenO f.cd ≤ 4000) (hc : lenO c ≤ 1000) (hx : lenO l ≤ 2 ^ 50) (hcd : f.cd = some L) (hk : k ≤ L.length) (hs : tx.length ≤ 2 ^ 50) (bN : Bool) (hbN : decide ((lenO l : Int) = 0) = bN) (hz : kd = 0 ∧ n = 0 ∧ tx = []) (h3 : op = 3) (s : List V) (g : Heap) (hI : swI c f k op a b cc kd n tx l bN 0 s g) : RunP envQ fn45.md (sndC (sndC (sndC fn45.body))) s g (endK envQ fn45 fun v' h' => ∃ v, Sb.fz envQ h' ybq v' = some v ∧ (V.norefs [ckV c f, .agg (iC op a b cc kd n tx l), .int .i64 k] || v.flat) = true ∧ v = .bool (decide (rInsP c f L k ⟨op, a, b, cc, kd, n, tx, l⟩))) := by
 have hcl : lenO f.cd = L.length := by rw [hcd]; rfl
 obtain ⟨u, x, ⟨_, rfl⟩, rfl⟩ := ydj hI
 clear hI
 have hR : rInsP c f L k ⟨op, a, b, cc, kd, n, tx, l⟩ ↔ (op = 1 ∨ (kd = 0 ∧ n = 0 ∧ tx = [])) ∧ (slP f.s a 1 ∧ (5 ≤ b ∧ b ≤ 6) ∧ slP f.s cc 1 ∧ lenO l = 0) := by
  unfold rInsP
  simp only
  rw [if_neg (by omega), if_neg (by omega), if_pos (by omega)]
 obtain ⟨bA, hbA⟩ : ∃ w, decide (slP f.s a 1) = w := ⟨_, rfl⟩
 have kbA := yct [.cells 81 (ckC c f), .cells 68 (iC op a b cc kd n tx l)] c f a 1 hS (by omega)
 rw [hbA] at kbA
 obtain ⟨bB, hbB⟩ : ∃ w, decide (5 ≤ b ∧ b ≤ 6) = w := ⟨_, rfl⟩
 have kbB := ywo [.cells 81 (ckC c f), .cells 68 (iC op a b cc kd n tx l)] b
 rw [hbB] at kbB
 obtain ⟨bC, hbC⟩ : ∃ w, decide (slP f.s cc 1) = w := ⟨_, rfl⟩
 have kbC := yct [.cells 81 (ckC c f), .cells 68 (iC op a b cc kd n tx l)] c f cc 1 hS (by omega)
 rw [hbC] at kbC
 refine jW ?_
 refine jR _ ?_
 iterate 2 (refine yaa ?_)
 refine jW ?_
 refine jR _ ?_
 refine yaa ?_ (fun K hK => jN (by omega) (fun _ => hK))
 refine yaa ?_
 refine jW ?_
 refine jR _ ?_
 refine yaa ?_ (fun K hK => jN (by omega) (fun _ => hK))
 refine yaa ?_
 refine jW ?_
 refine jR _ ?_
 refine yaa ?_ (fun K hK => jY (fun _ => hK) (by omega))
 refine yaa ?_
 refine jW ?_
 refine jR _ ?_
 iterate 3 (refine yaa ?_)
 cases bA
 ·refine yaa ?_ (fun K hK => CallK.of kbA hK)
  refine yaa ?_
  iterate 3 (refine yag ?_)
  iterate 2 (refine yaa ?_)
  iterate 4 (refine yag ?_)
  iterate 2 (refine yaa ?_)
  refine yag ?_
  iterate 2 (refine yaa ?_)
  refine jW ?_
  apply jH
  exact ⟨rfl, _, rfl, jO _, vN (fun q => by obtain ⟨_, q0, q1, q2, q3⟩ := hR.1 q; have w := jU hbA; first | exact absurd q0 w | omega)⟩
 ·refine yaa ?_ (fun K hK => CallK.of kbA hK)
  refine yaa ?_
  iterate 2 (refine yad ?_)
  cases bB
  ·refine yad ?_ (fun K hK => CallK.of kbB hK)
   iterate 2 (refine yaa ?_)
   iterate 4 (refine yag ?_)
   iterate 2 (refine yaa ?_)
   refine yag ?_
   iterate 2 (refine yaa ?_)
   refine jW ?_
   apply jH
   exact ⟨rfl, _, rfl, jO _, vN (fun q => by obtain ⟨_, q0, q1, q2, q3⟩ := hR.1 q; have w := jU hbB; first | exact absurd q1 w | omega)⟩
  ·refine yad ?_ (fun K hK => CallK.of kbB hK)
   iterate 2 (refine yaa ?_)
   iterate 3 (refine yad ?_)
   cases bC
   ·refine yad ?_ (fun K hK => CallK.of kbC hK)
    iterate 2 (refine yaa ?_)
    refine yag ?_
    iterate 2 (refine yaa ?_)
    refine jW ?_
    apply jH
    exact ⟨rfl, _, rfl, jO _, vN (fun q => by obtain ⟨_, q0, q1, q2, q3⟩ := hR.1 q; have w := jU hbC; first | exact absurd q2 w | omega)⟩
   ·refine yad ?_ (fun K hK => CallK.of kbC hK)
    iterate 2 (refine yaa ?_)
    refine yad ?_
    iterate 2 (refine yaa ?_)
    refine jW ?_
    apply jH
    cases bN
    ·exact ⟨rfl, _, rfl, jO _, vN (fun q => by obtain ⟨_, q0, q1, q2, q3⟩ := hR.1 q; have w := jU hbN; omega)⟩
    ·exact ⟨rfl, _, rfl, jO _, vY (hR.2 ⟨.inr hz, jT hbA, jT hbB, jT hbC, (by have := jT hbN; omega)⟩)⟩
set_option maxHeartbeats 16000000 in
theorem rop_5 (h : Heap) (c : Cod) (f : Fnc) (L : List Ins) (k : Nat) (op a b cc kd n : Int) (tx : List UInt8) (l : Option (List Int)) (hS : 0 ≤ f.s ∧ f.s ≤ 200) (hl : lenO f.cd ≤ 4000) (hc : lenO c ≤ 1000) (hx : lenO l ≤ 2 ^ 50) (hcd : f.cd = some L) (hk : k ≤ L.length) (hs : tx.length ≤ 2 ^ 50) (bN : Bool) (hbN : decide ((lenO l : Int) = 0) = bN) (hz : kd = 0 ∧ n = 0 ∧ tx = []) (h5 : op = 5) (s : List V) (g : Heap) (hI : swI c f k op a b cc kd n tx l bN 0 s g) : RunP envQ fn45.md (sndC (sndC (sndC fn45.body))) s g (endK envQ fn45 fun v' h' => ∃ v, Sb.fz envQ h' ybq v' = some v ∧ (V.norefs [ckV c f, .agg (iC op a b cc kd n tx l), .int .i64 k] || v.flat) = true ∧ v = .bool (decide (rInsP c f L k ⟨op, a, b, cc, kd, n, tx, l⟩))) := by
 have hcl : lenO f.cd = L.length := by rw [hcd]; rfl
 obtain ⟨u, x, ⟨_, rfl⟩, rfl⟩ := ydj hI
 clear hI
 have hR : rInsP c f L k ⟨op, a, b, cc, kd, n, tx, l⟩ ↔ (op = 1 ∨ (kd = 0 ∧ n = 0 ∧ tx = [])) ∧ (plP (lenO f.cd) a ∧ b = 0 ∧ cc = 0 ∧ lenO l = 0) := by
  unfold rInsP
  simp only
  rw [if_neg (by omega), if_neg (by omega), if_neg (by omega), if_neg (by omega), if_pos (by omega)]
 obtain ⟨bA, hbA⟩ : ∃ w, decide (plP (lenO f.cd) a) = w := ⟨_, rfl⟩
 have kbA := yhc [.cells 81 (ckC c f), .cells 68 (iC op a b cc kd n tx l)] c f a hl
 rw [hbA] at kbA
 obtain ⟨bB, hbB⟩ : ∃ w, decide (b = 0) = w := ⟨_, rfl⟩
 obtain ⟨bC, hbC⟩ : ∃ w, decide (cc = 0) = w := ⟨_, rfl⟩
 refine jW ?_
 refine jR _ ?_
 iterate 2 (refine yaa ?_)
 refine jW ?_
 refine jR _ ?_
 refine yaa ?_ (fun K hK => jN (by omega) (fun _ => hK))
 refine yaa ?_
 refine jW ?_
 refine jR _ ?_
 refine yaa ?_ (fun K hK => jN (by omega) (fun _ => hK))
 refine yaa ?_
 refine jW ?_
 refine jR _ ?_
 refine yaa ?_ (fun K hK => jN (by omega) (fun _ => hK))
 refine yaa ?_
 refine jW ?_
 refine jR _ ?_
 refine yaa ?_ (fun K hK => jN (by omega) (fun _ => hK))
 refine yaa ?_
 refine jW ?_
 refine jR _ ?_
 refine yaa ?_ (fun K hK => jY (fun _ => hK) (by omega))
 refine yaa ?_
 refine jW ?_
 refine jR _ ?_
 iterate 3 (refine yaa ?_)
 cases bA
 ·refine yaa ?_ (fun K hK => CallK.of kbA hK)
  refine yaa ?_
  iterate 3 (refine yag ?_)
  iterate 2 (refine yaa ?_)
  iterate 3 (refine yag ?_)
  iterate 2 (refine yaa ?_)
  refine yag ?_
  iterate 2 (refine yaa ?_)
  refine jW ?_
  apply jH
  exact ⟨rfl, _, rfl, jO _, vN (fun q => by obtain ⟨_, q0, q1, q2, q3⟩ := hR.1 q; have w := jU hbA; first | exact absurd q0 w | omega)⟩
 ·refine yaa ?_ (fun K hK => CallK.of kbA hK)
  refine yaa ?_
  iterate 2 (refine yad ?_)
  cases bB
  ·refine yad ?_ (fun K hK => cmpK (by rw [hbB]; exact hK))
   iterate 2 (refine yaa ?_)
   iterate 3 (refine yag ?_)
   iterate 2 (refine yaa ?_)
   refine yag ?_
   iterate 2 (refine yaa ?_)
   refine jW ?_
   apply jH
   exact ⟨rfl, _, rfl, jO _, vN (fun q => by obtain ⟨_, q0, q1, q2, q3⟩ := hR.1 q; have w := jU hbB; first | exact absurd q1 w | omega)⟩
  ·refine yad ?_ (fun K hK => cmpK (by rw [hbB]; exact hK))
   iterate 2 (refine yaa ?_)
   iterate 2 (refine yad ?_)
   cases bC
   ·refine yad ?_ (fun K hK => cmpK (by rw [hbC]; exact hK))
    iterate 2 (refine yaa ?_)
    refine yag ?_
    iterate 2 (refine yaa ?_)
    refine jW ?_
    apply jH
    exact ⟨rfl, _, rfl, jO _, vN (fun q => by obtain ⟨_, q0, q1, q2, q3⟩ := hR.1 q; have w := jU hbC; first | exact absurd q2 w | omega)⟩
   ·refine yad ?_ (fun K hK => cmpK (by rw [hbC]; exact hK))
    iterate 2 (refine yaa ?_)
    refine yad ?_
    iterate 2 (refine yaa ?_)
    refine jW ?_
    apply jH
    cases bN
    ·exact ⟨rfl, _, rfl, jO _, vN (fun q => by obtain ⟨_, q0, q1, q2, q3⟩ := hR.1 q; have w := jU hbN; omega)⟩
    ·exact ⟨rfl, _, rfl, jO _, vY (hR.2 ⟨.inr hz, jT hbA, jT hbB, jT hbC, (by have := jT hbN; omega)⟩)⟩
end Go.Proofs.YtekmafoicobphaaGreatDoor
