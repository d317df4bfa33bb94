/- Codes: the reference's words: instructions (e). -/
import Derived.Test.YtekmafoicobphaaGreatDoorSbRv3
import Derived.Test.YtekmafoicobphaaGreatDoorSbRv2b
import Derived.Test.YtekmafoicobphaaGreatDoorSbRv3a
import Derived.Test.YtekmafoicobphaaGreatDoorSbRv3b
import Derived.Test.YtekmafoicobphaaGreatDoorSbRv3c
import Derived.Test.YtekmafoicobphaaGreatDoorSbRv3d
import Derived.Test.YtekmafoicobphaaGreatDoorSbRv3f
import Derived.Test.YtekmafoicobphaaGreatDoorSbRv3g
set_option linter.unusedVariables false
set_option linter.unusedSimpArgs false
namespace Go.Proofs.YtekmafoicobphaaGreatDoor
open Go.Sb
set_option maxRecDepth 100000
set_option maxHeartbeats 16000000 in
theorem rop_10 (h : Heap) (c : Cod) (f : Fnc) (L : List Ins) (k : Nat) (op a b cc kd n : Int) (tx : List UInt8) (l : Option (List Int)) (hS : 0 ≤ f.s ∧ f.s ≤ 200) (hl : lenO f.cd ≤ 4000) (hc : lenO c ≤ 1000) (hx : lenO l ≤ 2 ^ 50) (hcd : f.cd = some L) (hk : k ≤ L.length) (hs : tx.length ≤ 2 ^ 50) (bN : Bool) (hbN : decide ((lenO l : Int) = 0) = bN) (hz : kd = 0 ∧ n = 0 ∧ tx = []) (h10 : op = 10) (s : List V) (g : Heap) (hI : swI c f k op a b cc kd n tx l bN 0 s g) : RunP envQ fn45.md (sndC (sndC (sndC fn45.body))) s g (endK envQ fn45 fun v' h' => ∃ v, Sb.fz envQ h' ybq v' = some v ∧ (V.norefs [ckV c f, .agg (iC op a b cc kd n tx l), .int .i64 k] || v.flat) = true ∧ v = .bool (decide (rInsP c f L k ⟨op, a, b, cc, kd, n, tx, l⟩))) := by
 have hcl : lenO f.cd = L.length := by rw [hcd]; rfl
 obtain ⟨u, x, ⟨_, rfl⟩, rfl⟩ := ydj hI
 clear hI
 have hR : rInsP c f L k ⟨op, a, b, cc, kd, n, tx, l⟩ ↔ (op = 1 ∨ (kd = 0 ∧ n = 0 ∧ tx = [])) ∧ ((a = -1 ∨ slP f.s a 1) ∧ rAskP c f L k ⟨op, a, b, cc, kd, n, tx, l⟩) := by
  unfold rInsP
  simp only
  rw [if_neg (by omega), if_neg (by omega), if_neg (by omega), if_neg (by omega), if_neg (by omega), if_neg (by omega), if_neg (by omega), if_neg (by omega), if_neg (by omega), if_pos (by omega)]
 obtain ⟨bM, hbM⟩ : ∃ w, decide (a = -1) = w := ⟨_, rfl⟩
 obtain ⟨bA, hbA⟩ : ∃ w, decide (slP f.s a 1) = w := ⟨_, rfl⟩
 have kbA := yct [.cells 81 (ckC c f), .cells 68 (iC op a b cc kd n tx l)] c f a 1 hS (by omega)
 rw [hbA] at kbA
 obtain ⟨bB, hbB⟩ : ∃ w, decide (rAskP c f L k ⟨op, a, b, cc, kd, n, tx, l⟩) = w := ⟨_, rfl⟩
 have kbB := rask_has [.cells 81 (ckC c f), .cells 68 (iC op a b cc kd n tx l)] c f L k op a b cc kd n tx l hS hl hc hx hcd hk
 rw [hbB] at kbB
 refine jW ?_
 refine jR _ ?_
 iterate 2 (refine yaa ?_)
 refine jW ?_
 refine jR _ ?_
 refine yaa ?_ (fun K hK => jN (by omega) (fun _ => hK))
 refine yaa ?_
 refine jW ?_
 refine jR _ ?_
 refine yaa ?_ (fun K hK => jN (by omega) (fun _ => hK))
 refine yaa ?_
 refine jW ?_
 refine jR _ ?_
 refine yaa ?_ (fun K hK => jN (by omega) (fun _ => hK))
 refine yaa ?_
 refine jW ?_
 refine jR _ ?_
 refine yaa ?_ (fun K hK => jN (by omega) (fun _ => hK))
 refine yaa ?_
 refine jW ?_
 refine jR _ ?_
 refine yaa ?_ (fun K hK => jN (by omega) (fun _ => hK))
 refine yaa ?_
 refine jW ?_
 refine jR _ ?_
 refine yaa ?_ (fun K hK => jN (by omega) (fun _ => hK))
 refine yaa ?_
 refine jW ?_
 refine jR _ ?_
 refine yaa ?_ (fun K hK => jN (by omega) (fun _ => hK))
 refine yaa ?_
 refine jW ?_
 refine jR _ ?_
 refine yaa ?_ (fun K hK => jN (by omega) (fun _ => hK))
 refine yaa ?_
 refine jW ?_
 refine jR _ ?_
 refine yaa ?_ (fun K hK => jN (by omega) (fun _ => hK))
 refine yaa ?_
 refine jW ?_
 refine jR _ ?_
 refine yaa ?_ (fun K hK => jN (by omega) (fun _ => hK))
 refine yaa ?_
 refine jW ?_
 refine jR _ ?_
 refine yaa ?_ (fun K hK => jY (fun _ => hK) (by omega))
 refine yaa ?_
 refine jW ?_
 refine jR _ ?_
 iterate 2 (refine yaa ?_)
 cases bM
 ·refine yaa ?_ (fun K hK => cmpK (by rw [hbM]; exact hK))
  refine yaa ?_
  iterate 3 (refine yad ?_)
  cases bA
  ·refine yad ?_ (fun K hK => CallK.of kbA hK)
   iterate 2 (refine yaa ?_)
   iterate 4 (refine yag ?_)
   iterate 2 (refine yaa ?_)
   refine jW ?_
   apply jH
   exact ⟨rfl, _, rfl, jO _, vN (fun q => by obtain ⟨_, q0, q1⟩ := hR.1 q; rcases q0 with w | w; exact absurd w (jU hbM); exact absurd w (jU hbA))⟩
  ·refine yad ?_ (fun K hK => CallK.of kbA hK)
   iterate 2 (refine yaa ?_)
   iterate 3 (refine yad ?_)
   cases bB
   ·refine yad ?_ (fun K hK => CallK.of kbB hK)
    iterate 2 (refine yaa ?_)
    refine jW ?_
    apply jH
    exact ⟨rfl, _, rfl, jO _, vN (fun q => by obtain ⟨_, q0, q1⟩ := hR.1 q; have w := jU hbB; first | exact absurd q1 w | omega)⟩
   ·refine yad ?_ (fun K hK => CallK.of kbB hK)
    iterate 2 (refine yaa ?_)
    refine jW ?_
    apply jH
    exact ⟨rfl, _, rfl, jO _, vY (hR.2 ⟨.inr hz, (.inr (jT hbA)), jT hbB⟩)⟩
 ·refine yaa ?_ (fun K hK => cmpK (by rw [hbM]; exact hK))
  refine yaa ?_
  iterate 4 (refine yag ?_)
  iterate 2 (refine yaa ?_)
  iterate 3 (refine yad ?_)
  cases bB
  ·refine yad ?_ (fun K hK => CallK.of kbB hK)
   iterate 2 (refine yaa ?_)
   refine jW ?_
   apply jH
   exact ⟨rfl, _, rfl, jO _, vN (fun q => by obtain ⟨_, q0, q1⟩ := hR.1 q; have w := jU hbB; first | exact absurd q1 w | omega)⟩
  ·refine yad ?_ (fun K hK => CallK.of kbB hK)
   iterate 2 (refine yaa ?_)
   refine jW ?_
   apply jH
   exact ⟨rfl, _, rfl, jO _, vY (hR.2 ⟨.inr hz, (.inl (jT hbM)), jT hbB⟩)⟩
end Go.Proofs.YtekmafoicobphaaGreatDoor

/- Codes: the reference's words: an instruction. -/

namespace Go.Proofs.YtekmafoicobphaaGreatDoor
open Go.Sb
set_option maxRecDepth 100000
set_option maxHeartbeats 16000000 in
theorem ywp (h : Heap) (c : Cod) (f : Fnc) (L : List Ins) (k : Nat) (op a b cc kd n : Int) (tx : List UInt8) (l : Option (List Int)) (hS : 0 ≤ f.s ∧ f.s ≤ 200) (hl : lenO f.cd ≤ 4000) (hc : lenO c ≤ 1000) (hx : lenO l ≤ 2 ^ 50) (hcd : f.cd = some L) (hk : k ≤ L.length) (hs : tx.length ≤ 2 ^ 50) : Has envQ .own 45 [ckV c f, .agg (iC op a b cc kd n tx l), .int .i64 k] h (.val (.bool (decide (rInsP c f L k ⟨op, a, b, cc, kd, n, tx, l⟩))) h) := by
 suffices hx : ∃ v, Has envQ .own 45 [ckV c f, .agg (iC op a b cc kd n tx l), .int .i64 k] h (.val v h) ∧ v = .bool (decide (rInsP c f L k ⟨op, a, b, cc, kd, n, tx, l⟩)) by
  obtain ⟨v, h1, rfl⟩ := hx; exact h1
 refine HasP.ownE (a := [ckV c f, .agg (iC op a b cc kd n tx l), .int .i64 k]) (d := fn45) (yaj (fz_ag (ych _ _)) (yaj (fz_ag (yec _ _ _ _ _ _ _ _)) (yaj rfl yax))) rfl rfl (jT rfl) ?_
 show ybc (initT _ [ckV c f, .agg (iC op a b cc kd n tx l), .int .i64 k]) _
 obtain ⟨bN, hbN⟩ : ∃ w, decide ((lenO l : Int) = 0) = w := ⟨_, rfl⟩
 refine jW ?_
 refine jR _ ?_
 refine yaa (v := .ptr 0 0 6) (g := [.cells 81 (ckC c f)]) ?_ (fun K hK => yco (ych _ _) hK)
 refine yaa (v := .ptr 1 0 8) (g := [.cells 81 (ckC c f), .cells 68 (iC op a b cc kd n tx l)]) ?_ (fun K hK => yco (yec _ _ _ _ _ _ _ _) hK)
 refine yaa ?_
 refine jW ?_
 by_cases h1 : op = 1
 case pos =>
  refine jR _ ?_
  iterate 2 (refine yaa ?_)
  refine yaa ?_ (fun K hK => jI (fun _ => hK) (fun w => absurd h1 w))
  refine yaa ?_
  iterate 4 (refine yag ?_)
  refine yaa ?_
  refine jW ?_
  refine jR _ ?_
  iterate 2 (refine yaa ?_)
  refine yaa ?_ (fun K hK => yan (E := envQ) (t := 66) (el := 3) (d := ty66) rfl rfl hK)
  refine yaa ?_ (fun K hK => cmpK (by rw [hbN]; exact hK))
  refine yaa ?_
  exact rop_1 h c f L k op a b cc kd n tx l hS hl hc hx hcd hk hs bN hbN h1 _ _ ⟨0, ⟨rfl, rfl⟩, rfl, rfl, rfl, rfl, rfl, rfl, rfl, rfl, rfl⟩
 have hne := neV kd n 0 0 tx []
 by_cases hz : kd = 0 ∧ n = 0 ∧ tx = []
 case neg =>
  have e : (!(kd == 0 && n == 0 && tx == [])) = true := by
   cases q : (kd == 0 && n == 0 && tx == []) with
   | false => rfl
   | true =>
    simp only [Bool.and_eq_true, beq_iff_eq] at q
    exact absurd ⟨q.1.1, q.1.2, q.2⟩ hz
  rw [e] at hne
  refine jR _ ?_
  iterate 2 (refine yaa ?_)
  refine yaa ?_ (fun K hK => jN (by omega) (fun _ => hK))
  refine yaa ?_
  iterate 3 (refine yad ?_)
  refine yad ?_ (fun K hK => yaf hne hK)
  refine yaa ?_
  refine jW ?_
  refine jR _ ?_
  refine yaa ?_
  refine jW ?_
  apply jH
  exact ⟨rfl, _, rfl, jO _, vN (fun q => hz (q.1.resolve_left h1))⟩
 have e : (!(kd == 0 && n == 0 && tx == [])) = false := by obtain ⟨rfl, rfl, rfl⟩ := hz; rfl
 rw [e] at hne
 refine jR _ ?_
 iterate 2 (refine yaa ?_)
 refine yaa ?_ (fun K hK => jN (by omega) (fun _ => hK))
 refine yaa ?_
 iterate 3 (refine yad ?_)
 refine yad ?_ (fun K hK => yaf hne hK)
 refine yaa ?_
 refine jW ?_
 refine jR _ ?_
 iterate 2 (refine yaa ?_)
 refine yaa ?_ (fun K hK => yan (E := envQ) (t := 66) (el := 3) (d := ty66) rfl rfl hK)
 refine yaa ?_ (fun K hK => cmpK (by rw [hbN]; exact hK))
 refine yaa ?_
 by_cases h2 : op = 2
 ·exact rop_2 h c f L k op a b cc kd n tx l hS hl hc hx hcd hk hs bN hbN hz h2 _ _ ⟨0, ⟨rfl, rfl⟩, rfl, rfl, rfl, rfl, rfl, rfl, rfl, rfl, rfl⟩
 by_cases h3 : op = 3
 ·exact rop_3 h c f L k op a b cc kd n tx l hS hl hc hx hcd hk hs bN hbN hz h3 _ _ ⟨0, ⟨rfl, rfl⟩, rfl, rfl, rfl, rfl, rfl, rfl, rfl, rfl, rfl⟩
 by_cases h4 : op = 4
 ·exact rop_4 h c f L k op a b cc kd n tx l hS hl hc hx hcd hk hs bN hbN hz h4 _ _ ⟨0, ⟨rfl, rfl⟩, rfl, rfl, rfl, rfl, rfl, rfl, rfl, rfl, rfl⟩
 by_cases h5 : op = 5
 ·exact rop_5 h c f L k op a b cc kd n tx l hS hl hc hx hcd hk hs bN hbN hz h5 _ _ ⟨0, ⟨rfl, rfl⟩, rfl, rfl, rfl, rfl, rfl, rfl, rfl, rfl, rfl⟩
 by_cases h6 : op = 6
 ·exact rop_6 h c f L k op a b cc kd n tx l hS hl hc hx hcd hk hs bN hbN hz h6 _ _ ⟨0, ⟨rfl, rfl⟩, rfl, rfl, rfl, rfl, rfl, rfl, rfl, rfl, rfl⟩
 by_cases h7 : op = 7
 ·exact rop_7 h c f L k op a b cc kd n tx l hS hl hc hx hcd hk hs bN hbN hz h7 _ _ ⟨0, ⟨rfl, rfl⟩, rfl, rfl, rfl, rfl, rfl, rfl, rfl, rfl, rfl⟩
 by_cases h8 : op = 8
 ·exact rop_8 h c f L k op a b cc kd n tx l hS hl hc hx hcd hk hs bN hbN hz h8 _ _ ⟨0, ⟨rfl, rfl⟩, rfl, rfl, rfl, rfl, rfl, rfl, rfl, rfl, rfl⟩
 by_cases h9 : op = 9
 ·exact rop_9 h c f L k op a b cc kd n tx l hS hl hc hx hcd hk hs bN hbN hz h9 _ _ ⟨0, ⟨rfl, rfl⟩, rfl, rfl, rfl, rfl, rfl, rfl, rfl, rfl, rfl⟩
 by_cases h10 : op = 10
 ·exact rop_10 h c f L k op a b cc kd n tx l hS hl hc hx hcd hk hs bN hbN hz h10 _ _ ⟨0, ⟨rfl, rfl⟩, rfl, rfl, rfl, rfl, rfl, rfl, rfl, rfl, rfl⟩
 by_cases h11 : op = 11
 ·exact rop_11 h c f L k op a b cc kd n tx l hS hl hc hx hcd hk hs bN hbN hz h11 _ _ ⟨0, ⟨rfl, rfl⟩, rfl, rfl, rfl, rfl, rfl, rfl, rfl, rfl, rfl⟩
 by_cases h12 : op = 12
 ·exact rop_12 h c f L k op a b cc kd n tx l hS hl hc hx hcd hk hs bN hbN hz h12 _ _ ⟨0, ⟨rfl, rfl⟩, rfl, rfl, rfl, rfl, rfl, rfl, rfl, rfl, rfl⟩
 by_cases h13 : op = 13
 ·exact rop_13 h c f L k op a b cc kd n tx l hS hl hc hx hcd hk hs bN hbN hz h13 _ _ ⟨0, ⟨rfl, rfl⟩, rfl, rfl, rfl, rfl, rfl, rfl, rfl, rfl, rfl⟩
 by_cases h14 : op = 14
 ·exact rop_14 h c f L k op a b cc kd n tx l hS hl hc hx hcd hk hs bN hbN hz h14 _ _ ⟨0, ⟨rfl, rfl⟩, rfl, rfl, rfl, rfl, rfl, rfl, rfl, rfl, rfl⟩
 exact rop_0 h c f L k op a b cc kd n tx l hS hl hc hx hcd hk hs bN hbN (by omega) _ _ ⟨0, ⟨rfl, rfl⟩, rfl, rfl, rfl, rfl, rfl, rfl, rfl, rfl, rfl⟩
end Go.Proofs.YtekmafoicobphaaGreatDoor
