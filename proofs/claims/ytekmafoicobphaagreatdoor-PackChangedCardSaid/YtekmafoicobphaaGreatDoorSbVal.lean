/- Quotes: the program's and the reference's. -/
import Derived.Test.YtekmafoicobphaaGreatDoorSbLex3
import Derived.Test.YtekmafoicobphaaGreatDoorSbOwnE
set_option linter.unusedVariables false
set_option linter.unusedSimpArgs false
namespace Go.Proofs.YtekmafoicobphaaGreatDoor
open Go.Sb
set_option maxRecDepth 100000
theorem yqy (h : Heap) (s o n : List UInt8) (h1 : s.length ≤ 1000000 ∧ 1 ≤ o.length ∧ o.length ≤ 1000 ∧ n.length ≤ 1000) : Has envQ .own 130 [.str s, .str o, .str n] h (.val (.str (Lib.replaceAll s o n)) h) :=
 Has.told (E := envQ) (a := [.str s, .str o, .str n]) (p := yia) rfl rfl (by simp only [yia]; rw [if_pos h1]) rfl
theorem yqz (c : UInt8) (new u : List UInt8) (hn : new ≠ [c]) (h2 : 1 ≤ new.length ∧ new.length ≤ 2) : (Lib.replaceAll u [c] new).length ≤ 2 * u.length := by
 rw [Lex.replaceAll_one c new u hn]
 clear hn
 induction u with
 | nil => simp
 | cons d u ih =>
  rw [List.flatMap_cons, List.length_append, List.length_cons]
  have : (Lex.rep1 c new d).length ≤ 2 := by
   unfold Lex.rep1
   split
   ·exact h2.2
   ·simp
  omega
def yga (u : List UInt8) : V := if Lex.isText u = true then .tup [.str (Lex.quote u), .int .i64 0] else .tup [.str [], .int .i64 2]
theorem yws (h : Heap) (u : List UInt8) (hu : u.length ≤ 9223372036854775807) : Has envQ .own 109 [.str u] h (.val (yga u) h) := by
 refine HasP.own (a := [.str u]) (d := fn109) rfl rfl rfl (jT rfl) ?_
 refine jV ?_
 have ht := ywk [] u hu
 cases hT : Lex.isText u
 ·rw [hT] at ht
  refine CallK.of ht ?_
  refine jV ?_
  exact ⟨rfl, by unfold yga; rw [hT]; rfl, rfl⟩
 ·rw [hT] at ht
  have hlen : u.length ≤ 60 := by unfold Lex.isText at hT; simp at hT; exact hT.2
  refine CallK.of ht ?_
  refine jV ?_
  have h1 := yqz 92 [92, 92] u (by decide) (by decide)
  refine CallK.of (yqy _ u [92] [92, 92] ⟨by omega, by decide, by decide, by decide⟩) ?_
  refine CallK.of (yqy _ _ [34] [92, 34] ⟨by omega, by decide, by decide, by decide⟩) ?_
  have h2 := yqz 34 [92, 34] (Lib.replaceAll u [92] [92, 92]) (by decide) (by decide)
  have hq := Lex.quote_two u
  rw [hq] at h2 ⊢
  refine jI (by simp only [List.length_cons, List.length_append, List.length_nil]; omega) ?_
  refine jI (by simp only [List.length_cons, List.length_append, List.length_nil]; omega) ?_
  refine jV ?_
  exact ⟨rfl, by unfold yga; rw [hT]; rfl, rfl⟩
end Go.Proofs.YtekmafoicobphaaGreatDoor

/- Values and faults: whether they are valid; the program's word and the reference's. -/

namespace Go.Proofs.YtekmafoicobphaaGreatDoor
open Go.Sb
set_option maxRecDepth 100000
def textI (s : List UInt8) : Int := if Lex.isText s = true then 1 else 0
def ybm (k n : Int) (s : List UInt8) : Prop :=
 (k = 0 ∧ n = 0 ∧ s.length = 0) ∨ (k = 1 ∧ s.length = 0 ∧ -1000000000000 ≤ n ∧ n ≤ 1000000000000) ∨ (k = 2 ∧ s.length = 0 ∧ (n = 0 ∨ n = 1)) ∨ (k = 3 ∧ n = 0 ∧ textI s = 1) ∨ (4 ≤ k ∧ k ≤ 6 ∧ s.length = 0 ∧ 1 ≤ n ∧ n ≤ 1000000000000)
instance (k n : Int) (s : List UInt8) : Decidable (ybm k n s) := by unfold ybm; infer_instance
def FaultP (k : Int) (s : List UInt8) : Prop := ((k = 0 ∨ k = 2) ∧ s.length = 0) ∨ (k = 1 ∧ textI s = 1)
instance (k : Int) (s : List UInt8) : Decidable (FaultP k s) := by unfold FaultP; infer_instance
theorem vY {P : Prop} [Decidable P] (h : P) : V.bool true = .bool (decide P) := by rw [decide_eq_true h]
theorem vN {P : Prop} [Decidable P] (h : ¬ P) : V.bool false = .bool (decide P) := by rw [decide_eq_false h]
theorem vT {P : Prop} [Decidable P] {b : Bool} (h : b = true ↔ P) : V.bool b = .bool (decide P) := by
 cases b with
 | true => exact vY (h.1 rfl)
 | false => exact vN fun q => by cases h.2 q
theorem lenz {s : List UInt8} (h : s = []) : s.length = 0 := by rw [h]; rfl
theorem lenn {s : List UInt8} (h : s ≠ []) : ¬ s.length = 0 := fun q => h (List.length_eq_zero_iff.1 q)
theorem textI_iff {s : List UInt8} : textI s = 1 ↔ Lex.isText s = true := by
 unfold textI; cases Lex.isText s <;> simp
theorem eqV (k n k' n' : Int) (s s' : List UInt8) : evBin envQ .eql 65 (.agg [.int .i64 k, .int .i64 n, .str s]) (.agg [.int .i64 k', .int .i64 n', .str s']) = some (.bool (k == k' && n == n' && s == s')) := by
 show (((some (k == k')).bind fun r => if r = true then ((some (n == n')).bind fun r => if r = true then ((some (s == s')).bind fun r => if r = true then some true else some false) else some false) else some false).map fun r => V.bool r) = _
 cases k == k' <;> cases n == n' <;> cases s == s' <;> rfl
theorem neV (k n k' n' : Int) (s s' : List UInt8) : evBin envQ .neq 65 (.agg [.int .i64 k, .int .i64 n, .str s]) (.agg [.int .i64 k', .int .i64 n', .str s']) = some (.bool !(k == k' && n == n' && s == s')) := by
 show (((some (k == k')).bind fun r => if r = true then ((some (n == n')).bind fun r => if r = true then ((some (s == s')).bind fun r => if r = true then some true else some false) else some false) else some false).map fun r => V.bool !r) = _
 cases k == k' <;> cases n == n' <;> cases s == s' <;> rfl
theorem ywt {u : List UInt8} (h : Lex.isText u = true) : yga u = .tup [.str (Lex.quote u), .int .i64 0] := by unfold yga; rw [h]; rfl
theorem ywu {u : List UInt8} (h : Lex.isText u = false) : yga u = .tup [.str [], .int .i64 2] := by unfold yga; rw [h]; rfl
theorem ywv (h : Heap) (u : List UInt8) (hu : u.length ≤ 9223372036854775807) : Has envQ .own 127 [.str u] h (.val (.bool (Lex.isText u)) h) := by
 refine HasP.own (a := [.str u]) (d := fn127) rfl rfl rfl (jT rfl) ?_
 refine jV ?_
 have hq := fun g => yws g u hu
 cases ht : Lex.isText u
 ·simp only [ywu ht] at hq
  refine CallK.of (hq _) ?_
  refine jV ?_
  refine jN (by decide) (fun _ => ?_)
  refine jV ?_
  exact ⟨rfl, rfl, rfl⟩
 ·simp only [ywt ht] at hq
  refine CallK.of (hq _) ?_
  refine jV ?_
  refine jI (fun _ => ?_) (fun w => absurd rfl w)
  refine jV ?_
  exact ⟨rfl, rfl, rfl⟩
set_option maxHeartbeats 8000000 in
theorem yww (h : Heap) (k n : Int) (s : List UInt8) (hs : s.length ≤ 9223372036854775807) : Has envQ .own 107 [.agg [.int .i64 k, .int .i64 n, .str s]] h (.val (.bool (decide (ybm k n s))) h) := by
 suffices hx : ∃ v, Has envQ .own 107 [.agg [.int .i64 k, .int .i64 n, .str s]] h (.val v h) ∧ v = .bool (decide (ybm k n s)) by
  obtain ⟨v, h1, rfl⟩ := hx; exact h1
 refine HasP.ownE (a := [.agg [.int .i64 k, .int .i64 n, .str s]]) (d := fn107) rfl rfl rfl (jT rfl) ?_
 refine jV ?_
 refine jI (fun k0 => ?_) (fun k0 => ?_)
 ·repeat first|apply jZ|apply jA|apply jB|apply jH
  refine yab (eqV k n 0 0 s []) ?_
  refine jV ?_
  refine ⟨rfl, _, rfl, rfl, vT ?_⟩
  unfold ybm
  simp only [Bool.and_eq_true, beq_iff_eq]
  rw [← List.length_eq_zero_iff]
  omega
 ·repeat first|apply jZ|apply jA|apply jB|apply jH
  refine jI (fun k1 => ?_) (fun k1 => ?_)
  ·repeat first|apply jZ|apply jA|apply jB|apply jH
   refine jI (fun a3 => ?_) (fun a3 => ?_)
   ·skip
    have b3 := lenz a3
    refine jI (fun a2 => ?_) (fun a2 => ?_)
    ·skip
     refine jI (fun a1 => ?_) (fun a1 => ?_)
     ·skip
      refine jV ?_
      exact ⟨rfl, _, rfl, rfl, vY (by unfold ybm; first | omega | (rw [hT]; omega))⟩
     ·skip
      refine jV ?_
      exact ⟨rfl, _, rfl, rfl, vN (by unfold ybm; first | omega | (rw [hT]; omega))⟩
    ·skip
     refine jV ?_
     exact ⟨rfl, _, rfl, rfl, vN (by unfold ybm; first | omega | (rw [hT]; omega))⟩
   ·skip
    have b3 := lenn a3
    refine jV ?_
    exact ⟨rfl, _, rfl, rfl, vN (by unfold ybm; first | omega | (rw [hT]; omega))⟩
  ·repeat first|apply jZ|apply jA|apply jB|apply jH
   refine jI (fun k2 => ?_) (fun k2 => ?_)
   ·repeat first|apply jZ|apply jA|apply jB|apply jH
    refine jI (fun a3 => ?_) (fun a3 => ?_)
    ·have b3 := lenz a3
     refine jI (fun a2 => ?_) (fun a2 => ?_)
     ·repeat first|apply jZ|apply jA|apply jB|apply jH
      exact ⟨rfl, _, rfl, rfl, vY (by unfold ybm; first | omega | (rw [hT]; omega))⟩
     ·refine jI (fun a1 => ?_) (fun a1 => ?_)
      ·repeat first|apply jZ|apply jA|apply jB|apply jH
       exact ⟨rfl, _, rfl, rfl, vY (by unfold ybm; first | omega | (rw [hT]; omega))⟩
      ·repeat first|apply jZ|apply jA|apply jB|apply jH
       exact ⟨rfl, _, rfl, rfl, vN (by unfold ybm; first | omega | (rw [hT]; omega))⟩
    ·have b3 := lenn a3
     refine jV ?_
     exact ⟨rfl, _, rfl, rfl, vN (by unfold ybm; first | omega | (rw [hT]; omega))⟩
   ·repeat first|apply jZ|apply jA|apply jB|apply jH
    refine jI (fun k3 => ?_) (fun k3 => ?_)
    ·repeat first|apply jZ|apply jA|apply jB|apply jH
     refine jI (fun a2 => ?_) (fun a2 => ?_)
     ·refine CallK.of (ywv _ s hs) ?_
      refine jV ?_
      refine ⟨rfl, _, rfl, rfl, vT (Iff.trans textI_iff.symm ?_)⟩
      unfold ybm
      omega
     ·repeat first|apply jZ|apply jA|apply jB|apply jH
      exact ⟨rfl, _, rfl, rfl, vN (by unfold ybm; first | omega | (rw [hT]; omega))⟩
    ·repeat first|apply jZ|apply jA|apply jB|apply jH
     refine jI (fun k4 => ?_) (fun k4 => ?_)
     ·repeat first|apply jZ|apply jA|apply jB|apply jH
      refine jI (fun a3 => ?_) (fun a3 => ?_)
      ·skip
       have b3 := lenz a3
       refine jI (fun a2 => ?_) (fun a2 => ?_)
       ·skip
        refine jI (fun a1 => ?_) (fun a1 => ?_)
        ·skip
         refine jV ?_
         exact ⟨rfl, _, rfl, rfl, vY (by unfold ybm; first | omega | (rw [hT]; omega))⟩
        ·skip
         refine jV ?_
         exact ⟨rfl, _, rfl, rfl, vN (by unfold ybm; first | omega | (rw [hT]; omega))⟩
       ·skip
        refine jV ?_
        exact ⟨rfl, _, rfl, rfl, vN (by unfold ybm; first | omega | (rw [hT]; omega))⟩
      ·skip
       have b3 := lenn a3
       refine jV ?_
       exact ⟨rfl, _, rfl, rfl, vN (by unfold ybm; first | omega | (rw [hT]; omega))⟩
     ·repeat first|apply jZ|apply jA|apply jB|apply jH
      refine jI (fun k5 => ?_) (fun k5 => ?_)
      ·repeat first|apply jZ|apply jA|apply jB|apply jH
       refine jI (fun a3 => ?_) (fun a3 => ?_)
       ·skip
        have b3 := lenz a3
        refine jI (fun a2 => ?_) (fun a2 => ?_)
        ·skip
         refine jI (fun a1 => ?_) (fun a1 => ?_)
         ·skip
          refine jV ?_
          exact ⟨rfl, _, rfl, rfl, vY (by unfold ybm; first | omega | (rw [hT]; omega))⟩
         ·skip
          refine jV ?_
          exact ⟨rfl, _, rfl, rfl, vN (by unfold ybm; first | omega | (rw [hT]; omega))⟩
        ·skip
         refine jV ?_
         exact ⟨rfl, _, rfl, rfl, vN (by unfold ybm; first | omega | (rw [hT]; omega))⟩
       ·skip
        have b3 := lenn a3
        refine jV ?_
        exact ⟨rfl, _, rfl, rfl, vN (by unfold ybm; first | omega | (rw [hT]; omega))⟩
      ·repeat first|apply jZ|apply jA|apply jB|apply jH
       refine jI (fun k6 => ?_) (fun k6 => ?_)
       ·repeat first|apply jZ|apply jA|apply jB|apply jH
        refine jI (fun a3 => ?_) (fun a3 => ?_)
        ·skip
         have b3 := lenz a3
         refine jI (fun a2 => ?_) (fun a2 => ?_)
         ·skip
          refine jI (fun a1 => ?_) (fun a1 => ?_)
          ·skip
           refine jV ?_
           exact ⟨rfl, _, rfl, rfl, vY (by unfold ybm; first | omega | (rw [hT]; omega))⟩
          ·skip
           refine jV ?_
           exact ⟨rfl, _, rfl, rfl, vN (by unfold ybm; first | omega | (rw [hT]; omega))⟩
         ·skip
          refine jV ?_
          exact ⟨rfl, _, rfl, rfl, vN (by unfold ybm; first | omega | (rw [hT]; omega))⟩
        ·skip
         have b3 := lenn a3
         refine jV ?_
         exact ⟨rfl, _, rfl, rfl, vN (by unfold ybm; first | omega | (rw [hT]; omega))⟩
       ·repeat first|apply jZ|apply jA|apply jB|apply jH
        exact ⟨rfl, _, rfl, rfl, vN (by unfold ybm; first | omega | (rw [hT]; omega))⟩
end Go.Proofs.YtekmafoicobphaaGreatDoor
