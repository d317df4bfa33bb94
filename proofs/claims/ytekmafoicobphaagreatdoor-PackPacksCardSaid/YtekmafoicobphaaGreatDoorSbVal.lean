/- Quotes: the program's and the reference's. -/
import Derived.Test.YtekmafoicobphaaGreatDoorSbLex3
import Derived.Test.YtekmafoicobphaaGreatDoorSbIter
set_option linter.unusedVariables false
set_option linter.unusedSimpArgs false
namespace Go.Proofs.YtekmafoicobphaaGreatDoor
open Go.Sb
set_option maxRecDepth 100000
theorem yqp (h : Heap) (s o n : List UInt8) (h1 : s.length ≤ 1000000 ∧ 1 ≤ o.length ∧ o.length ≤ 1000 ∧ n.length ≤ 1000) : Has envQ .own 130 [.str s, .str o, .str n] h (.val (.str (Lib.replaceAll s o n)) h) :=
 Has.told (E := envQ) (a := [.str s, .str o, .str n]) (p := yid) rfl rfl (by simp only [yid]; rw [if_pos h1]) rfl
theorem yqq (c : UInt8) (new u : List UInt8) (hn : new ≠ [c]) (h2 : 1 ≤ new.length ∧ new.length ≤ 2) : (Lib.replaceAll u [c] new).length ≤ 2 * u.length := by
 rw [Lex.replaceAll_one c new u hn]
 clear hn
 induction u with
 | nil => simp
 | cons d u ih =>
  rw [List.flatMap_cons, List.length_append, List.length_cons]
  have : (Lex.rep1 c new d).length ≤ 2 := by
   unfold Lex.rep1
   split
   ·exact h2.2
   ·simp
  omega
def ygi (u : List UInt8) : V := if Lex.isText u = true then .tup [.str (Lex.quote u), .int .i64 0] else .tup [.str [], .int .i64 2]
theorem yvx (h : Heap) (u : List UInt8) (hu : u.length ≤ 9223372036854775807) : Has envQ .own 109 [.str u] h (.val (ygi u) h) := by
 refine HasP.own (a := [.str u]) (d := fn109) rfl rfl rfl (jT rfl) ?_
 refine jV ?_
 have ht := yvn [] u hu
 cases hT : Lex.isText u
 ·rw [hT] at ht
  refine CallK.of ht ?_
  refine jV ?_
  exact ⟨rfl, by unfold ygi; rw [hT]; rfl, rfl⟩
 ·rw [hT] at ht
  have hlen : u.length ≤ 60 := by unfold Lex.isText at hT; simp at hT; exact hT.2
  refine CallK.of ht ?_
  refine jV ?_
  have h1 := yqq 92 [92, 92] u (by decide) (by decide)
  refine CallK.of (yqp _ u [92] [92, 92] ⟨by omega, by decide, by decide, by decide⟩) ?_
  refine CallK.of (yqp _ _ [34] [92, 34] ⟨by omega, by decide, by decide, by decide⟩) ?_
  have h2 := yqq 34 [92, 34] (Lib.replaceAll u [92] [92, 92]) (by decide) (by decide)
  have hq := Lex.quote_two u
  rw [hq] at h2 ⊢
  refine jI (by simp only [List.length_cons, List.length_append, List.length_nil]; omega) ?_
  refine jI (by simp only [List.length_cons, List.length_append, List.length_nil]; omega) ?_
  refine jV ?_
  exact ⟨rfl, by unfold ygi; rw [hT]; rfl, rfl⟩
end Go.Proofs.YtekmafoicobphaaGreatDoor

/- Values and faults: whether they are valid; the program's word and the reference's. -/

namespace Go.Proofs.YtekmafoicobphaaGreatDoor
open Go.Sb
set_option maxRecDepth 100000
def kvI (kd n : Int) (u : Bs) (k : Nat) (s : List V) (h : Heap) : Prop :=
 ∃ (i : Nat) (z : Int), (i + k = u.length ∧ z = i ∧ h = [.cells 65 [.int .i64 kd, .int .i64 n, .str u]] ∧ (u.take i).all Lex.textByte = true) ∧ s.length = 100 ∧ s.getD 0 und = und ∧ s.getD 2 und = .ptr 0 0 3 ∧ s.getD 3 und = .bool false ∧ s.getD 4 und = .int .i64 z
theorem kvI_lit {kd n : Int} {u : Bs} {k : Nat} {s : List V} {h : Heap} (hI : kvI kd n u k s h) : ∃ (i : Nat) (z : Int) (x : Nat → V), (i + k = u.length ∧ z = i ∧ h = [.cells 65 [.int .i64 kd, .int .i64 n, .str u]] ∧ (u.take i).all Lex.textByte = true) ∧
  s = [und, x 1, .ptr 0 0 3, .bool false, .int .i64 z, x 5, x 6, x 7, x 8, x 9, x 10, x 11, x 12, x 13, x 14, x 15, x 16, x 17, x 18, x 19, x 20, x 21, x 22, x 23, x 24, x 25, x 26, x 27, x 28, x 29, x 30, x 31, x 32, x 33, x 34, x 35, x 36, x 37, x 38, x 39, x 40, x 41, x 42, x 43, x 44, x 45, x 46, x 47, x 48, x 49, x 50, x 51, x 52, x 53, x 54, x 55, x 56, x 57, x 58, x 59, x 60, x 61, x 62, x 63, x 64, x 65, x 66, x 67, x 68, x 69, x 70, x 71, x 72, x 73, x 74, x 75, x 76, x 77, x 78, x 79, x 80, x 81, x 82, x 83, x 84, x 85, x 86, x 87, x 88, x 89, x 90, x 91, x 92, x 93, x 94, x 95, x 96, x 97, x 98, x 99] := by
 obtain ⟨i, z, hF, hl, e0, e2, e3, e4⟩ := hI
 refine ⟨i, z, fun n => s.getD n und, hF, (ybb hl).trans ?_⟩
 simp only [List.range, List.range.loop, List.map_cons, List.map_nil]
 rw [e0, e2, e3, e4]
def textI (s : List UInt8) : Int := if Lex.isText s = true then 1 else 0
def yau (k n : Int) (s : List UInt8) : Prop :=
 (k = 0 ∧ n = 0 ∧ s.length = 0) ∨ (k = 1 ∧ s.length = 0 ∧ -1000000000000 ≤ n ∧ n ≤ 1000000000000) ∨ (k = 2 ∧ s.length = 0 ∧ (n = 0 ∨ n = 1)) ∨ (k = 3 ∧ n = 0 ∧ textI s = 1) ∨ (4 ≤ k ∧ k ≤ 6 ∧ s.length = 0 ∧ 1 ≤ n ∧ n ≤ 1000000000000)
instance (k n : Int) (s : List UInt8) : Decidable (yau k n s) := by unfold yau; infer_instance
def FaultP (k : Int) (s : List UInt8) : Prop := ((k = 0 ∨ k = 2) ∧ s.length = 0) ∨ (k = 1 ∧ textI s = 1)
instance (k : Int) (s : List UInt8) : Decidable (FaultP k s) := by unfold FaultP; infer_instance
theorem vY {P : Prop} [Decidable P] (h : P) : V.bool true = .bool (decide P) := by rw [decide_eq_true h]
theorem vN {P : Prop} [Decidable P] (h : ¬ P) : V.bool false = .bool (decide P) := by rw [decide_eq_false h]
theorem vT {P : Prop} [Decidable P] {b : Bool} (h : b = true ↔ P) : V.bool b = .bool (decide P) := by
 cases b with
 | true => exact vY (h.1 rfl)
 | false => exact vN fun q => by cases h.2 q
theorem lenz {s : List UInt8} (h : s = []) : s.length = 0 := by rw [h]; rfl
theorem lenn {s : List UInt8} (h : s ≠ []) : ¬ s.length = 0 := fun q => h (List.length_eq_zero_iff.1 q)
theorem textI_iff {s : List UInt8} : textI s = 1 ↔ Lex.isText s = true := by
 unfold textI; cases Lex.isText s <;> simp
theorem eqV (k n k' n' : Int) (s s' : List UInt8) : evBin envQ .eql 65 (.agg [.int .i64 k, .int .i64 n, .str s]) (.agg [.int .i64 k', .int .i64 n', .str s']) = some (.bool (k == k' && n == n' && s == s')) := by
 show (((some (k == k')).bind fun r => if r = true then ((some (n == n')).bind fun r => if r = true then ((some (s == s')).bind fun r => if r = true then some true else some false) else some false) else some false).map fun r => V.bool r) = _
 cases k == k' <;> cases n == n' <;> cases s == s' <;> rfl
theorem neV (k n k' n' : Int) (s s' : List UInt8) : evBin envQ .neq 65 (.agg [.int .i64 k, .int .i64 n, .str s]) (.agg [.int .i64 k', .int .i64 n', .str s']) = some (.bool !(k == k' && n == n' && s == s')) := by
 show (((some (k == k')).bind fun r => if r = true then ((some (n == n')).bind fun r => if r = true then ((some (s == s')).bind fun r => if r = true then some true else some false) else some false) else some false).map fun r => V.bool !r) = _
 cases k == k' <;> cases n == n' <;> cases s == s' <;> rfl
theorem yvy {u : List UInt8} (h : Lex.isText u = true) : ygi u = .tup [.str (Lex.quote u), .int .i64 0] := by unfold ygi; rw [h]; rfl
theorem yvz {u : List UInt8} (h : Lex.isText u = false) : ygi u = .tup [.str [], .int .i64 2] := by unfold ygi; rw [h]; rfl
theorem ywa (h : Heap) (u : List UInt8) (hu : u.length ≤ 9223372036854775807) : Has envQ .own 127 [.str u] h (.val (.bool (Lex.isText u)) h) := by
 refine HasP.own (a := [.str u]) (d := fn127) rfl rfl rfl (jT rfl) ?_
 refine jV ?_
 have hq := fun g => yvx g u hu
 cases ht : Lex.isText u
 ·simp only [yvz ht] at hq
  refine CallK.of (hq _) ?_
  refine jV ?_
  refine jN (by decide) (fun _ => ?_)
  refine jV ?_
  exact ⟨rfl, rfl, rfl⟩
 ·simp only [yvy ht] at hq
  refine CallK.of (hq _) ?_
  refine jV ?_
  refine jI (fun _ => ?_) (fun w => absurd rfl w)
  refine jV ?_
  exact ⟨rfl, rfl, rfl⟩
set_option maxHeartbeats 8000000 in
theorem ywb (h : Heap) (k n : Int) (s : List UInt8) (hs : s.length ≤ 9223372036854775807) : Has envQ .own 107 [.agg [.int .i64 k, .int .i64 n, .str s]] h (.val (.bool (decide (yau k n s))) h) := by
 suffices hx : ∃ v, Has envQ .own 107 [.agg [.int .i64 k, .int .i64 n, .str s]] h (.val v h) ∧ v = .bool (decide (yau k n s)) by
  obtain ⟨v, h1, rfl⟩ := hx; exact h1
 refine HasP.ownE (a := [.agg [.int .i64 k, .int .i64 n, .str s]]) (d := fn107) rfl rfl rfl (jT rfl) ?_
 refine jV ?_
 refine jI (fun k0 => ?_) (fun k0 => ?_)
 ·repeat first|apply jZ|apply jA|apply jB|apply jH
  refine yaf (eqV k n 0 0 s []) ?_
  refine jV ?_
  refine ⟨rfl, _, rfl, rfl, vT ?_⟩
  unfold yau
  simp only [Bool.and_eq_true, beq_iff_eq]
  rw [← List.length_eq_zero_iff]
  omega
 ·repeat first|apply jZ|apply jA|apply jB|apply jH
  refine jI (fun k1 => ?_) (fun k1 => ?_)
  ·repeat first|apply jZ|apply jA|apply jB|apply jH
   refine jI (fun a3 => ?_) (fun a3 => ?_)
   ·skip
    have b3 := lenz a3
    refine jI (fun a2 => ?_) (fun a2 => ?_)
    ·skip
     refine jI (fun a1 => ?_) (fun a1 => ?_)
     ·skip
      refine jV ?_
      exact ⟨rfl, _, rfl, rfl, vY (by unfold yau; first | omega | (rw [hT]; omega))⟩
     ·skip
      refine jV ?_
      exact ⟨rfl, _, rfl, rfl, vN (by unfold yau; first | omega | (rw [hT]; omega))⟩
    ·skip
     refine jV ?_
     exact ⟨rfl, _, rfl, rfl, vN (by unfold yau; first | omega | (rw [hT]; omega))⟩
   ·skip
    have b3 := lenn a3
    refine jV ?_
    exact ⟨rfl, _, rfl, rfl, vN (by unfold yau; first | omega | (rw [hT]; omega))⟩
  ·repeat first|apply jZ|apply jA|apply jB|apply jH
   refine jI (fun k2 => ?_) (fun k2 => ?_)
   ·repeat first|apply jZ|apply jA|apply jB|apply jH
    refine jI (fun a3 => ?_) (fun a3 => ?_)
    ·have b3 := lenz a3
     refine jI (fun a2 => ?_) (fun a2 => ?_)
     ·repeat first|apply jZ|apply jA|apply jB|apply jH
      exact ⟨rfl, _, rfl, rfl, vY (by unfold yau; first | omega | (rw [hT]; omega))⟩
     ·refine jI (fun a1 => ?_) (fun a1 => ?_)
      ·repeat first|apply jZ|apply jA|apply jB|apply jH
       exact ⟨rfl, _, rfl, rfl, vY (by unfold yau; first | omega | (rw [hT]; omega))⟩
      ·repeat first|apply jZ|apply jA|apply jB|apply jH
       exact ⟨rfl, _, rfl, rfl, vN (by unfold yau; first | omega | (rw [hT]; omega))⟩
    ·have b3 := lenn a3
     refine jV ?_
     exact ⟨rfl, _, rfl, rfl, vN (by unfold yau; first | omega | (rw [hT]; omega))⟩
   ·repeat first|apply jZ|apply jA|apply jB|apply jH
    refine jI (fun k3 => ?_) (fun k3 => ?_)
    ·repeat first|apply jZ|apply jA|apply jB|apply jH
     refine jI (fun a2 => ?_) (fun a2 => ?_)
     ·refine CallK.of (ywa _ s hs) ?_
      refine jV ?_
      refine ⟨rfl, _, rfl, rfl, vT (Iff.trans textI_iff.symm ?_)⟩
      unfold yau
      omega
     ·repeat first|apply jZ|apply jA|apply jB|apply jH
      exact ⟨rfl, _, rfl, rfl, vN (by unfold yau; first | omega | (rw [hT]; omega))⟩
    ·repeat first|apply jZ|apply jA|apply jB|apply jH
     refine jI (fun k4 => ?_) (fun k4 => ?_)
     ·repeat first|apply jZ|apply jA|apply jB|apply jH
      refine jI (fun a3 => ?_) (fun a3 => ?_)
      ·skip
       have b3 := lenz a3
       refine jI (fun a2 => ?_) (fun a2 => ?_)
       ·skip
        refine jI (fun a1 => ?_) (fun a1 => ?_)
        ·skip
         refine jV ?_
         exact ⟨rfl, _, rfl, rfl, vY (by unfold yau; first | omega | (rw [hT]; omega))⟩
        ·skip
         refine jV ?_
         exact ⟨rfl, _, rfl, rfl, vN (by unfold yau; first | omega | (rw [hT]; omega))⟩
       ·skip
        refine jV ?_
        exact ⟨rfl, _, rfl, rfl, vN (by unfold yau; first | omega | (rw [hT]; omega))⟩
      ·skip
       have b3 := lenn a3
       refine jV ?_
       exact ⟨rfl, _, rfl, rfl, vN (by unfold yau; first | omega | (rw [hT]; omega))⟩
     ·repeat first|apply jZ|apply jA|apply jB|apply jH
      refine jI (fun k5 => ?_) (fun k5 => ?_)
      ·repeat first|apply jZ|apply jA|apply jB|apply jH
       refine jI (fun a3 => ?_) (fun a3 => ?_)
       ·skip
        have b3 := lenz a3
        refine jI (fun a2 => ?_) (fun a2 => ?_)
        ·skip
         refine jI (fun a1 => ?_) (fun a1 => ?_)
         ·skip
          refine jV ?_
          exact ⟨rfl, _, rfl, rfl, vY (by unfold yau; first | omega | (rw [hT]; omega))⟩
         ·skip
          refine jV ?_
          exact ⟨rfl, _, rfl, rfl, vN (by unfold yau; first | omega | (rw [hT]; omega))⟩
        ·skip
         refine jV ?_
         exact ⟨rfl, _, rfl, rfl, vN (by unfold yau; first | omega | (rw [hT]; omega))⟩
       ·skip
        have b3 := lenn a3
        refine jV ?_
        exact ⟨rfl, _, rfl, rfl, vN (by unfold yau; first | omega | (rw [hT]; omega))⟩
      ·repeat first|apply jZ|apply jA|apply jB|apply jH
       refine jI (fun k6 => ?_) (fun k6 => ?_)
       ·repeat first|apply jZ|apply jA|apply jB|apply jH
        refine jI (fun a3 => ?_) (fun a3 => ?_)
        ·skip
         have b3 := lenz a3
         refine jI (fun a2 => ?_) (fun a2 => ?_)
         ·skip
          refine jI (fun a1 => ?_) (fun a1 => ?_)
          ·skip
           refine jV ?_
           exact ⟨rfl, _, rfl, rfl, vY (by unfold yau; first | omega | (rw [hT]; omega))⟩
          ·skip
           refine jV ?_
           exact ⟨rfl, _, rfl, rfl, vN (by unfold yau; first | omega | (rw [hT]; omega))⟩
         ·skip
          refine jV ?_
          exact ⟨rfl, _, rfl, rfl, vN (by unfold yau; first | omega | (rw [hT]; omega))⟩
        ·skip
         have b3 := lenn a3
         refine jV ?_
         exact ⟨rfl, _, rfl, rfl, vN (by unfold yau; first | omega | (rw [hT]; omega))⟩
       ·repeat first|apply jZ|apply jA|apply jB|apply jH
        exact ⟨rfl, _, rfl, rfl, vN (by unfold yau; first | omega | (rw [hT]; omega))⟩
set_option maxHeartbeats 8000000 in
theorem ywc (h : Heap) (k n : Int) (s : List UInt8) (hs : s.length ≤ 9223372036854775807) : Has envQ .own 71 [.agg [.int .i64 k, .int .i64 n, .str s]] h (.val (.bool (decide (yau k n s))) h) := by
 suffices hx : ∃ v, Has envQ .own 71 [.agg [.int .i64 k, .int .i64 n, .str s]] h (.val v h) ∧ v = .bool (decide (yau k n s)) by
  obtain ⟨v, h1, rfl⟩ := hx; exact h1
 refine HasP.ownE (a := [.agg [.int .i64 k, .int .i64 n, .str s]]) (d := fn71) rfl rfl rfl (jT rfl) ?_
 refine jV ?_
 refine jI (fun k0 => ?_) (fun k0 => ?_)
 ·repeat first|apply jZ|apply jA|apply jB|apply jH
  refine jI (fun a2 => ?_) (fun a2 => ?_)
  ·skip
   refine jI (fun a1 => ?_) (fun a1 => ?_)
   ·skip
    have b1 := lenz a1
    refine jV ?_
    exact ⟨rfl, _, rfl, rfl, vY (by unfold yau; first | omega | (rw [hT]; omega))⟩
   ·skip
    have b1 := lenn a1
    refine jV ?_
    exact ⟨rfl, _, rfl, rfl, vN (by unfold yau; first | omega | (rw [hT]; omega))⟩
  ·skip
   refine jV ?_
   exact ⟨rfl, _, rfl, rfl, vN (by unfold yau; first | omega | (rw [hT]; omega))⟩
 ·repeat first|apply jZ|apply jA|apply jB|apply jH
  refine jI (fun k1 => ?_) (fun k1 => ?_)
  ·repeat first|apply jZ|apply jA|apply jB|apply jH
   refine jI (fun a3 => ?_) (fun a3 => ?_)
   ·skip
    refine jI (fun a2 => ?_) (fun a2 => ?_)
    ·skip
     refine jI (fun a1 => ?_) (fun a1 => ?_)
     ·skip
      have b1 := lenz a1
      refine jV ?_
      exact ⟨rfl, _, rfl, rfl, vY (by unfold yau; first | omega | (rw [hT]; omega))⟩
     ·skip
      have b1 := lenn a1
      refine jV ?_
      exact ⟨rfl, _, rfl, rfl, vN (by unfold yau; first | omega | (rw [hT]; omega))⟩
    ·skip
     refine jV ?_
     exact ⟨rfl, _, rfl, rfl, vN (by unfold yau; first | omega | (rw [hT]; omega))⟩
   ·skip
    refine jV ?_
    exact ⟨rfl, _, rfl, rfl, vN (by unfold yau; first | omega | (rw [hT]; omega))⟩
  ·repeat first|apply jZ|apply jA|apply jB|apply jH
   refine jI (fun k2 => ?_) (fun k2 => ?_)
   ·repeat first|apply jZ|apply jA|apply jB|apply jH
    refine jI (fun a3 => ?_) (fun a3 => ?_)
    ·skip
     refine jI (fun a1 => ?_) (fun a1 => ?_)
     ·skip
      have b1 := lenz a1
      refine jV ?_
      exact ⟨rfl, _, rfl, rfl, vY (by unfold yau; first | omega | (rw [hT]; omega))⟩
     ·skip
      have b1 := lenn a1
      refine jV ?_
      exact ⟨rfl, _, rfl, rfl, vN (by unfold yau; first | omega | (rw [hT]; omega))⟩
    ·refine jI (fun a4 => ?_) (fun a4 => ?_)
     ·skip
      refine jI (fun a1 => ?_) (fun a1 => ?_)
      ·skip
       have b1 := lenz a1
       refine jV ?_
       exact ⟨rfl, _, rfl, rfl, vY (by unfold yau; first | omega | (rw [hT]; omega))⟩
      ·skip
       have b1 := lenn a1
       refine jV ?_
       exact ⟨rfl, _, rfl, rfl, vN (by unfold yau; first | omega | (rw [hT]; omega))⟩
     ·repeat first|apply jZ|apply jA|apply jB|apply jH
      exact ⟨rfl, _, rfl, rfl, vN (by unfold yau; first | omega | (rw [hT]; omega))⟩
   ·repeat first|apply jZ|apply jA|apply jB|apply jH
    refine jI (fun k3 => ?_) (fun k3 => ?_)
    ·repeat first|apply jZ|apply jA|apply jB|apply jH
     refine RunP.loop (kvI k n s) ?_ s.length ⟨0, _, ⟨by omega, rfl, rfl, by simp⟩, rfl, rfl, rfl, rfl, rfl⟩
     intro j st g hI
     obtain ⟨i, z, x, ⟨hik, hz, rfl, hall⟩, rfl⟩ := kvI_lit hI
     clear hI
     subst hz
     refine jV ?_
     refine jI (fun hlt => ?_) (fun hge => ?_)
     ·have hi : i < s.length := by omega
      obtain ⟨c, hc⟩ : ∃ c, s[i]? = some c := ⟨_, List.getElem?_eq_getElem hi⟩
      have hcl : c.toNat < 256 := c.toNat_lt
      have hno : Lex.textByte c = false → textI s ≠ 1 := fun hb => by
       rw [Ne, textI_iff]; unfold Lex.isText; rw [ykk hc hb]; simp
      refine jV ?_
      refine jI (by omega) (Exists.intro c (jI hc ?_))
      refine jI (fun h1 => ?_) (fun h1 => ?_)
      ·have h2 := hno (by simp [Lex.textByte]; omega)
       refine jV ?_
       exact ⟨rfl, _, rfl, rfl, vN (by unfold yau; first | omega | (rw [hT]; omega))⟩
      ·repeat first|apply jZ|apply jA|apply jB|apply jH
       refine jI (by omega) (Exists.intro c (jI hc ?_))
       refine jI (fun h2 => ?_) (fun h2 => ?_)
       ·have h3 := hno (by simp [Lex.textByte]; omega)
        refine jV ?_
        exact ⟨rfl, _, rfl, rfl, vN (by unfold yau; first | omega | (rw [hT]; omega))⟩
       ·repeat first|apply jZ|apply jA|apply jB|apply jH
        exact ⟨j - 1, by omega, i + 1, _, ⟨by omega, wrapB (by omega), rfl, yqm hc hall (by simp [Lex.textByte]; omega)⟩, rfl, rfl, rfl, rfl, rfl⟩
     ·have hi : i = s.length := by omega
      rw [hi, List.take_length] at hall
      have ht : textI s = 1 ↔ s.length ≤ 60 := by
       rw [textI_iff]; unfold Lex.isText; rw [hall]; simp
      refine jV ?_
      refine jI (fun a2 => ?_) (fun a2 => ?_)
      ·refine jI (fun a1 => ?_) (fun a1 => ?_)
       ·repeat first|apply jZ|apply jA|apply jB|apply jH
        exact ⟨rfl, _, rfl, rfl, vY (by unfold yau; first | omega | (rw [hT]; omega))⟩
       ·repeat first|apply jZ|apply jA|apply jB|apply jH
        exact ⟨rfl, _, rfl, rfl, vN (by unfold yau; first | omega | (rw [hT]; omega))⟩
      ·repeat first|apply jZ|apply jA|apply jB|apply jH
       exact ⟨rfl, _, rfl, rfl, vN (by unfold yau; first | omega | (rw [hT]; omega))⟩
    ·repeat first|apply jZ|apply jA|apply jB|apply jH
     refine jI (fun a5 => ?_) (fun a5 => ?_)
     ·skip
      refine jI (fun a4 => ?_) (fun a4 => ?_)
      ·skip
       refine jI (fun a3 => ?_) (fun a3 => ?_)
       ·skip
        refine jI (fun a2 => ?_) (fun a2 => ?_)
        ·skip
         refine jI (fun a1 => ?_) (fun a1 => ?_)
         ·skip
          have b1 := lenz a1
          refine jV ?_
          exact ⟨rfl, _, rfl, rfl, vY (by unfold yau; first | omega | (rw [hT]; omega))⟩
         ·skip
          have b1 := lenn a1
          refine jV ?_
          exact ⟨rfl, _, rfl, rfl, vN (by unfold yau; first | omega | (rw [hT]; omega))⟩
        ·skip
         refine jV ?_
         exact ⟨rfl, _, rfl, rfl, vN (by unfold yau; first | omega | (rw [hT]; omega))⟩
       ·skip
        refine jV ?_
        exact ⟨rfl, _, rfl, rfl, vN (by unfold yau; first | omega | (rw [hT]; omega))⟩
      ·skip
       refine jV ?_
       exact ⟨rfl, _, rfl, rfl, vN (by unfold yau; first | omega | (rw [hT]; omega))⟩
     ·skip
      refine jV ?_
      exact ⟨rfl, _, rfl, rfl, vN (by unfold yau; first | omega | (rw [hT]; omega))⟩
end Go.Proofs.YtekmafoicobphaaGreatDoor
