/- Values and faults: whether they are valid; the program's word and the reference's. -/
import Derived.Test.YtkjhnpmgieplgaaGreatDoorSbQuote
import Derived.Test.YtkjhnpmgieplgaaGreatDoorSbOwnE
set_option linter.unusedVariables false
set_option linter.unusedSimpArgs false
namespace Go.Proofs.YtkjhnpmgieplgaaGreatDoor
open Go.Sb
set_option maxRecDepth 100000
def kvI (kd n : Int) (u : Bs) (k : Nat) (s : List V) (h : Heap) : Prop :=
  ∃ (i : Nat) (z : Int), (i + k = u.length ∧ z = i ∧ h = [.cells 23 [.int .i64 kd, .int .i64 n, .str u]] ∧ (u.take i).all Lex.textByte = true) ∧ s.length = 100 ∧ s.getD 0 und = und ∧ s.getD 2 und = .ptr 0 0 3 ∧ s.getD 3 und = .bool false ∧ s.getD 4 und = .int .i64 z
theorem kvI_lit {kd n : Int} {u : Bs} {k : Nat} {s : List V} {h : Heap} (hI : kvI kd n u k s h) : ∃ (i : Nat) (z : Int) (x : Nat → V), (i + k = u.length ∧ z = i ∧ h = [.cells 23 [.int .i64 kd, .int .i64 n, .str u]] ∧ (u.take i).all Lex.textByte = true) ∧
    s = [und, x 1, .ptr 0 0 3, .bool false, .int .i64 z, x 5, x 6, x 7, x 8, x 9, x 10, x 11, x 12, x 13, x 14, x 15, x 16, x 17, x 18, x 19, x 20, x 21, x 22, x 23, x 24, x 25, x 26, x 27, x 28, x 29, x 30, x 31, x 32, x 33, x 34, x 35, x 36, x 37, x 38, x 39, x 40, x 41, x 42, x 43, x 44, x 45, x 46, x 47, x 48, x 49, x 50, x 51, x 52, x 53, x 54, x 55, x 56, x 57, x 58, x 59, x 60, x 61, x 62, x 63, x 64, x 65, x 66, x 67, x 68, x 69, x 70, x 71, x 72, x 73, x 74, x 75, x 76, x 77, x 78, x 79, x 80, x 81, x 82, x 83, x 84, x 85, x 86, x 87, x 88, x 89, x 90, x 91, x 92, x 93, x 94, x 95, x 96, x 97, x 98, x 99] := by
  obtain ⟨i, z, hF, hl, e0, e2, e3, e4⟩ := hI
  refine ⟨i, z, fun n => s.getD n und, hF, (lit_of hl).trans ?_⟩
  show [s.getD 0 und, s.getD 1 und, s.getD 2 und, s.getD 3 und, s.getD 4 und, s.getD 5 und, s.getD 6 und, s.getD 7 und, s.getD 8 und, s.getD 9 und, s.getD 10 und, s.getD 11 und, s.getD 12 und, s.getD 13 und, s.getD 14 und, s.getD 15 und, s.getD 16 und, s.getD 17 und, s.getD 18 und, s.getD 19 und, s.getD 20 und, s.getD 21 und, s.getD 22 und, s.getD 23 und, s.getD 24 und, s.getD 25 und, s.getD 26 und, s.getD 27 und, s.getD 28 und, s.getD 29 und, s.getD 30 und, s.getD 31 und, s.getD 32 und, s.getD 33 und, s.getD 34 und, s.getD 35 und, s.getD 36 und, s.getD 37 und, s.getD 38 und, s.getD 39 und, s.getD 40 und, s.getD 41 und, s.getD 42 und, s.getD 43 und, s.getD 44 und, s.getD 45 und, s.getD 46 und, s.getD 47 und, s.getD 48 und, s.getD 49 und, s.getD 50 und, s.getD 51 und, s.getD 52 und, s.getD 53 und, s.getD 54 und, s.getD 55 und, s.getD 56 und, s.getD 57 und, s.getD 58 und, s.getD 59 und, s.getD 60 und, s.getD 61 und, s.getD 62 und, s.getD 63 und, s.getD 64 und, s.getD 65 und, s.getD 66 und, s.getD 67 und, s.getD 68 und, s.getD 69 und, s.getD 70 und, s.getD 71 und, s.getD 72 und, s.getD 73 und, s.getD 74 und, s.getD 75 und, s.getD 76 und, s.getD 77 und, s.getD 78 und, s.getD 79 und, s.getD 80 und, s.getD 81 und, s.getD 82 und, s.getD 83 und, s.getD 84 und, s.getD 85 und, s.getD 86 und, s.getD 87 und, s.getD 88 und, s.getD 89 und, s.getD 90 und, s.getD 91 und, s.getD 92 und, s.getD 93 und, s.getD 94 und, s.getD 95 und, s.getD 96 und, s.getD 97 und, s.getD 98 und, s.getD 99 und] = _
  rw [e0, e2, e3, e4]

/-- A text is 1, else 0. -/
def textI (s : List UInt8) : Int := if Lex.isText s = true then 1 else 0
/-- Which values are valid. -/
def ValidP (k n : Int) (s : List UInt8) : Prop :=
  (k = 0 ∧ n = 0 ∧ s.length = 0) ∨ (k = 1 ∧ s.length = 0 ∧ -1000000000000 ≤ n ∧ n ≤ 1000000000000) ∨ (k = 2 ∧ s.length = 0 ∧ (n = 0 ∨ n = 1)) ∨ (k = 3 ∧ n = 0 ∧ textI s = 1) ∨ (4 ≤ k ∧ k ≤ 6 ∧ s.length = 0 ∧ 1 ≤ n ∧ n ≤ 1000000000000)
instance (k n : Int) (s : List UInt8) : Decidable (ValidP k n s) := by unfold ValidP; infer_instance
def FaultP (k : Int) (s : List UInt8) : Prop := ((k = 0 ∨ k = 2) ∧ s.length = 0) ∨ (k = 1 ∧ textI s = 1)
instance (k : Int) (s : List UInt8) : Decidable (FaultP k s) := by unfold FaultP; infer_instance
theorem vY {P : Prop} [Decidable P] (h : P) : V.bool true = .bool (decide P) := by rw [decide_eq_true h]
theorem vN {P : Prop} [Decidable P] (h : ¬ P) : V.bool false = .bool (decide P) := by rw [decide_eq_false h]
theorem vT {P : Prop} [Decidable P] {b : Bool} (h : b = true ↔ P) : V.bool b = .bool (decide P) := by
  cases b with
  | true => exact vY (h.1 rfl)
  | false => exact vN fun q => by cases h.2 q
theorem lenz {s : List UInt8} (h : s = []) : s.length = 0 := by rw [h]; rfl
theorem lenn {s : List UInt8} (h : s ≠ []) : ¬ s.length = 0 := fun q => h (List.length_eq_zero_iff.1 q)
theorem textI_iff {s : List UInt8} : textI s = 1 ↔ Lex.isText s = true := by
  unfold textI; cases Lex.isText s <;> simp
theorem eqV (k n k' n' : Int) (s s' : List UInt8) : evBin envQ .eql 23 (.agg [.int .i64 k, .int .i64 n, .str s]) (.agg [.int .i64 k', .int .i64 n', .str s']) = some (.bool (k == k' && n == n' && s == s')) := by
  show (((some (k == k')).bind fun r => if r = true then ((some (n == n')).bind fun r => if r = true then ((some (s == s')).bind fun r => if r = true then some true else some false) else some false) else some false).map fun r => V.bool r) = _
  cases k == k' <;> cases n == n' <;> cases s == s' <;> rfl
theorem quoteV_yes {u : List UInt8} (h : Lex.isText u = true) : quoteV u = .tup [.str (Lex.quote u), .int .i64 0] := by unfold quoteV; rw [h]; rfl
theorem quoteV_no {u : List UInt8} (h : Lex.isText u = false) : quoteV u = .tup [.str [], .int .i64 2] := by unfold quoteV; rw [h]; rfl
theorem evText_has (h : Heap) (u : List UInt8) (hu : u.length ≤ 9223372036854775807) : Has envQ .own 55 [.str u] h (.val (.bool (Lex.isText u)) h) := by
  refine HasP.own (a := [.str u]) (d := fn55) rfl rfl rfl (of_decide_eq_true rfl) ?_
  repeat (first | apply RunP.seq | apply RunP.region | apply RunP.condT rfl | apply RunP.condF rfl | apply RunP.skip | apply RunP.block | apply RunP.exit | apply RunP.ret)
  have hq := fun g => Quote_has g u hu
  cases ht : Lex.isText u
  · simp only [quoteV_no ht] at hq
    refine CallK.of (hq _) ?_
    repeat (first | apply RunP.seq | apply RunP.region | apply RunP.condT rfl | apply RunP.condF rfl | apply RunP.skip | apply RunP.block | apply RunP.exit | apply RunP.ret)
    refine And.intro (fun w => absurd w (by decide)) (fun _ => ?_)
    repeat (first | apply RunP.seq | apply RunP.region | apply RunP.condT rfl | apply RunP.condF rfl | apply RunP.skip | apply RunP.block | apply RunP.exit | apply RunP.ret)
    exact ⟨rfl, rfl, rfl⟩
  · simp only [quoteV_yes ht] at hq
    refine CallK.of (hq _) ?_
    repeat (first | apply RunP.seq | apply RunP.region | apply RunP.condT rfl | apply RunP.condF rfl | apply RunP.skip | apply RunP.block | apply RunP.exit | apply RunP.ret)
    refine And.intro (fun _ => ?_) (fun w => absurd rfl w)
    repeat (first | apply RunP.seq | apply RunP.region | apply RunP.condT rfl | apply RunP.condF rfl | apply RunP.skip | apply RunP.block | apply RunP.exit | apply RunP.ret)
    exact ⟨rfl, rfl, rfl⟩
set_option maxHeartbeats 8000000 in
theorem evValid_has (h : Heap) (k n : Int) (s : List UInt8) (hs : s.length ≤ 9223372036854775807) : Has envQ .own 21 [.agg [.int .i64 k, .int .i64 n, .str s]] h (.val (.bool (decide (ValidP k n s))) h) := by
  suffices hx : ∃ v, Has envQ .own 21 [.agg [.int .i64 k, .int .i64 n, .str s]] h (.val v h) ∧ v = .bool (decide (ValidP k n s)) by
    obtain ⟨v, h1, rfl⟩ := hx; exact h1
  refine HasP.ownE (a := [.agg [.int .i64 k, .int .i64 n, .str s]]) (d := fn21) rfl rfl rfl (of_decide_eq_true rfl) ?_
  repeat (first | apply RunP.seq | apply RunP.region | apply RunP.condT rfl | apply RunP.condF rfl | apply RunP.skip | apply RunP.block | apply RunP.exit | apply RunP.ret)
  refine And.intro (fun k0 => ?_) (fun k0 => ?_)
  · repeat (first | apply RunP.seq | apply RunP.region | apply RunP.condT rfl | apply RunP.condF rfl | apply RunP.skip | apply RunP.block | apply RunP.exit | apply RunP.ret)
    refine bindK_of (eqV k n 0 0 s []) ?_
    repeat (first | apply RunP.seq | apply RunP.region | apply RunP.condT rfl | apply RunP.condF rfl | apply RunP.skip | apply RunP.block | apply RunP.exit | apply RunP.ret)
    refine ⟨rfl, _, rfl, rfl, vT ?_⟩
    unfold ValidP
    simp only [Bool.and_eq_true, beq_iff_eq]
    rw [← List.length_eq_zero_iff]
    omega
  · repeat (first | apply RunP.seq | apply RunP.region | apply RunP.condT rfl | apply RunP.condF rfl | apply RunP.skip | apply RunP.block | apply RunP.exit | apply RunP.ret)
    refine And.intro (fun k1 => ?_) (fun k1 => ?_)
    · repeat (first | apply RunP.seq | apply RunP.region | apply RunP.condT rfl | apply RunP.condF rfl | apply RunP.skip | apply RunP.block | apply RunP.exit | apply RunP.ret)
      refine And.intro (fun a3 => ?_) (fun a3 => ?_)
      · skip
        have b3 := lenz a3
        refine And.intro (fun a2 => ?_) (fun a2 => ?_)
        · skip
          refine And.intro (fun a1 => ?_) (fun a1 => ?_)
          · skip
            repeat (first | apply RunP.seq | apply RunP.region | apply RunP.condT rfl | apply RunP.condF rfl | apply RunP.skip | apply RunP.block | apply RunP.exit | apply RunP.ret)
            exact ⟨rfl, _, rfl, rfl, vY (by unfold ValidP; first | omega | (rw [hT]; omega))⟩
          · skip
            repeat (first | apply RunP.seq | apply RunP.region | apply RunP.condT rfl | apply RunP.condF rfl | apply RunP.skip | apply RunP.block | apply RunP.exit | apply RunP.ret)
            exact ⟨rfl, _, rfl, rfl, vN (by unfold ValidP; first | omega | (rw [hT]; omega))⟩
        · skip
          repeat (first | apply RunP.seq | apply RunP.region | apply RunP.condT rfl | apply RunP.condF rfl | apply RunP.skip | apply RunP.block | apply RunP.exit | apply RunP.ret)
          exact ⟨rfl, _, rfl, rfl, vN (by unfold ValidP; first | omega | (rw [hT]; omega))⟩
      · skip
        have b3 := lenn a3
        repeat (first | apply RunP.seq | apply RunP.region | apply RunP.condT rfl | apply RunP.condF rfl | apply RunP.skip | apply RunP.block | apply RunP.exit | apply RunP.ret)
        exact ⟨rfl, _, rfl, rfl, vN (by unfold ValidP; first | omega | (rw [hT]; omega))⟩
    · repeat (first | apply RunP.seq | apply RunP.region | apply RunP.condT rfl | apply RunP.condF rfl | apply RunP.skip | apply RunP.block | apply RunP.exit | apply RunP.ret)
      refine And.intro (fun k2 => ?_) (fun k2 => ?_)
      · repeat (first | apply RunP.seq | apply RunP.region | apply RunP.condT rfl | apply RunP.condF rfl | apply RunP.skip | apply RunP.block | apply RunP.exit | apply RunP.ret)
        refine And.intro (fun a3 => ?_) (fun a3 => ?_)
        · have b3 := lenz a3
          refine And.intro (fun a2 => ?_) (fun a2 => ?_)
          · repeat (first | apply RunP.seq | apply RunP.region | apply RunP.condT rfl | apply RunP.condF rfl | apply RunP.skip | apply RunP.block | apply RunP.exit | apply RunP.ret)
            exact ⟨rfl, _, rfl, rfl, vY (by unfold ValidP; first | omega | (rw [hT]; omega))⟩
          · refine And.intro (fun a1 => ?_) (fun a1 => ?_)
            · repeat (first | apply RunP.seq | apply RunP.region | apply RunP.condT rfl | apply RunP.condF rfl | apply RunP.skip | apply RunP.block | apply RunP.exit | apply RunP.ret)
              exact ⟨rfl, _, rfl, rfl, vY (by unfold ValidP; first | omega | (rw [hT]; omega))⟩
            · repeat (first | apply RunP.seq | apply RunP.region | apply RunP.condT rfl | apply RunP.condF rfl | apply RunP.skip | apply RunP.block | apply RunP.exit | apply RunP.ret)
              exact ⟨rfl, _, rfl, rfl, vN (by unfold ValidP; first | omega | (rw [hT]; omega))⟩
        · have b3 := lenn a3
          repeat (first | apply RunP.seq | apply RunP.region | apply RunP.condT rfl | apply RunP.condF rfl | apply RunP.skip | apply RunP.block | apply RunP.exit | apply RunP.ret)
          exact ⟨rfl, _, rfl, rfl, vN (by unfold ValidP; first | omega | (rw [hT]; omega))⟩
      · repeat (first | apply RunP.seq | apply RunP.region | apply RunP.condT rfl | apply RunP.condF rfl | apply RunP.skip | apply RunP.block | apply RunP.exit | apply RunP.ret)
        refine And.intro (fun k3 => ?_) (fun k3 => ?_)
        · repeat (first | apply RunP.seq | apply RunP.region | apply RunP.condT rfl | apply RunP.condF rfl | apply RunP.skip | apply RunP.block | apply RunP.exit | apply RunP.ret)
          refine And.intro (fun a2 => ?_) (fun a2 => ?_)
          · refine CallK.of (evText_has _ s hs) ?_
            repeat (first | apply RunP.seq | apply RunP.region | apply RunP.condT rfl | apply RunP.condF rfl | apply RunP.skip | apply RunP.block | apply RunP.exit | apply RunP.ret)
            refine ⟨rfl, _, rfl, rfl, vT (Iff.trans textI_iff.symm ?_)⟩
            unfold ValidP
            omega
          · repeat (first | apply RunP.seq | apply RunP.region | apply RunP.condT rfl | apply RunP.condF rfl | apply RunP.skip | apply RunP.block | apply RunP.exit | apply RunP.ret)
            exact ⟨rfl, _, rfl, rfl, vN (by unfold ValidP; first | omega | (rw [hT]; omega))⟩
        · repeat (first | apply RunP.seq | apply RunP.region | apply RunP.condT rfl | apply RunP.condF rfl | apply RunP.skip | apply RunP.block | apply RunP.exit | apply RunP.ret)
          refine And.intro (fun k4 => ?_) (fun k4 => ?_)
          · repeat (first | apply RunP.seq | apply RunP.region | apply RunP.condT rfl | apply RunP.condF rfl | apply RunP.skip | apply RunP.block | apply RunP.exit | apply RunP.ret)
            refine And.intro (fun a3 => ?_) (fun a3 => ?_)
            · skip
              have b3 := lenz a3
              refine And.intro (fun a2 => ?_) (fun a2 => ?_)
              · skip
                refine And.intro (fun a1 => ?_) (fun a1 => ?_)
                · skip
                  repeat (first | apply RunP.seq | apply RunP.region | apply RunP.condT rfl | apply RunP.condF rfl | apply RunP.skip | apply RunP.block | apply RunP.exit | apply RunP.ret)
                  exact ⟨rfl, _, rfl, rfl, vY (by unfold ValidP; first | omega | (rw [hT]; omega))⟩
                · skip
                  repeat (first | apply RunP.seq | apply RunP.region | apply RunP.condT rfl | apply RunP.condF rfl | apply RunP.skip | apply RunP.block | apply RunP.exit | apply RunP.ret)
                  exact ⟨rfl, _, rfl, rfl, vN (by unfold ValidP; first | omega | (rw [hT]; omega))⟩
              · skip
                repeat (first | apply RunP.seq | apply RunP.region | apply RunP.condT rfl | apply RunP.condF rfl | apply RunP.skip | apply RunP.block | apply RunP.exit | apply RunP.ret)
                exact ⟨rfl, _, rfl, rfl, vN (by unfold ValidP; first | omega | (rw [hT]; omega))⟩
            · skip
              have b3 := lenn a3
              repeat (first | apply RunP.seq | apply RunP.region | apply RunP.condT rfl | apply RunP.condF rfl | apply RunP.skip | apply RunP.block | apply RunP.exit | apply RunP.ret)
              exact ⟨rfl, _, rfl, rfl, vN (by unfold ValidP; first | omega | (rw [hT]; omega))⟩
          · repeat (first | apply RunP.seq | apply RunP.region | apply RunP.condT rfl | apply RunP.condF rfl | apply RunP.skip | apply RunP.block | apply RunP.exit | apply RunP.ret)
            refine And.intro (fun k5 => ?_) (fun k5 => ?_)
            · repeat (first | apply RunP.seq | apply RunP.region | apply RunP.condT rfl | apply RunP.condF rfl | apply RunP.skip | apply RunP.block | apply RunP.exit | apply RunP.ret)
              refine And.intro (fun a3 => ?_) (fun a3 => ?_)
              · skip
                have b3 := lenz a3
                refine And.intro (fun a2 => ?_) (fun a2 => ?_)
                · skip
                  refine And.intro (fun a1 => ?_) (fun a1 => ?_)
                  · skip
                    repeat (first | apply RunP.seq | apply RunP.region | apply RunP.condT rfl | apply RunP.condF rfl | apply RunP.skip | apply RunP.block | apply RunP.exit | apply RunP.ret)
                    exact ⟨rfl, _, rfl, rfl, vY (by unfold ValidP; first | omega | (rw [hT]; omega))⟩
                  · skip
                    repeat (first | apply RunP.seq | apply RunP.region | apply RunP.condT rfl | apply RunP.condF rfl | apply RunP.skip | apply RunP.block | apply RunP.exit | apply RunP.ret)
                    exact ⟨rfl, _, rfl, rfl, vN (by unfold ValidP; first | omega | (rw [hT]; omega))⟩
                · skip
                  repeat (first | apply RunP.seq | apply RunP.region | apply RunP.condT rfl | apply RunP.condF rfl | apply RunP.skip | apply RunP.block | apply RunP.exit | apply RunP.ret)
                  exact ⟨rfl, _, rfl, rfl, vN (by unfold ValidP; first | omega | (rw [hT]; omega))⟩
              · skip
                have b3 := lenn a3
                repeat (first | apply RunP.seq | apply RunP.region | apply RunP.condT rfl | apply RunP.condF rfl | apply RunP.skip | apply RunP.block | apply RunP.exit | apply RunP.ret)
                exact ⟨rfl, _, rfl, rfl, vN (by unfold ValidP; first | omega | (rw [hT]; omega))⟩
            · repeat (first | apply RunP.seq | apply RunP.region | apply RunP.condT rfl | apply RunP.condF rfl | apply RunP.skip | apply RunP.block | apply RunP.exit | apply RunP.ret)
              refine And.intro (fun k6 => ?_) (fun k6 => ?_)
              · repeat (first | apply RunP.seq | apply RunP.region | apply RunP.condT rfl | apply RunP.condF rfl | apply RunP.skip | apply RunP.block | apply RunP.exit | apply RunP.ret)
                refine And.intro (fun a3 => ?_) (fun a3 => ?_)
                · skip
                  have b3 := lenz a3
                  refine And.intro (fun a2 => ?_) (fun a2 => ?_)
                  · skip
                    refine And.intro (fun a1 => ?_) (fun a1 => ?_)
                    · skip
                      repeat (first | apply RunP.seq | apply RunP.region | apply RunP.condT rfl | apply RunP.condF rfl | apply RunP.skip | apply RunP.block | apply RunP.exit | apply RunP.ret)
                      exact ⟨rfl, _, rfl, rfl, vY (by unfold ValidP; first | omega | (rw [hT]; omega))⟩
                    · skip
                      repeat (first | apply RunP.seq | apply RunP.region | apply RunP.condT rfl | apply RunP.condF rfl | apply RunP.skip | apply RunP.block | apply RunP.exit | apply RunP.ret)
                      exact ⟨rfl, _, rfl, rfl, vN (by unfold ValidP; first | omega | (rw [hT]; omega))⟩
                  · skip
                    repeat (first | apply RunP.seq | apply RunP.region | apply RunP.condT rfl | apply RunP.condF rfl | apply RunP.skip | apply RunP.block | apply RunP.exit | apply RunP.ret)
                    exact ⟨rfl, _, rfl, rfl, vN (by unfold ValidP; first | omega | (rw [hT]; omega))⟩
                · skip
                  have b3 := lenn a3
                  repeat (first | apply RunP.seq | apply RunP.region | apply RunP.condT rfl | apply RunP.condF rfl | apply RunP.skip | apply RunP.block | apply RunP.exit | apply RunP.ret)
                  exact ⟨rfl, _, rfl, rfl, vN (by unfold ValidP; first | omega | (rw [hT]; omega))⟩
              · repeat (first | apply RunP.seq | apply RunP.region | apply RunP.condT rfl | apply RunP.condF rfl | apply RunP.skip | apply RunP.block | apply RunP.exit | apply RunP.ret)
                exact ⟨rfl, _, rfl, rfl, vN (by unfold ValidP; first | omega | (rw [hT]; omega))⟩
set_option maxHeartbeats 8000000 in
theorem refValid_has (h : Heap) (k n : Int) (s : List UInt8) (hs : s.length ≤ 9223372036854775807) : Has envQ .own 16 [.agg [.int .i64 k, .int .i64 n, .str s]] h (.val (.bool (decide (ValidP k n s))) h) := by
  suffices hx : ∃ v, Has envQ .own 16 [.agg [.int .i64 k, .int .i64 n, .str s]] h (.val v h) ∧ v = .bool (decide (ValidP k n s)) by
    obtain ⟨v, h1, rfl⟩ := hx; exact h1
  refine HasP.ownE (a := [.agg [.int .i64 k, .int .i64 n, .str s]]) (d := fn16) rfl rfl rfl (of_decide_eq_true rfl) ?_
  repeat (first | apply RunP.seq | apply RunP.region | apply RunP.condT rfl | apply RunP.condF rfl | apply RunP.skip | apply RunP.block | apply RunP.exit | apply RunP.ret)
  refine And.intro (fun k0 => ?_) (fun k0 => ?_)
  · repeat (first | apply RunP.seq | apply RunP.region | apply RunP.condT rfl | apply RunP.condF rfl | apply RunP.skip | apply RunP.block | apply RunP.exit | apply RunP.ret)
    refine And.intro (fun a2 => ?_) (fun a2 => ?_)
    · skip
      refine And.intro (fun a1 => ?_) (fun a1 => ?_)
      · skip
        have b1 := lenz a1
        repeat (first | apply RunP.seq | apply RunP.region | apply RunP.condT rfl | apply RunP.condF rfl | apply RunP.skip | apply RunP.block | apply RunP.exit | apply RunP.ret)
        exact ⟨rfl, _, rfl, rfl, vY (by unfold ValidP; first | omega | (rw [hT]; omega))⟩
      · skip
        have b1 := lenn a1
        repeat (first | apply RunP.seq | apply RunP.region | apply RunP.condT rfl | apply RunP.condF rfl | apply RunP.skip | apply RunP.block | apply RunP.exit | apply RunP.ret)
        exact ⟨rfl, _, rfl, rfl, vN (by unfold ValidP; first | omega | (rw [hT]; omega))⟩
    · skip
      repeat (first | apply RunP.seq | apply RunP.region | apply RunP.condT rfl | apply RunP.condF rfl | apply RunP.skip | apply RunP.block | apply RunP.exit | apply RunP.ret)
      exact ⟨rfl, _, rfl, rfl, vN (by unfold ValidP; first | omega | (rw [hT]; omega))⟩
  · repeat (first | apply RunP.seq | apply RunP.region | apply RunP.condT rfl | apply RunP.condF rfl | apply RunP.skip | apply RunP.block | apply RunP.exit | apply RunP.ret)
    refine And.intro (fun k1 => ?_) (fun k1 => ?_)
    · repeat (first | apply RunP.seq | apply RunP.region | apply RunP.condT rfl | apply RunP.condF rfl | apply RunP.skip | apply RunP.block | apply RunP.exit | apply RunP.ret)
      refine And.intro (fun a3 => ?_) (fun a3 => ?_)
      · skip
        refine And.intro (fun a2 => ?_) (fun a2 => ?_)
        · skip
          refine And.intro (fun a1 => ?_) (fun a1 => ?_)
          · skip
            have b1 := lenz a1
            repeat (first | apply RunP.seq | apply RunP.region | apply RunP.condT rfl | apply RunP.condF rfl | apply RunP.skip | apply RunP.block | apply RunP.exit | apply RunP.ret)
            exact ⟨rfl, _, rfl, rfl, vY (by unfold ValidP; first | omega | (rw [hT]; omega))⟩
          · skip
            have b1 := lenn a1
            repeat (first | apply RunP.seq | apply RunP.region | apply RunP.condT rfl | apply RunP.condF rfl | apply RunP.skip | apply RunP.block | apply RunP.exit | apply RunP.ret)
            exact ⟨rfl, _, rfl, rfl, vN (by unfold ValidP; first | omega | (rw [hT]; omega))⟩
        · skip
          repeat (first | apply RunP.seq | apply RunP.region | apply RunP.condT rfl | apply RunP.condF rfl | apply RunP.skip | apply RunP.block | apply RunP.exit | apply RunP.ret)
          exact ⟨rfl, _, rfl, rfl, vN (by unfold ValidP; first | omega | (rw [hT]; omega))⟩
      · skip
        repeat (first | apply RunP.seq | apply RunP.region | apply RunP.condT rfl | apply RunP.condF rfl | apply RunP.skip | apply RunP.block | apply RunP.exit | apply RunP.ret)
        exact ⟨rfl, _, rfl, rfl, vN (by unfold ValidP; first | omega | (rw [hT]; omega))⟩
    · repeat (first | apply RunP.seq | apply RunP.region | apply RunP.condT rfl | apply RunP.condF rfl | apply RunP.skip | apply RunP.block | apply RunP.exit | apply RunP.ret)
      refine And.intro (fun k2 => ?_) (fun k2 => ?_)
      · repeat (first | apply RunP.seq | apply RunP.region | apply RunP.condT rfl | apply RunP.condF rfl | apply RunP.skip | apply RunP.block | apply RunP.exit | apply RunP.ret)
        refine And.intro (fun a3 => ?_) (fun a3 => ?_)
        · skip
          refine And.intro (fun a1 => ?_) (fun a1 => ?_)
          · skip
            have b1 := lenz a1
            repeat (first | apply RunP.seq | apply RunP.region | apply RunP.condT rfl | apply RunP.condF rfl | apply RunP.skip | apply RunP.block | apply RunP.exit | apply RunP.ret)
            exact ⟨rfl, _, rfl, rfl, vY (by unfold ValidP; first | omega | (rw [hT]; omega))⟩
          · skip
            have b1 := lenn a1
            repeat (first | apply RunP.seq | apply RunP.region | apply RunP.condT rfl | apply RunP.condF rfl | apply RunP.skip | apply RunP.block | apply RunP.exit | apply RunP.ret)
            exact ⟨rfl, _, rfl, rfl, vN (by unfold ValidP; first | omega | (rw [hT]; omega))⟩
        · refine And.intro (fun a4 => ?_) (fun a4 => ?_)
          · skip
            refine And.intro (fun a1 => ?_) (fun a1 => ?_)
            · skip
              have b1 := lenz a1
              repeat (first | apply RunP.seq | apply RunP.region | apply RunP.condT rfl | apply RunP.condF rfl | apply RunP.skip | apply RunP.block | apply RunP.exit | apply RunP.ret)
              exact ⟨rfl, _, rfl, rfl, vY (by unfold ValidP; first | omega | (rw [hT]; omega))⟩
            · skip
              have b1 := lenn a1
              repeat (first | apply RunP.seq | apply RunP.region | apply RunP.condT rfl | apply RunP.condF rfl | apply RunP.skip | apply RunP.block | apply RunP.exit | apply RunP.ret)
              exact ⟨rfl, _, rfl, rfl, vN (by unfold ValidP; first | omega | (rw [hT]; omega))⟩
          · repeat (first | apply RunP.seq | apply RunP.region | apply RunP.condT rfl | apply RunP.condF rfl | apply RunP.skip | apply RunP.block | apply RunP.exit | apply RunP.ret)
            exact ⟨rfl, _, rfl, rfl, vN (by unfold ValidP; first | omega | (rw [hT]; omega))⟩
      · repeat (first | apply RunP.seq | apply RunP.region | apply RunP.condT rfl | apply RunP.condF rfl | apply RunP.skip | apply RunP.block | apply RunP.exit | apply RunP.ret)
        refine And.intro (fun k3 => ?_) (fun k3 => ?_)
        · repeat (first | apply RunP.seq | apply RunP.region | apply RunP.condT rfl | apply RunP.condF rfl | apply RunP.skip | apply RunP.block | apply RunP.exit | apply RunP.ret)
          refine RunP.loop (kvI k n s) ?_ s.length ⟨0, _, ⟨by omega, rfl, rfl, by simp⟩, rfl, rfl, rfl, rfl, rfl⟩
          intro j st g hI
          obtain ⟨i, z, x, ⟨hik, hz, rfl, hall⟩, rfl⟩ := kvI_lit hI
          clear hI
          subst hz
          repeat (first | apply RunP.seq | apply RunP.region | apply RunP.condT rfl | apply RunP.condF rfl | apply RunP.skip | apply RunP.block | apply RunP.exit | apply RunP.ret)
          refine And.intro (fun hlt => ?_) (fun hge => ?_)
          · have hi : i < s.length := by omega
            obtain ⟨c, hc⟩ : ∃ c, s[i]? = some c := ⟨_, List.getElem?_eq_getElem hi⟩
            have hcl : c.toNat < 256 := c.toNat_lt
            have hno : Lex.textByte c = false → textI s ≠ 1 := fun hb => by
              rw [Ne, textI_iff]; unfold Lex.isText; rw [not_all hc hb]; simp
            repeat (first | apply RunP.seq | apply RunP.region | apply RunP.condT rfl | apply RunP.condF rfl | apply RunP.skip | apply RunP.block | apply RunP.exit | apply RunP.ret)
            refine And.intro (by omega) (Exists.intro c (And.intro hc ?_))
            refine And.intro (fun h1 => ?_) (fun h1 => ?_)
            · have h2 := hno (by simp [Lex.textByte]; omega)
              repeat (first | apply RunP.seq | apply RunP.region | apply RunP.condT rfl | apply RunP.condF rfl | apply RunP.skip | apply RunP.block | apply RunP.exit | apply RunP.ret)
              exact ⟨rfl, _, rfl, rfl, vN (by unfold ValidP; first | omega | (rw [hT]; omega))⟩
            · repeat (first | apply RunP.seq | apply RunP.region | apply RunP.condT rfl | apply RunP.condF rfl | apply RunP.skip | apply RunP.block | apply RunP.exit | apply RunP.ret)
              refine And.intro (by omega) (Exists.intro c (And.intro hc ?_))
              refine And.intro (fun h2 => ?_) (fun h2 => ?_)
              · have h3 := hno (by simp [Lex.textByte]; omega)
                repeat (first | apply RunP.seq | apply RunP.region | apply RunP.condT rfl | apply RunP.condF rfl | apply RunP.skip | apply RunP.block | apply RunP.exit | apply RunP.ret)
                exact ⟨rfl, _, rfl, rfl, vN (by unfold ValidP; first | omega | (rw [hT]; omega))⟩
              · repeat (first | apply RunP.seq | apply RunP.region | apply RunP.condT rfl | apply RunP.condF rfl | apply RunP.skip | apply RunP.block | apply RunP.exit | apply RunP.ret)
                exact ⟨j - 1, by omega, i + 1, _, ⟨by omega, wrapB (by omega), rfl, take_all hc hall (by simp [Lex.textByte]; omega)⟩, rfl, rfl, rfl, rfl, rfl⟩
          · have hi : i = s.length := by omega
            rw [hi, List.take_length] at hall
            have ht : textI s = 1 ↔ s.length ≤ 60 := by
              rw [textI_iff]; unfold Lex.isText; rw [hall]; simp
            repeat (first | apply RunP.seq | apply RunP.region | apply RunP.condT rfl | apply RunP.condF rfl | apply RunP.skip | apply RunP.block | apply RunP.exit | apply RunP.ret)
            refine And.intro (fun a2 => ?_) (fun a2 => ?_)
            · refine And.intro (fun a1 => ?_) (fun a1 => ?_)
              · repeat (first | apply RunP.seq | apply RunP.region | apply RunP.condT rfl | apply RunP.condF rfl | apply RunP.skip | apply RunP.block | apply RunP.exit | apply RunP.ret)
                exact ⟨rfl, _, rfl, rfl, vY (by unfold ValidP; first | omega | (rw [hT]; omega))⟩
              · repeat (first | apply RunP.seq | apply RunP.region | apply RunP.condT rfl | apply RunP.condF rfl | apply RunP.skip | apply RunP.block | apply RunP.exit | apply RunP.ret)
                exact ⟨rfl, _, rfl, rfl, vN (by unfold ValidP; first | omega | (rw [hT]; omega))⟩
            · repeat (first | apply RunP.seq | apply RunP.region | apply RunP.condT rfl | apply RunP.condF rfl | apply RunP.skip | apply RunP.block | apply RunP.exit | apply RunP.ret)
              exact ⟨rfl, _, rfl, rfl, vN (by unfold ValidP; first | omega | (rw [hT]; omega))⟩
        · repeat (first | apply RunP.seq | apply RunP.region | apply RunP.condT rfl | apply RunP.condF rfl | apply RunP.skip | apply RunP.block | apply RunP.exit | apply RunP.ret)
          refine And.intro (fun a5 => ?_) (fun a5 => ?_)
          · skip
            refine And.intro (fun a4 => ?_) (fun a4 => ?_)
            · skip
              refine And.intro (fun a3 => ?_) (fun a3 => ?_)
              · skip
                refine And.intro (fun a2 => ?_) (fun a2 => ?_)
                · skip
                  refine And.intro (fun a1 => ?_) (fun a1 => ?_)
                  · skip
                    have b1 := lenz a1
                    repeat (first | apply RunP.seq | apply RunP.region | apply RunP.condT rfl | apply RunP.condF rfl | apply RunP.skip | apply RunP.block | apply RunP.exit | apply RunP.ret)
                    exact ⟨rfl, _, rfl, rfl, vY (by unfold ValidP; first | omega | (rw [hT]; omega))⟩
                  · skip
                    have b1 := lenn a1
                    repeat (first | apply RunP.seq | apply RunP.region | apply RunP.condT rfl | apply RunP.condF rfl | apply RunP.skip | apply RunP.block | apply RunP.exit | apply RunP.ret)
                    exact ⟨rfl, _, rfl, rfl, vN (by unfold ValidP; first | omega | (rw [hT]; omega))⟩
                · skip
                  repeat (first | apply RunP.seq | apply RunP.region | apply RunP.condT rfl | apply RunP.condF rfl | apply RunP.skip | apply RunP.block | apply RunP.exit | apply RunP.ret)
                  exact ⟨rfl, _, rfl, rfl, vN (by unfold ValidP; first | omega | (rw [hT]; omega))⟩
              · skip
                repeat (first | apply RunP.seq | apply RunP.region | apply RunP.condT rfl | apply RunP.condF rfl | apply RunP.skip | apply RunP.block | apply RunP.exit | apply RunP.ret)
                exact ⟨rfl, _, rfl, rfl, vN (by unfold ValidP; first | omega | (rw [hT]; omega))⟩
            · skip
              repeat (first | apply RunP.seq | apply RunP.region | apply RunP.condT rfl | apply RunP.condF rfl | apply RunP.skip | apply RunP.block | apply RunP.exit | apply RunP.ret)
              exact ⟨rfl, _, rfl, rfl, vN (by unfold ValidP; first | omega | (rw [hT]; omega))⟩
          · skip
            repeat (first | apply RunP.seq | apply RunP.region | apply RunP.condT rfl | apply RunP.condF rfl | apply RunP.skip | apply RunP.block | apply RunP.exit | apply RunP.ret)
            exact ⟨rfl, _, rfl, rfl, vN (by unfold ValidP; first | omega | (rw [hT]; omega))⟩
end Go.Proofs.YtkjhnpmgieplgaaGreatDoor
