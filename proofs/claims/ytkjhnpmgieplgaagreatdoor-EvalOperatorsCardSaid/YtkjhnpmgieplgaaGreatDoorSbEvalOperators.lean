/- EvalOperators: the law answers true. -/
import Derived.Test.YtkjhnpmgieplgaaGreatDoorSbOp8
set_option linter.unusedVariables false
set_option linter.unusedSimpArgs false
namespace Go.Proofs.YtkjhnpmgieplgaaGreatDoor
open Go.Sb
set_option maxRecDepth 100000
abbrev Val := Int × Int × List UInt8
def opM (op : Int) (v w : Val) (U B : Res) (e1 e2 : Int) (k : Nat) (s : List V) (h : Heap) : Prop :=
  ∃ (z : Int), (z = 0 ∧ h = [.cells 23 [.int .i64 v.1, .int .i64 v.2.1, .str v.2.2], .cells 23 [.int .i64 w.1, .int .i64 w.2.1, .str w.2.2], .cells 23 (vV U.1).cells, .cells 37 (fV U.2).cells, .cells 23 (vV B.1).cells, .cells 37 (fV B.2).cells]) ∧ s.length = 121 ∧ s.getD 0 und = und ∧ s.getD 1 und = .int .i64 op ∧ s.getD 5 und = .ptr 0 0 3 ∧ s.getD 6 und = .ptr 1 0 3 ∧ s.getD 8 und = .ptr 2 0 3 ∧ s.getD 9 und = .ptr 3 0 2 ∧ s.getD 10 und = .int .i64 e1 ∧ s.getD 11 und = .ptr 4 0 3 ∧ s.getD 12 und = .ptr 5 0 2 ∧ s.getD 13 und = .int .i64 e2
theorem opM_lit {op : Int} {v w : Val} {U B : Res} {e1 e2 : Int} {k : Nat} {s : List V} {h : Heap} (hI : opM op v w U B e1 e2 k s h) : ∃ (z : Int) (x : Nat → V), (z = 0 ∧ h = [.cells 23 [.int .i64 v.1, .int .i64 v.2.1, .str v.2.2], .cells 23 [.int .i64 w.1, .int .i64 w.2.1, .str w.2.2], .cells 23 (vV U.1).cells, .cells 37 (fV U.2).cells, .cells 23 (vV B.1).cells, .cells 37 (fV B.2).cells]) ∧
    s = [und, .int .i64 op, x 2, x 3, x 4, .ptr 0 0 3, .ptr 1 0 3, x 7, .ptr 2 0 3, .ptr 3 0 2, .int .i64 e1, .ptr 4 0 3, .ptr 5 0 2, .int .i64 e2, x 14, x 15, x 16, x 17, x 18, x 19, x 20, x 21, x 22, x 23, x 24, x 25, x 26, x 27, x 28, x 29, x 30, x 31, x 32, x 33, x 34, x 35, x 36, x 37, x 38, x 39, x 40, x 41, x 42, x 43, x 44, x 45, x 46, x 47, x 48, x 49, x 50, x 51, x 52, x 53, x 54, x 55, x 56, x 57, x 58, x 59, x 60, x 61, x 62, x 63, x 64, x 65, x 66, x 67, x 68, x 69, x 70, x 71, x 72, x 73, x 74, x 75, x 76, x 77, x 78, x 79, x 80, x 81, x 82, x 83, x 84, x 85, x 86, x 87, x 88, x 89, x 90, x 91, x 92, x 93, x 94, x 95, x 96, x 97, x 98, x 99, x 100, x 101, x 102, x 103, x 104, x 105, x 106, x 107, x 108, x 109, x 110, x 111, x 112, x 113, x 114, x 115, x 116, x 117, x 118, x 119, x 120] := by
  obtain ⟨z, hF, hl, e0, e1, e5, e6, e8, e9, e10, e11, e12, e13⟩ := hI
  refine ⟨z, fun n => s.getD n und, hF, (lit_of hl).trans ?_⟩
  show [s.getD 0 und, s.getD 1 und, s.getD 2 und, s.getD 3 und, s.getD 4 und, s.getD 5 und, s.getD 6 und, s.getD 7 und, s.getD 8 und, s.getD 9 und, s.getD 10 und, s.getD 11 und, s.getD 12 und, s.getD 13 und, s.getD 14 und, s.getD 15 und, s.getD 16 und, s.getD 17 und, s.getD 18 und, s.getD 19 und, s.getD 20 und, s.getD 21 und, s.getD 22 und, s.getD 23 und, s.getD 24 und, s.getD 25 und, s.getD 26 und, s.getD 27 und, s.getD 28 und, s.getD 29 und, s.getD 30 und, s.getD 31 und, s.getD 32 und, s.getD 33 und, s.getD 34 und, s.getD 35 und, s.getD 36 und, s.getD 37 und, s.getD 38 und, s.getD 39 und, s.getD 40 und, s.getD 41 und, s.getD 42 und, s.getD 43 und, s.getD 44 und, s.getD 45 und, s.getD 46 und, s.getD 47 und, s.getD 48 und, s.getD 49 und, s.getD 50 und, s.getD 51 und, s.getD 52 und, s.getD 53 und, s.getD 54 und, s.getD 55 und, s.getD 56 und, s.getD 57 und, s.getD 58 und, s.getD 59 und, s.getD 60 und, s.getD 61 und, s.getD 62 und, s.getD 63 und, s.getD 64 und, s.getD 65 und, s.getD 66 und, s.getD 67 und, s.getD 68 und, s.getD 69 und, s.getD 70 und, s.getD 71 und, s.getD 72 und, s.getD 73 und, s.getD 74 und, s.getD 75 und, s.getD 76 und, s.getD 77 und, s.getD 78 und, s.getD 79 und, s.getD 80 und, s.getD 81 und, s.getD 82 und, s.getD 83 und, s.getD 84 und, s.getD 85 und, s.getD 86 und, s.getD 87 und, s.getD 88 und, s.getD 89 und, s.getD 90 und, s.getD 91 und, s.getD 92 und, s.getD 93 und, s.getD 94 und, s.getD 95 und, s.getD 96 und, s.getD 97 und, s.getD 98 und, s.getD 99 und, s.getD 100 und, s.getD 101 und, s.getD 102 und, s.getD 103 und, s.getD 104 und, s.getD 105 und, s.getD 106 und, s.getD 107 und, s.getD 108 und, s.getD 109 und, s.getD 110 und, s.getD 111 und, s.getD 112 und, s.getD 113 und, s.getD 114 und, s.getD 115 und, s.getD 116 und, s.getD 117 und, s.getD 118 und, s.getD 119 und, s.getD 120 und] = _
  rw [e0, e1, e5, e6, e8, e9, e10, e11, e12, e13]
def opN (op : Int) (v w : Val) (U B : Res) (e1 e2 : Int) (k : Nat) (s : List V) (h : Heap) : Prop :=
  ∃ (X : Heap), (h = .cells 23 [.int .i64 v.1, .int .i64 v.2.1, .str v.2.2] :: .cells 23 [.int .i64 w.1, .int .i64 w.2.1, .str w.2.2] :: .cells 23 (vV U.1).cells :: .cells 37 (fV U.2).cells :: .cells 23 (vV B.1).cells :: .cells 37 (fV B.2).cells :: X ∧ (X = [] ∨ ∃ c1 c2, X = [c1, c2])) ∧ s.length = 121 ∧ s.getD 0 und = und ∧ s.getD 1 und = .int .i64 op ∧ s.getD 5 und = .ptr 0 0 3 ∧ s.getD 6 und = .ptr 1 0 3 ∧ s.getD 11 und = .ptr 4 0 3 ∧ s.getD 12 und = .ptr 5 0 2 ∧ s.getD 13 und = .int .i64 e2
theorem opN_lit {op : Int} {v w : Val} {U B : Res} {e1 e2 : Int} {k : Nat} {s : List V} {h : Heap} (hI : opN op v w U B e1 e2 k s h) : ∃ (X : Heap) (x : Nat → V), (h = .cells 23 [.int .i64 v.1, .int .i64 v.2.1, .str v.2.2] :: .cells 23 [.int .i64 w.1, .int .i64 w.2.1, .str w.2.2] :: .cells 23 (vV U.1).cells :: .cells 37 (fV U.2).cells :: .cells 23 (vV B.1).cells :: .cells 37 (fV B.2).cells :: X ∧ (X = [] ∨ ∃ c1 c2, X = [c1, c2])) ∧
    s = [und, .int .i64 op, x 2, x 3, x 4, .ptr 0 0 3, .ptr 1 0 3, x 7, x 8, x 9, x 10, .ptr 4 0 3, .ptr 5 0 2, .int .i64 e2, x 14, x 15, x 16, x 17, x 18, x 19, x 20, x 21, x 22, x 23, x 24, x 25, x 26, x 27, x 28, x 29, x 30, x 31, x 32, x 33, x 34, x 35, x 36, x 37, x 38, x 39, x 40, x 41, x 42, x 43, x 44, x 45, x 46, x 47, x 48, x 49, x 50, x 51, x 52, x 53, x 54, x 55, x 56, x 57, x 58, x 59, x 60, x 61, x 62, x 63, x 64, x 65, x 66, x 67, x 68, x 69, x 70, x 71, x 72, x 73, x 74, x 75, x 76, x 77, x 78, x 79, x 80, x 81, x 82, x 83, x 84, x 85, x 86, x 87, x 88, x 89, x 90, x 91, x 92, x 93, x 94, x 95, x 96, x 97, x 98, x 99, x 100, x 101, x 102, x 103, x 104, x 105, x 106, x 107, x 108, x 109, x 110, x 111, x 112, x 113, x 114, x 115, x 116, x 117, x 118, x 119, x 120] := by
  obtain ⟨X, hF, hl, e0, e1, e5, e6, e11, e12, e13⟩ := hI
  refine ⟨X, fun n => s.getD n und, hF, (lit_of hl).trans ?_⟩
  show [s.getD 0 und, s.getD 1 und, s.getD 2 und, s.getD 3 und, s.getD 4 und, s.getD 5 und, s.getD 6 und, s.getD 7 und, s.getD 8 und, s.getD 9 und, s.getD 10 und, s.getD 11 und, s.getD 12 und, s.getD 13 und, s.getD 14 und, s.getD 15 und, s.getD 16 und, s.getD 17 und, s.getD 18 und, s.getD 19 und, s.getD 20 und, s.getD 21 und, s.getD 22 und, s.getD 23 und, s.getD 24 und, s.getD 25 und, s.getD 26 und, s.getD 27 und, s.getD 28 und, s.getD 29 und, s.getD 30 und, s.getD 31 und, s.getD 32 und, s.getD 33 und, s.getD 34 und, s.getD 35 und, s.getD 36 und, s.getD 37 und, s.getD 38 und, s.getD 39 und, s.getD 40 und, s.getD 41 und, s.getD 42 und, s.getD 43 und, s.getD 44 und, s.getD 45 und, s.getD 46 und, s.getD 47 und, s.getD 48 und, s.getD 49 und, s.getD 50 und, s.getD 51 und, s.getD 52 und, s.getD 53 und, s.getD 54 und, s.getD 55 und, s.getD 56 und, s.getD 57 und, s.getD 58 und, s.getD 59 und, s.getD 60 und, s.getD 61 und, s.getD 62 und, s.getD 63 und, s.getD 64 und, s.getD 65 und, s.getD 66 und, s.getD 67 und, s.getD 68 und, s.getD 69 und, s.getD 70 und, s.getD 71 und, s.getD 72 und, s.getD 73 und, s.getD 74 und, s.getD 75 und, s.getD 76 und, s.getD 77 und, s.getD 78 und, s.getD 79 und, s.getD 80 und, s.getD 81 und, s.getD 82 und, s.getD 83 und, s.getD 84 und, s.getD 85 und, s.getD 86 und, s.getD 87 und, s.getD 88 und, s.getD 89 und, s.getD 90 und, s.getD 91 und, s.getD 92 und, s.getD 93 und, s.getD 94 und, s.getD 95 und, s.getD 96 und, s.getD 97 und, s.getD 98 und, s.getD 99 und, s.getD 100 und, s.getD 101 und, s.getD 102 und, s.getD 103 und, s.getD 104 und, s.getD 105 und, s.getD 106 und, s.getD 107 und, s.getD 108 und, s.getD 109 und, s.getD 110 und, s.getD 111 und, s.getD 112 und, s.getD 113 und, s.getD 114 und, s.getD 115 und, s.getD 116 und, s.getD 117 und, s.getD 118 und, s.getD 119 und, s.getD 120 und] = _
  rw [e0, e1, e5, e6, e11, e12, e13]

theorem neV_same (r : Val) : evBin envQ .neq 23 (vV r) (vV r) = some (.bool false) := by unfold vV; rw [neV]; simp
theorem eqV_same (r : Val) : evBin envQ .eql 23 (vV r) (vV r) = some (.bool true) := by unfold vV; rw [eqV]; simp
theorem neF_same (r : Int × List UInt8) : evBin envQ .neq 37 (fV r) (fV r) = some (.bool false) := by unfold fV; rw [neF]; simp
theorem eqF_same (r : Int × List UInt8) : evBin envQ .eql 37 (fV r) (fV r) = some (.bool true) := by unfold fV; rw [eqF]; simp
/-- Unary's answer as a value, a fault, an error. -/
theorem unary_form (op : Int) (v : Val) : ∃ (U : Res) (e : Int), unaryV op v = .tup [vV U.1, fV U.2, .int .i64 e] ∧ (((op = 5 ∨ op = 6) ∧ ValidP v.1 v.2.1 v.2.2 ∧ e = 0 ∧ U = unaryL op v) ∨ (¬ ((op = 5 ∨ op = 6) ∧ ValidP v.1 v.2.1 v.2.2) ∧ e = 2 ∧ U = (zV, noF))) := by
  unfold unaryV
  by_cases h : (op = 5 ∨ op = 6) ∧ ValidP v.1 v.2.1 v.2.2
  · rw [if_pos h]; exact ⟨unaryL op v, 0, rfl, .inl ⟨h.1, h.2, rfl, rfl⟩⟩
  · rw [if_neg h]; exact ⟨(zV, noF), 2, rfl, .inr ⟨h, rfl, rfl⟩⟩
theorem binary_form (op : Int) (v w : Val) : ∃ (U : Res) (e : Int), binaryV op v w = .tup [vV U.1, fV U.2, .int .i64 e] ∧ (((7 ≤ op ∧ op ≤ 19) ∧ ValidP v.1 v.2.1 v.2.2 ∧ ValidP w.1 w.2.1 w.2.2 ∧ e = 0 ∧ U = binL op v w) ∨ (¬ ((7 ≤ op ∧ op ≤ 19) ∧ ValidP v.1 v.2.1 v.2.2 ∧ ValidP w.1 w.2.1 w.2.2) ∧ e = 2 ∧ U = (zV, noF))) := by
  unfold binaryV
  by_cases h : (7 ≤ op ∧ op ≤ 19) ∧ ValidP v.1 v.2.1 v.2.2 ∧ ValidP w.1 w.2.1 w.2.2
  · rw [if_pos h]; exact ⟨binL op v w, 0, rfl, .inl ⟨h.1, h.2.1, h.2.2, rfl, rfl⟩⟩
  · rw [if_neg h]; exact ⟨(zV, noF), 2, rfl, .inr ⟨h, rfl, rfl⟩⟩
set_option maxHeartbeats 8000000 in
theorem evalOperators_has (op : Int) (_ : I64 op) (kv nv : Int) (sv : List UInt8) (_ : I64 kv) (_ : I64 nv) (hsv : sv.length ≤ 9223372036854775807) (kw nw : Int) (sw : List UInt8) (_ : I64 kw) (_ : I64 nw) (hsw : sw.length ≤ 9223372036854775807) : Has envQ .own 9 [.int .i64 op, .agg [.int .i64 kv, .int .i64 nv, .str sv], .agg [.int .i64 kw, .int .i64 nw, .str sw]] [] (.val (.bool true) []) := by
  refine HasP.own (a := [.int .i64 op, .agg [.int .i64 kv, .int .i64 nv, .str sv], .agg [.int .i64 kw, .int .i64 nw, .str sw]]) (d := fn9) rfl rfl rfl (of_decide_eq_true rfl) ?_
  have hU := fun g => Unary_has g op kv nv sv hsv
  have hB := fun g => Binary_has g op kv nv sv kw nw sw hsv hsw
  have hV := fun g => refValid_has g kv nv sv hsv
  have hW := fun g => refValid_has g kw nw sw hsw
  have hI := fun g => isUn_has g op
  have hJ := fun g => isBin_has g op
  obtain ⟨U, e1, hu1, hu2⟩ := unary_form op (kv, nv, sv)
  obtain ⟨B, e2, hb1, hb2⟩ := binary_form op (kv, nv, sv) (kw, nw, sw)
  rw [hu1] at hU
  rw [hb1] at hB
  clear hu1 hb1
  repeat (first | apply RunP.seq | apply RunP.region | apply RunP.condT rfl | apply RunP.condF rfl | apply RunP.skip | apply RunP.block | apply RunP.exit | apply RunP.ret | refine And.intro (fun w => absurd w (by omega)) (fun _ => ?_) | refine And.intro (fun _ => ?_) (fun w => absurd w (by omega)))
  refine CallK.of (hU _) ?_
  refine RunP.mid (M := fun s' h' => opM op (kv, nv, sv) (kw, nw, sw) U B e1 e2 0 s' h') ?_ ?_
  · repeat (first | apply RunP.seq | apply RunP.region | apply RunP.condT rfl | apply RunP.condF rfl | apply RunP.skip | apply RunP.block | apply RunP.exit | apply RunP.ret | refine And.intro (fun w => absurd w (by omega)) (fun _ => ?_) | refine And.intro (fun _ => ?_) (fun w => absurd w (by omega)))
    refine CallK.of (hB _) ?_
    exact ⟨rfl, _, ⟨rfl, rfl⟩, rfl, rfl, rfl, rfl, rfl, rfl, rfl, rfl, rfl, rfl, rfl⟩
  intro s1 g1 hM
  obtain ⟨z1, x1, ⟨_, rfl⟩, rfl⟩ := opM_lit hM
  clear hM hU hB
  refine RunP.mid (M := fun s' h' => opN op (kv, nv, sv) (kw, nw, sw) U B e1 e2 0 s' h') ?_ ?_
  · rcases hu2 with ⟨ho, hv, rfl, rfl⟩ | ⟨hno, rfl, rfl⟩
    · have hRU := fun g => refUnary_has g op kv nv sv
      simp only [decide_eq_true (show op = 5 ∨ op = 6 from ho)] at hI
      simp only [decide_eq_true (show ValidP kv nv sv from hv)] at hV
      generalize unaryL op (kv, nv, sv) = U at hRU ⊢
      repeat (first | apply RunP.seq | apply RunP.region | apply RunP.condT rfl | apply RunP.condF rfl | apply RunP.skip | apply RunP.block | apply RunP.exit | apply RunP.ret | refine And.intro (fun w => absurd w (by omega)) (fun _ => ?_) | refine And.intro (fun _ => ?_) (fun w => absurd w (by omega)))
      refine CallK.of (hI _) ?_
      refine CallK.of (hV _) ?_
      repeat (first | apply RunP.seq | apply RunP.region | apply RunP.condT rfl | apply RunP.condF rfl | apply RunP.skip | apply RunP.block | apply RunP.exit | apply RunP.ret | refine And.intro (fun w => absurd w (by omega)) (fun _ => ?_) | refine And.intro (fun _ => ?_) (fun w => absurd w (by omega)))
      refine CallK.of (hRU _) ?_
      repeat (first | apply RunP.seq | apply RunP.region | apply RunP.condT rfl | apply RunP.condF rfl | apply RunP.skip | apply RunP.block | apply RunP.exit | apply RunP.ret | refine And.intro (fun w => absurd w (by omega)) (fun _ => ?_) | refine And.intro (fun _ => ?_) (fun w => absurd w (by omega)))
      refine bindK_of (neV_same U.1) ?_
      refine bindK_of (neF_same U.2) ?_
      repeat (first | apply RunP.seq | apply RunP.region | apply RunP.condT rfl | apply RunP.condF rfl | apply RunP.skip | apply RunP.block | apply RunP.exit | apply RunP.ret | refine And.intro (fun w => absurd w (by omega)) (fun _ => ?_) | refine And.intro (fun _ => ?_) (fun w => absurd w (by omega)))
      exact ⟨rfl, _, ⟨rfl, .inr ⟨_, _, rfl⟩⟩, rfl, rfl, rfl, rfl, rfl, rfl, rfl, rfl⟩
    · by_cases ho : op = 5 ∨ op = 6
      · have hv : ¬ ValidP kv nv sv := fun q => hno ⟨ho, q⟩
        simp only [decide_eq_true ho] at hI
        simp only [decide_eq_false hv] at hV
        repeat (first | apply RunP.seq | apply RunP.region | apply RunP.condT rfl | apply RunP.condF rfl | apply RunP.skip | apply RunP.block | apply RunP.exit | apply RunP.ret | refine And.intro (fun w => absurd w (by omega)) (fun _ => ?_) | refine And.intro (fun _ => ?_) (fun w => absurd w (by omega)))
        refine CallK.of (hI _) ?_
        refine CallK.of (hV _) ?_
        repeat (first | apply RunP.seq | apply RunP.region | apply RunP.condT rfl | apply RunP.condF rfl | apply RunP.skip | apply RunP.block | apply RunP.exit | apply RunP.ret | refine And.intro (fun w => absurd w (by omega)) (fun _ => ?_) | refine And.intro (fun _ => ?_) (fun w => absurd w (by omega)))
        exact ⟨rfl, _, ⟨rfl, .inl rfl⟩, rfl, rfl, rfl, rfl, rfl, rfl, rfl, rfl⟩
      · simp only [decide_eq_false ho] at hI
        repeat (first | apply RunP.seq | apply RunP.region | apply RunP.condT rfl | apply RunP.condF rfl | apply RunP.skip | apply RunP.block | apply RunP.exit | apply RunP.ret | refine And.intro (fun w => absurd w (by omega)) (fun _ => ?_) | refine And.intro (fun _ => ?_) (fun w => absurd w (by omega)))
        refine CallK.of (hI _) ?_
        repeat (first | apply RunP.seq | apply RunP.region | apply RunP.condT rfl | apply RunP.condF rfl | apply RunP.skip | apply RunP.block | apply RunP.exit | apply RunP.ret | refine And.intro (fun w => absurd w (by omega)) (fun _ => ?_) | refine And.intro (fun _ => ?_) (fun w => absurd w (by omega)))
        exact ⟨rfl, _, ⟨rfl, .inl rfl⟩, rfl, rfl, rfl, rfl, rfl, rfl, rfl, rfl⟩
  intro s1 g1 hM
  obtain ⟨X, x2, ⟨rfl, hX⟩, rfl⟩ := opN_lit hM
  clear hM hu2
  rcases hb2 with ⟨ho, hv, hw, rfl, rfl⟩ | ⟨hno, rfl, rfl⟩
  · have hRB := fun g => refBinary_has g op kv nv sv kw nw sw ho hv hw
    simp only [decide_eq_true ho] at hJ
    simp only [decide_eq_true (show ValidP kv nv sv from hv)] at hV
    simp only [decide_eq_true (show ValidP kw nw sw from hw)] at hW
    generalize binL op (kv, nv, sv) (kw, nw, sw) = B at hRB ⊢
    rcases hX with rfl | ⟨c1, c2, rfl⟩
    · repeat (first | apply RunP.seq | apply RunP.region | apply RunP.condT rfl | apply RunP.condF rfl | apply RunP.skip | apply RunP.block | apply RunP.exit | apply RunP.ret | refine And.intro (fun w => absurd w (by omega)) (fun _ => ?_) | refine And.intro (fun _ => ?_) (fun w => absurd w (by omega)))
      refine CallK.of (hJ _) ?_
      refine CallK.of (hV _) ?_
      refine CallK.of (hW _) ?_
      repeat (first | apply RunP.seq | apply RunP.region | apply RunP.condT rfl | apply RunP.condF rfl | apply RunP.skip | apply RunP.block | apply RunP.exit | apply RunP.ret | refine And.intro (fun w => absurd w (by omega)) (fun _ => ?_) | refine And.intro (fun _ => ?_) (fun w => absurd w (by omega)))
      refine CallK.of (hRB _) ?_
      repeat (first | apply RunP.seq | apply RunP.region | apply RunP.condT rfl | apply RunP.condF rfl | apply RunP.skip | apply RunP.block | apply RunP.exit | apply RunP.ret | refine And.intro (fun w => absurd w (by omega)) (fun _ => ?_) | refine And.intro (fun _ => ?_) (fun w => absurd w (by omega)))
      refine bindK_of (eqV_same B.1) ?_
      refine bindK_of (eqF_same B.2) ?_
      repeat (first | apply RunP.seq | apply RunP.region | apply RunP.condT rfl | apply RunP.condF rfl | apply RunP.skip | apply RunP.block | apply RunP.exit | apply RunP.ret | refine And.intro (fun w => absurd w (by omega)) (fun _ => ?_) | refine And.intro (fun _ => ?_) (fun w => absurd w (by omega)))
      refine CallK.of (awake_told _) ?_
      repeat (first | apply RunP.seq | apply RunP.region | apply RunP.condT rfl | apply RunP.condF rfl | apply RunP.skip | apply RunP.block | apply RunP.exit | apply RunP.ret | refine And.intro (fun w => absurd w (by omega)) (fun _ => ?_) | refine And.intro (fun _ => ?_) (fun w => absurd w (by omega)))
      exact ⟨rfl, rfl, rfl⟩
    · repeat (first | apply RunP.seq | apply RunP.region | apply RunP.condT rfl | apply RunP.condF rfl | apply RunP.skip | apply RunP.block | apply RunP.exit | apply RunP.ret | refine And.intro (fun w => absurd w (by omega)) (fun _ => ?_) | refine And.intro (fun _ => ?_) (fun w => absurd w (by omega)))
      refine CallK.of (hJ _) ?_
      refine CallK.of (hV _) ?_
      refine CallK.of (hW _) ?_
      repeat (first | apply RunP.seq | apply RunP.region | apply RunP.condT rfl | apply RunP.condF rfl | apply RunP.skip | apply RunP.block | apply RunP.exit | apply RunP.ret | refine And.intro (fun w => absurd w (by omega)) (fun _ => ?_) | refine And.intro (fun _ => ?_) (fun w => absurd w (by omega)))
      refine CallK.of (hRB _) ?_
      repeat (first | apply RunP.seq | apply RunP.region | apply RunP.condT rfl | apply RunP.condF rfl | apply RunP.skip | apply RunP.block | apply RunP.exit | apply RunP.ret | refine And.intro (fun w => absurd w (by omega)) (fun _ => ?_) | refine And.intro (fun _ => ?_) (fun w => absurd w (by omega)))
      refine bindK_of (eqV_same B.1) ?_
      refine bindK_of (eqF_same B.2) ?_
      repeat (first | apply RunP.seq | apply RunP.region | apply RunP.condT rfl | apply RunP.condF rfl | apply RunP.skip | apply RunP.block | apply RunP.exit | apply RunP.ret | refine And.intro (fun w => absurd w (by omega)) (fun _ => ?_) | refine And.intro (fun _ => ?_) (fun w => absurd w (by omega)))
      refine CallK.of (awake_told _) ?_
      repeat (first | apply RunP.seq | apply RunP.region | apply RunP.condT rfl | apply RunP.condF rfl | apply RunP.skip | apply RunP.block | apply RunP.exit | apply RunP.ret | refine And.intro (fun w => absurd w (by omega)) (fun _ => ?_) | refine And.intro (fun _ => ?_) (fun w => absurd w (by omega)))
      exact ⟨rfl, rfl, rfl⟩
  · by_cases ho : 7 ≤ op ∧ op ≤ 19
    · simp only [decide_eq_true ho] at hJ
      by_cases hv : ValidP kv nv sv
      · have hw : ¬ ValidP kw nw sw := fun q => hno ⟨ho, hv, q⟩
        simp only [decide_eq_true hv] at hV
        simp only [decide_eq_false hw] at hW
        repeat (first | apply RunP.seq | apply RunP.region | apply RunP.condT rfl | apply RunP.condF rfl | apply RunP.skip | apply RunP.block | apply RunP.exit | apply RunP.ret | refine And.intro (fun w => absurd w (by omega)) (fun _ => ?_) | refine And.intro (fun _ => ?_) (fun w => absurd w (by omega)))
        refine CallK.of (hJ _) ?_
        refine CallK.of (hV _) ?_
        refine CallK.of (hW _) ?_
        repeat (first | apply RunP.seq | apply RunP.region | apply RunP.condT rfl | apply RunP.condF rfl | apply RunP.skip | apply RunP.block | apply RunP.exit | apply RunP.ret | refine And.intro (fun w => absurd w (by omega)) (fun _ => ?_) | refine And.intro (fun _ => ?_) (fun w => absurd w (by omega)))
        refine CallK.of (awake_told _) ?_
        repeat (first | apply RunP.seq | apply RunP.region | apply RunP.condT rfl | apply RunP.condF rfl | apply RunP.skip | apply RunP.block | apply RunP.exit | apply RunP.ret | refine And.intro (fun w => absurd w (by omega)) (fun _ => ?_) | refine And.intro (fun _ => ?_) (fun w => absurd w (by omega)))
        exact ⟨rfl, rfl, rfl⟩
      · simp only [decide_eq_false hv] at hV
        repeat (first | apply RunP.seq | apply RunP.region | apply RunP.condT rfl | apply RunP.condF rfl | apply RunP.skip | apply RunP.block | apply RunP.exit | apply RunP.ret | refine And.intro (fun w => absurd w (by omega)) (fun _ => ?_) | refine And.intro (fun _ => ?_) (fun w => absurd w (by omega)))
        refine CallK.of (hJ _) ?_
        refine CallK.of (hV _) ?_
        repeat (first | apply RunP.seq | apply RunP.region | apply RunP.condT rfl | apply RunP.condF rfl | apply RunP.skip | apply RunP.block | apply RunP.exit | apply RunP.ret | refine And.intro (fun w => absurd w (by omega)) (fun _ => ?_) | refine And.intro (fun _ => ?_) (fun w => absurd w (by omega)))
        refine CallK.of (awake_told _) ?_
        repeat (first | apply RunP.seq | apply RunP.region | apply RunP.condT rfl | apply RunP.condF rfl | apply RunP.skip | apply RunP.block | apply RunP.exit | apply RunP.ret | refine And.intro (fun w => absurd w (by omega)) (fun _ => ?_) | refine And.intro (fun _ => ?_) (fun w => absurd w (by omega)))
        exact ⟨rfl, rfl, rfl⟩
    · simp only [decide_eq_false ho] at hJ
      repeat (first | apply RunP.seq | apply RunP.region | apply RunP.condT rfl | apply RunP.condF rfl | apply RunP.skip | apply RunP.block | apply RunP.exit | apply RunP.ret | refine And.intro (fun w => absurd w (by omega)) (fun _ => ?_) | refine And.intro (fun _ => ?_) (fun w => absurd w (by omega)))
      refine CallK.of (hJ _) ?_
      repeat (first | apply RunP.seq | apply RunP.region | apply RunP.condT rfl | apply RunP.condF rfl | apply RunP.skip | apply RunP.block | apply RunP.exit | apply RunP.ret | refine And.intro (fun w => absurd w (by omega)) (fun _ => ?_) | refine And.intro (fun _ => ?_) (fun w => absurd w (by omega)))
      refine CallK.of (awake_told _) ?_
      repeat (first | apply RunP.seq | apply RunP.region | apply RunP.condT rfl | apply RunP.condF rfl | apply RunP.skip | apply RunP.block | apply RunP.exit | apply RunP.ret | refine And.intro (fun w => absurd w (by omega)) (fun _ => ?_) | refine And.intro (fun _ => ?_) (fun w => absurd w (by omega)))
      exact ⟨rfl, rfl, rfl⟩
end Go.Proofs.YtkjhnpmgieplgaaGreatDoor
