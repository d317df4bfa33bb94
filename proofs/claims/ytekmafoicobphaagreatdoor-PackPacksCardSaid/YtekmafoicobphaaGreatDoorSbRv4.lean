/- Codes: the reference's Valid. -/
import Derived.Test.YtekmafoicobphaaGreatDoorSbRv3z
import Derived.Test.YtekmafoicobphaaGreatDoorSb10Chk7
set_option linter.unusedVariables false
set_option linter.unusedSimpArgs false
namespace Go.Proofs.YtekmafoicobphaaGreatDoor
open Go.Sb
set_option maxRecDepth 100000
theorem ywv (h : Heap) (c : Cod) (f : Fnc) (L : List Ins) (k : Nat) (x : Ins) (hS : 0 ≤ f.s ∧ f.s ≤ 200) (hl : lenO f.cd ≤ 4000) (hc : lenO c ≤ 1000) (hx : lenO x.l ≤ 2 ^ 50) (hcd : f.cd = some L) (hk : k ≤ L.length) (hs : x.s.length ≤ 2 ^ 50) : Has envQ .own 45 [ckV c f, insV x, .int .i64 k] h (.val (.bool (decide (rInsP c f L k x))) h) := by
 obtain ⟨op, a, b, cc, kd, n, tx, l⟩ := x
 simp only at hx hs
 show Has envQ .own 45 [ckV c f, .agg (iC op a b cc kd n tx l), .int .i64 k] h _
 exact ywp h c f L k op a b cc kd n tx l hS hl hc hx hcd hk hs
def rv1I (c : Cod) (L : LFc) (k : Nat) (s : List V) (h : Heap) : Prop :=
 ∃ (i : Nat) (z : Int), ((i + k = L.length ∧ z = i) ∧ h[0]? = some (.cells 25 [optL 5 fncV c]) ∧ ∀ (j : Nat) (f : Fnc), j < i → L[j]? = some f → headP f ∧ ∀ x ∈ L.take j, x.nm ≠ f.nm) ∧ s.length = 186 ∧ s.getD 0 und = und ∧ s.getD 2 und = .ptr 0 0 1 ∧ s.getD 3 und = .bool false ∧ s.getD 4 und = .int .i64 z
theorem rv1I_lit {c : Cod} {L : LFc} {k : Nat} {s : List V} {h : Heap} (hI : rv1I c L k s h) : ∃ (i : Nat) (z : Int) (x : Nat → V), ((i + k = L.length ∧ z = i) ∧ h[0]? = some (.cells 25 [optL 5 fncV c]) ∧ ∀ (j : Nat) (f : Fnc), j < i → L[j]? = some f → headP f ∧ ∀ x ∈ L.take j, x.nm ≠ f.nm) ∧
  s = [und, x 1, .ptr 0 0 1, .bool false, .int .i64 z, x 5, x 6, x 7, x 8, x 9, x 10, x 11, x 12, x 13, x 14, x 15, x 16, x 17, x 18, x 19, x 20, x 21, x 22, x 23, x 24, x 25, x 26, x 27, x 28, x 29, x 30, x 31, x 32, x 33, x 34, x 35, x 36, x 37, x 38, x 39, x 40, x 41, x 42, x 43, x 44, x 45, x 46, x 47, x 48, x 49, x 50, x 51, x 52, x 53, x 54, x 55, x 56, x 57, x 58, x 59, x 60, x 61, x 62, x 63, x 64, x 65, x 66, x 67, x 68, x 69, x 70, x 71, x 72, x 73, x 74, x 75, x 76, x 77, x 78, x 79, x 80, x 81, x 82, x 83, x 84, x 85, x 86, x 87, x 88, x 89, x 90, x 91, x 92, x 93, x 94, x 95, x 96, x 97, x 98, x 99, x 100, x 101, x 102, x 103, x 104, x 105, x 106, x 107, x 108, x 109, x 110, x 111, x 112, x 113, x 114, x 115, x 116, x 117, x 118, x 119, x 120, x 121, x 122, x 123, x 124, x 125, x 126, x 127, x 128, x 129, x 130, x 131, x 132, x 133, x 134, x 135, x 136, x 137, x 138, x 139, x 140, x 141, x 142, x 143, x 144, x 145, x 146, x 147, x 148, x 149, x 150, x 151, x 152, x 153, x 154, x 155, x 156, x 157, x 158, x 159, x 160, x 161, x 162, x 163, x 164, x 165, x 166, x 167, x 168, x 169, x 170, x 171, x 172, x 173, x 174, x 175, x 176, x 177, x 178, x 179, x 180, x 181, x 182, x 183, x 184, x 185] := by
 obtain ⟨i, z, hF, hl, e0, e2, e3, e4⟩ := hI
 refine ⟨i, z, fun n => s.getD n und, hF, (ybb hl).trans ?_⟩
 simp only [List.range, List.range.loop, List.map_cons, List.map_nil]
 rw [e0, e2, e3, e4]
def rv2I (c : Cod) (L : LFc) (i0 : Nat) (f : Fnc) (fb : Nat) (k : Nat) (s : List V) (h : Heap) : Prop :=
 ∃ (i : Nat) (z : Int), ((i + k = i0 ∧ z = i) ∧ h[0]? = some (.cells 25 [optL 5 fncV c]) ∧ h[fb]? = some (.cells 61 f.cells) ∧ ∀ x ∈ L.take i, x.nm ≠ f.nm) ∧ s.length = 186 ∧ s.getD 0 und = und ∧ s.getD 2 und = .ptr 0 0 1 ∧ s.getD 3 und = .bool false ∧ s.getD 4 und = .int .i64 i0 ∧ s.getD 5 und = .ptr fb 0 5 ∧ s.getD 6 und = .int .i64 z
theorem rv2I_lit {c : Cod} {L : LFc} {i0 : Nat} {f : Fnc} {fb : Nat} {k : Nat} {s : List V} {h : Heap} (hI : rv2I c L i0 f fb k s h) : ∃ (i : Nat) (z : Int) (x : Nat → V), ((i + k = i0 ∧ z = i) ∧ h[0]? = some (.cells 25 [optL 5 fncV c]) ∧ h[fb]? = some (.cells 61 f.cells) ∧ ∀ x ∈ L.take i, x.nm ≠ f.nm) ∧
  s = [und, x 1, .ptr 0 0 1, .bool false, .int .i64 i0, .ptr fb 0 5, .int .i64 z, x 7, x 8, x 9, x 10, x 11, x 12, x 13, x 14, x 15, x 16, x 17, x 18, x 19, x 20, x 21, x 22, x 23, x 24, x 25, x 26, x 27, x 28, x 29, x 30, x 31, x 32, x 33, x 34, x 35, x 36, x 37, x 38, x 39, x 40, x 41, x 42, x 43, x 44, x 45, x 46, x 47, x 48, x 49, x 50, x 51, x 52, x 53, x 54, x 55, x 56, x 57, x 58, x 59, x 60, x 61, x 62, x 63, x 64, x 65, x 66, x 67, x 68, x 69, x 70, x 71, x 72, x 73, x 74, x 75, x 76, x 77, x 78, x 79, x 80, x 81, x 82, x 83, x 84, x 85, x 86, x 87, x 88, x 89, x 90, x 91, x 92, x 93, x 94, x 95, x 96, x 97, x 98, x 99, x 100, x 101, x 102, x 103, x 104, x 105, x 106, x 107, x 108, x 109, x 110, x 111, x 112, x 113, x 114, x 115, x 116, x 117, x 118, x 119, x 120, x 121, x 122, x 123, x 124, x 125, x 126, x 127, x 128, x 129, x 130, x 131, x 132, x 133, x 134, x 135, x 136, x 137, x 138, x 139, x 140, x 141, x 142, x 143, x 144, x 145, x 146, x 147, x 148, x 149, x 150, x 151, x 152, x 153, x 154, x 155, x 156, x 157, x 158, x 159, x 160, x 161, x 162, x 163, x 164, x 165, x 166, x 167, x 168, x 169, x 170, x 171, x 172, x 173, x 174, x 175, x 176, x 177, x 178, x 179, x 180, x 181, x 182, x 183, x 184, x 185] := by
 obtain ⟨i, z, hF, hl, e0, e2, e3, e4, e5, e6⟩ := hI
 refine ⟨i, z, fun n => s.getD n und, hF, (ybb hl).trans ?_⟩
 simp only [List.range, List.range.loop, List.map_cons, List.map_nil]
 rw [e0, e2, e3, e4, e5, e6]
def rv3I (c : Cod) (L : LFc) (k : Nat) (s : List V) (h : Heap) : Prop :=
 ∃ (i : Nat) (z : Int), ((i + k = L.length ∧ z = i) ∧ h[0]? = some (.cells 25 [optL 5 fncV c]) ∧ ∀ f ∈ L.take i, bodyP c f) ∧ s.length = 186 ∧ s.getD 0 und = und ∧ s.getD 2 und = .ptr 0 0 1 ∧ s.getD 3 und = .bool false ∧ s.getD 7 und = .int .i64 z
theorem rv3I_lit {c : Cod} {L : LFc} {k : Nat} {s : List V} {h : Heap} (hI : rv3I c L k s h) : ∃ (i : Nat) (z : Int) (x : Nat → V), ((i + k = L.length ∧ z = i) ∧ h[0]? = some (.cells 25 [optL 5 fncV c]) ∧ ∀ f ∈ L.take i, bodyP c f) ∧
  s = [und, x 1, .ptr 0 0 1, .bool false, x 4, x 5, x 6, .int .i64 z, x 8, x 9, x 10, x 11, x 12, x 13, x 14, x 15, x 16, x 17, x 18, x 19, x 20, x 21, x 22, x 23, x 24, x 25, x 26, x 27, x 28, x 29, x 30, x 31, x 32, x 33, x 34, x 35, x 36, x 37, x 38, x 39, x 40, x 41, x 42, x 43, x 44, x 45, x 46, x 47, x 48, x 49, x 50, x 51, x 52, x 53, x 54, x 55, x 56, x 57, x 58, x 59, x 60, x 61, x 62, x 63, x 64, x 65, x 66, x 67, x 68, x 69, x 70, x 71, x 72, x 73, x 74, x 75, x 76, x 77, x 78, x 79, x 80, x 81, x 82, x 83, x 84, x 85, x 86, x 87, x 88, x 89, x 90, x 91, x 92, x 93, x 94, x 95, x 96, x 97, x 98, x 99, x 100, x 101, x 102, x 103, x 104, x 105, x 106, x 107, x 108, x 109, x 110, x 111, x 112, x 113, x 114, x 115, x 116, x 117, x 118, x 119, x 120, x 121, x 122, x 123, x 124, x 125, x 126, x 127, x 128, x 129, x 130, x 131, x 132, x 133, x 134, x 135, x 136, x 137, x 138, x 139, x 140, x 141, x 142, x 143, x 144, x 145, x 146, x 147, x 148, x 149, x 150, x 151, x 152, x 153, x 154, x 155, x 156, x 157, x 158, x 159, x 160, x 161, x 162, x 163, x 164, x 165, x 166, x 167, x 168, x 169, x 170, x 171, x 172, x 173, x 174, x 175, x 176, x 177, x 178, x 179, x 180, x 181, x 182, x 183, x 184, x 185] := by
 obtain ⟨i, z, hF, hl, e0, e2, e3, e7⟩ := hI
 refine ⟨i, z, fun n => s.getD n und, hF, (ybb hl).trans ?_⟩
 simp only [List.range, List.range.loop, List.map_cons, List.map_nil]
 rw [e0, e2, e3, e7]
def rv4I (c : Cod) (f : Fnc) (l : LIc) (w : Int) (cb : Nat) (k : Nat) (s : List V) (h : Heap) : Prop :=
 ∃ (i : Nat) (z : Int), ((i + k = l.length ∧ z = i) ∧ h[0]? = some (.cells 25 [optL 5 fncV c]) ∧ h[cb]? = some (.cells 81 (ckC c f)) ∧ ∀ (j : Nat) (x : Ins), j < i → l[j]? = some x → rInsP c f l j x) ∧ s.length = 186 ∧ s.getD 0 und = und ∧ s.getD 2 und = .ptr 0 0 1 ∧ s.getD 3 und = .bool false ∧ s.getD 7 und = .int .i64 w ∧ s.getD 8 und = .ptr cb 0 6 ∧ s.getD 9 und = .int .i64 z
theorem rv4I_lit {c : Cod} {f : Fnc} {l : LIc} {w : Int} {cb : Nat} {k : Nat} {s : List V} {h : Heap} (hI : rv4I c f l w cb k s h) : ∃ (i : Nat) (z : Int) (x : Nat → V), ((i + k = l.length ∧ z = i) ∧ h[0]? = some (.cells 25 [optL 5 fncV c]) ∧ h[cb]? = some (.cells 81 (ckC c f)) ∧ ∀ (j : Nat) (x : Ins), j < i → l[j]? = some x → rInsP c f l j x) ∧
  s = [und, x 1, .ptr 0 0 1, .bool false, x 4, x 5, x 6, .int .i64 w, .ptr cb 0 6, .int .i64 z, x 10, x 11, x 12, x 13, x 14, x 15, x 16, x 17, x 18, x 19, x 20, x 21, x 22, x 23, x 24, x 25, x 26, x 27, x 28, x 29, x 30, x 31, x 32, x 33, x 34, x 35, x 36, x 37, x 38, x 39, x 40, x 41, x 42, x 43, x 44, x 45, x 46, x 47, x 48, x 49, x 50, x 51, x 52, x 53, x 54, x 55, x 56, x 57, x 58, x 59, x 60, x 61, x 62, x 63, x 64, x 65, x 66, x 67, x 68, x 69, x 70, x 71, x 72, x 73, x 74, x 75, x 76, x 77, x 78, x 79, x 80, x 81, x 82, x 83, x 84, x 85, x 86, x 87, x 88, x 89, x 90, x 91, x 92, x 93, x 94, x 95, x 96, x 97, x 98, x 99, x 100, x 101, x 102, x 103, x 104, x 105, x 106, x 107, x 108, x 109, x 110, x 111, x 112, x 113, x 114, x 115, x 116, x 117, x 118, x 119, x 120, x 121, x 122, x 123, x 124, x 125, x 126, x 127, x 128, x 129, x 130, x 131, x 132, x 133, x 134, x 135, x 136, x 137, x 138, x 139, x 140, x 141, x 142, x 143, x 144, x 145, x 146, x 147, x 148, x 149, x 150, x 151, x 152, x 153, x 154, x 155, x 156, x 157, x 158, x 159, x 160, x 161, x 162, x 163, x 164, x 165, x 166, x 167, x 168, x 169, x 170, x 171, x 172, x 173, x 174, x 175, x 176, x 177, x 178, x 179, x 180, x 181, x 182, x 183, x 184, x 185] := by
 obtain ⟨i, z, hF, hl, e0, e2, e3, e7, e8, e9⟩ := hI
 refine ⟨i, z, fun n => s.getD n und, hF, (ybb hl).trans ?_⟩
 simp only [List.range, List.range.loop, List.map_cons, List.map_nil]
 rw [e0, e2, e3, e7, e8, e9]
def rv5I (c : Cod) (f : Fnc) (l : LGc) (w : Int) (cb : Nat) (k : Nat) (s : List V) (h : Heap) : Prop :=
 ∃ (i : Nat) (z : Int), ((i + k = l.length ∧ z = i) ∧ h[0]? = some (.cells 25 [optL 5 fncV c]) ∧ h[cb]? = some (.cells 81 (ckC c f)) ∧ ∀ g ∈ l.take i, rGrdP f g) ∧ s.length = 186 ∧ s.getD 0 und = und ∧ s.getD 2 und = .ptr 0 0 1 ∧ s.getD 3 und = .bool false ∧ s.getD 7 und = .int .i64 w ∧ s.getD 8 und = .ptr cb 0 6 ∧ s.getD 10 und = .int .i64 z
theorem rv5I_lit {c : Cod} {f : Fnc} {l : LGc} {w : Int} {cb : Nat} {k : Nat} {s : List V} {h : Heap} (hI : rv5I c f l w cb k s h) : ∃ (i : Nat) (z : Int) (x : Nat → V), ((i + k = l.length ∧ z = i) ∧ h[0]? = some (.cells 25 [optL 5 fncV c]) ∧ h[cb]? = some (.cells 81 (ckC c f)) ∧ ∀ g ∈ l.take i, rGrdP f g) ∧
  s = [und, x 1, .ptr 0 0 1, .bool false, x 4, x 5, x 6, .int .i64 w, .ptr cb 0 6, x 9, .int .i64 z, x 11, x 12, x 13, x 14, x 15, x 16, x 17, x 18, x 19, x 20, x 21, x 22, x 23, x 24, x 25, x 26, x 27, x 28, x 29, x 30, x 31, x 32, x 33, x 34, x 35, x 36, x 37, x 38, x 39, x 40, x 41, x 42, x 43, x 44, x 45, x 46, x 47, x 48, x 49, x 50, x 51, x 52, x 53, x 54, x 55, x 56, x 57, x 58, x 59, x 60, x 61, x 62, x 63, x 64, x 65, x 66, x 67, x 68, x 69, x 70, x 71, x 72, x 73, x 74, x 75, x 76, x 77, x 78, x 79, x 80, x 81, x 82, x 83, x 84, x 85, x 86, x 87, x 88, x 89, x 90, x 91, x 92, x 93, x 94, x 95, x 96, x 97, x 98, x 99, x 100, x 101, x 102, x 103, x 104, x 105, x 106, x 107, x 108, x 109, x 110, x 111, x 112, x 113, x 114, x 115, x 116, x 117, x 118, x 119, x 120, x 121, x 122, x 123, x 124, x 125, x 126, x 127, x 128, x 129, x 130, x 131, x 132, x 133, x 134, x 135, x 136, x 137, x 138, x 139, x 140, x 141, x 142, x 143, x 144, x 145, x 146, x 147, x 148, x 149, x 150, x 151, x 152, x 153, x 154, x 155, x 156, x 157, x 158, x 159, x 160, x 161, x 162, x 163, x 164, x 165, x 166, x 167, x 168, x 169, x 170, x 171, x 172, x 173, x 174, x 175, x 176, x 177, x 178, x 179, x 180, x 181, x 182, x 183, x 184, x 185] := by
 obtain ⟨i, z, hF, hl, e0, e2, e3, e7, e8, e10⟩ := hI
 refine ⟨i, z, fun n => s.getD n und, hF, (ybb hl).trans ?_⟩
 simp only [List.range, List.range.loop, List.map_cons, List.map_nil]
 rw [e0, e2, e3, e7, e8, e10]
theorem yww (c : Cod) (f : Fnc) : yhi envQ 81 [(0, codV c), (1, fncV f)] = some (ckV c f) := by
 obtain ⟨nm, p, s, cd, gd⟩ := f
 cases c <;> cases cd <;> cases gd <;> rfl
theorem idx_opt {o : Option (List Ins)} {L : List Ins} {i : Int} {x : Ins} {K : V → Heap → Prop} {g : Heap} (ho : o = some L) (hi : 0 ≤ i) (hx : L[i.toNat]? = some x) (hk : K (.rop (insV x).cells) g) : ykd envQ 58 (optL 8 insV o) (.int .i64 i) (fun v => K v g) := by
 subst ho
 exact jI hi (jI rfl (Exists.intro (insV x) (jI (by rw [List.getElem?_map, hx]; rfl) hk)))
theorem idx_optg {o : Option (List Grd)} {L : List Grd} {i : Int} {x : Grd} {K : V → Heap → Prop} {g : Heap} (ho : o = some L) (hi : 0 ≤ i) (hx : L[i.toNat]? = some x) (hk : K (.rop (grdV x).cells) g) : ykd envQ 59 (optL 4 grdV o) (.int .i64 i) (fun v => K v g) := by
 subst ho
 exact jI hi (jI rfl (Exists.intro (grdV x) (jI (by rw [List.getElem?_map, hx]; rfl) hk)))
noncomputable instance (c : Cod) : Decidable (ygk c) := Classical.propDecidable _
theorem yrj {E : Env} {md : Go.FuncId → Sb.Mode} {A : List (List Nat)} {k : Nat} {o : ROp} {os : List ROp} {acc : List (Nat × Go.Op × List V × V)} {s : List V} {h g : Heap} {v : V} {K : List V → Heap → Prop} {a0 a1 a2 a3 a4 a5 a6 a7 a8 a9 a10 a11 a12 a13 a14 a15 a16 a17 a18 a19 a20 a21 a22 a23 a24 a25 a26 a27 a28 a29 a30 a31 a32 a33 a34 a35 a36 a37 a38 a39 a40 a41 a42 a43 a44 a45 a46 a47 a48 a49 a50 a51 a52 a53 a54 a55 a56 a57 a58 a59 a60 a61 a62 a63 a64 a65 a66 a67 a68 a69 a70 a71 a72 a73 a74 a75 a76 a77 a78 a79 a80 a81 a82 a83 a84 a85 a86 a87 a88 a89 a90 a91 a92 a93 a94 a95 a96 a97 a98 a99 a100 a101 a102 a103 a104 a105 a106 a107 a108 a109 a110 a111 a112 a113 a114 a115 a116 a117 a118 a119 a120 a121 a122 a123 a124 a125 a126 a127 a128 a129 a130 a131 a132 a133 a134 a135 a136 a137 a138 a139 a140 a141 a142 a143 a144 a145 a146 a147 a148 a149 a150 a151 a152 a153 a154 a155 a156 a157 a158 a159 a160 a161 a162 a163 a164 a165 a166 a167 a168 a169 a170 a171 a172 a173 a174 a175 a176 a177 a178 a179 a180 a181 a182 a183 a184 a185 : V} (hg : o.gd = none) (hop : ∀ K : V → Heap → Prop, K v g → runOp E md o.op s h K) (hk : yal E md o.op = 2) (ha : accK E md (A.getD k []) g acc True) (hs : putT s o.dst v = [a0, a1, a2, a3, a4, a5, a6, a7, a8, a9, a10, a11, a12, a13, a14, a15, a16, a17, a18, a19, a20, a21, a22, a23, a24, a25, a26, a27, a28, a29, a30, a31, a32, a33, a34, a35, a36, a37, a38, a39, a40, a41, a42, a43, a44, a45, a46, a47, a48, a49, a50, a51, a52, a53, a54, a55, a56, a57, a58, a59, a60, a61, a62, a63, a64, a65, a66, a67, a68, a69, a70, a71, a72, a73, a74, a75, a76, a77, a78, a79, a80, a81, a82, a83, a84, a85, a86, a87, a88, a89, a90, a91, a92, a93, a94, a95, a96, a97, a98, a99, a100, a101, a102, a103, a104, a105, a106, a107, a108, a109, a110, a111, a112, a113, a114, a115, a116, a117, a118, a119, a120, a121, a122, a123, a124, a125, a126, a127, a128, a129, a130, a131, a132, a133, a134, a135, a136, a137, a138, a139, a140, a141, a142, a143, a144, a145, a146, a147, a148, a149, a150, a151, a152, a153, a154, a155, a156, a157, a158, a159, a160, a161, a162, a163, a164, a165, a166, a167, a168, a169, a170, a171, a172, a173, a174, a175, a176, a177, a178, a179, a180, a181, a182, a183, a184, a185]) (hn : yar E md A (k + 1) os acc [a0, a1, a2, a3, a4, a5, a6, a7, a8, a9, a10, a11, a12, a13, a14, a15, a16, a17, a18, a19, a20, a21, a22, a23, a24, a25, a26, a27, a28, a29, a30, a31, a32, a33, a34, a35, a36, a37, a38, a39, a40, a41, a42, a43, a44, a45, a46, a47, a48, a49, a50, a51, a52, a53, a54, a55, a56, a57, a58, a59, a60, a61, a62, a63, a64, a65, a66, a67, a68, a69, a70, a71, a72, a73, a74, a75, a76, a77, a78, a79, a80, a81, a82, a83, a84, a85, a86, a87, a88, a89, a90, a91, a92, a93, a94, a95, a96, a97, a98, a99, a100, a101, a102, a103, a104, a105, a106, a107, a108, a109, a110, a111, a112, a113, a114, a115, a116, a117, a118, a119, a120, a121, a122, a123, a124, a125, a126, a127, a128, a129, a130, a131, a132, a133, a134, a135, a136, a137, a138, a139, a140, a141, a142, a143, a144, a145, a146, a147, a148, a149, a150, a151, a152, a153, a154, a155, a156, a157, a158, a159, a160, a161, a162, a163, a164, a165, a166, a167, a168, a169, a170, a171, a172, a173, a174, a175, a176, a177, a178, a179, a180, a181, a182, a183, a184, a185] g K) : yar E md A k (o :: os) acc s h K := draw_g hg hop hk ha hs hn
theorem yfd {E : Env} {md : Go.FuncId → Sb.Mode} {A : List (List Nat)} {k : Nat} {o : ROp} {os : List ROp} {acc : List (Nat × Go.Op × List V × V)} {s : List V} {h g : Heap} {v : V} {K : List V → Heap → Prop} {a0 a1 a2 a3 a4 a5 a6 a7 a8 a9 a10 a11 a12 a13 a14 a15 a16 a17 a18 a19 a20 a21 a22 a23 a24 a25 a26 a27 a28 a29 a30 a31 a32 a33 a34 a35 a36 a37 a38 a39 a40 a41 a42 a43 a44 a45 a46 a47 a48 a49 a50 a51 a52 a53 a54 a55 a56 a57 a58 a59 a60 a61 a62 a63 a64 a65 a66 a67 a68 a69 a70 a71 a72 a73 a74 a75 a76 a77 a78 a79 a80 a81 a82 a83 a84 a85 a86 a87 a88 a89 a90 a91 a92 a93 a94 a95 a96 a97 a98 a99 a100 a101 a102 a103 a104 a105 a106 a107 a108 a109 a110 a111 a112 a113 a114 a115 a116 a117 a118 a119 a120 a121 a122 a123 a124 a125 a126 a127 a128 a129 a130 a131 a132 a133 a134 a135 a136 a137 a138 a139 a140 a141 a142 a143 a144 a145 a146 a147 a148 a149 a150 a151 a152 a153 a154 a155 a156 a157 a158 a159 a160 a161 a162 a163 a164 a165 a166 a167 a168 a169 a170 a171 a172 a173 a174 a175 a176 a177 a178 a179 a180 a181 a182 a183 a184 a185 : V} (hg : o.gd = none) (hop : ∀ K : V → Heap → Prop, K v g → runOp E md o.op s h K) (hk : yal E md o.op = 1) (hs : putT s o.dst v = [a0, a1, a2, a3, a4, a5, a6, a7, a8, a9, a10, a11, a12, a13, a14, a15, a16, a17, a18, a19, a20, a21, a22, a23, a24, a25, a26, a27, a28, a29, a30, a31, a32, a33, a34, a35, a36, a37, a38, a39, a40, a41, a42, a43, a44, a45, a46, a47, a48, a49, a50, a51, a52, a53, a54, a55, a56, a57, a58, a59, a60, a61, a62, a63, a64, a65, a66, a67, a68, a69, a70, a71, a72, a73, a74, a75, a76, a77, a78, a79, a80, a81, a82, a83, a84, a85, a86, a87, a88, a89, a90, a91, a92, a93, a94, a95, a96, a97, a98, a99, a100, a101, a102, a103, a104, a105, a106, a107, a108, a109, a110, a111, a112, a113, a114, a115, a116, a117, a118, a119, a120, a121, a122, a123, a124, a125, a126, a127, a128, a129, a130, a131, a132, a133, a134, a135, a136, a137, a138, a139, a140, a141, a142, a143, a144, a145, a146, a147, a148, a149, a150, a151, a152, a153, a154, a155, a156, a157, a158, a159, a160, a161, a162, a163, a164, a165, a166, a167, a168, a169, a170, a171, a172, a173, a174, a175, a176, a177, a178, a179, a180, a181, a182, a183, a184, a185]) (hn : yar E md A (k + 1) os ((k, o.op, s, v) :: acc) [a0, a1, a2, a3, a4, a5, a6, a7, a8, a9, a10, a11, a12, a13, a14, a15, a16, a17, a18, a19, a20, a21, a22, a23, a24, a25, a26, a27, a28, a29, a30, a31, a32, a33, a34, a35, a36, a37, a38, a39, a40, a41, a42, a43, a44, a45, a46, a47, a48, a49, a50, a51, a52, a53, a54, a55, a56, a57, a58, a59, a60, a61, a62, a63, a64, a65, a66, a67, a68, a69, a70, a71, a72, a73, a74, a75, a76, a77, a78, a79, a80, a81, a82, a83, a84, a85, a86, a87, a88, a89, a90, a91, a92, a93, a94, a95, a96, a97, a98, a99, a100, a101, a102, a103, a104, a105, a106, a107, a108, a109, a110, a111, a112, a113, a114, a115, a116, a117, a118, a119, a120, a121, a122, a123, a124, a125, a126, a127, a128, a129, a130, a131, a132, a133, a134, a135, a136, a137, a138, a139, a140, a141, a142, a143, a144, a145, a146, a147, a148, a149, a150, a151, a152, a153, a154, a155, a156, a157, a158, a159, a160, a161, a162, a163, a164, a165, a166, a167, a168, a169, a170, a171, a172, a173, a174, a175, a176, a177, a178, a179, a180, a181, a182, a183, a184, a185] g K) : yar E md A k (o :: os) acc s h K := yii hg hop hk hs hn
theorem ycz {E : Env} {md : Go.FuncId → Sb.Mode} {A : List (List Nat)} {k : Nat} {o : ROp} {os : List ROp} {acc : List (Nat × Go.Op × List V × V)} {s : List V} {h g : Heap} {v : V} {K : List V → Heap → Prop} {a0 a1 a2 a3 a4 a5 a6 a7 a8 a9 a10 a11 a12 a13 a14 a15 a16 a17 a18 a19 a20 a21 a22 a23 a24 a25 a26 a27 a28 a29 a30 a31 a32 a33 a34 a35 a36 a37 a38 a39 a40 a41 a42 a43 a44 a45 a46 a47 a48 a49 a50 a51 a52 a53 a54 a55 a56 a57 a58 a59 a60 a61 a62 a63 a64 a65 a66 a67 a68 a69 a70 a71 a72 a73 a74 a75 a76 a77 a78 a79 a80 a81 a82 a83 a84 a85 a86 a87 a88 a89 a90 a91 a92 a93 a94 a95 a96 a97 a98 a99 a100 a101 a102 a103 a104 a105 a106 a107 a108 a109 a110 a111 a112 a113 a114 a115 a116 a117 a118 a119 a120 a121 a122 a123 a124 a125 a126 a127 a128 a129 a130 a131 a132 a133 a134 a135 a136 a137 a138 a139 a140 a141 a142 a143 a144 a145 a146 a147 a148 a149 a150 a151 a152 a153 a154 a155 a156 a157 a158 a159 a160 a161 a162 a163 a164 a165 a166 a167 a168 a169 a170 a171 a172 a173 a174 a175 a176 a177 a178 a179 a180 a181 a182 a183 a184 a185 : V} (hg : o.gd = none) (hop : ∀ K : V → Heap → Prop, K v g → runOp E md o.op s h K) (hk : yal E md o.op = 0) (hs : putT s o.dst v = [a0, a1, a2, a3, a4, a5, a6, a7, a8, a9, a10, a11, a12, a13, a14, a15, a16, a17, a18, a19, a20, a21, a22, a23, a24, a25, a26, a27, a28, a29, a30, a31, a32, a33, a34, a35, a36, a37, a38, a39, a40, a41, a42, a43, a44, a45, a46, a47, a48, a49, a50, a51, a52, a53, a54, a55, a56, a57, a58, a59, a60, a61, a62, a63, a64, a65, a66, a67, a68, a69, a70, a71, a72, a73, a74, a75, a76, a77, a78, a79, a80, a81, a82, a83, a84, a85, a86, a87, a88, a89, a90, a91, a92, a93, a94, a95, a96, a97, a98, a99, a100, a101, a102, a103, a104, a105, a106, a107, a108, a109, a110, a111, a112, a113, a114, a115, a116, a117, a118, a119, a120, a121, a122, a123, a124, a125, a126, a127, a128, a129, a130, a131, a132, a133, a134, a135, a136, a137, a138, a139, a140, a141, a142, a143, a144, a145, a146, a147, a148, a149, a150, a151, a152, a153, a154, a155, a156, a157, a158, a159, a160, a161, a162, a163, a164, a165, a166, a167, a168, a169, a170, a171, a172, a173, a174, a175, a176, a177, a178, a179, a180, a181, a182, a183, a184, a185]) (hn : yar E md A (k + 1) os acc [a0, a1, a2, a3, a4, a5, a6, a7, a8, a9, a10, a11, a12, a13, a14, a15, a16, a17, a18, a19, a20, a21, a22, a23, a24, a25, a26, a27, a28, a29, a30, a31, a32, a33, a34, a35, a36, a37, a38, a39, a40, a41, a42, a43, a44, a45, a46, a47, a48, a49, a50, a51, a52, a53, a54, a55, a56, a57, a58, a59, a60, a61, a62, a63, a64, a65, a66, a67, a68, a69, a70, a71, a72, a73, a74, a75, a76, a77, a78, a79, a80, a81, a82, a83, a84, a85, a86, a87, a88, a89, a90, a91, a92, a93, a94, a95, a96, a97, a98, a99, a100, a101, a102, a103, a104, a105, a106, a107, a108, a109, a110, a111, a112, a113, a114, a115, a116, a117, a118, a119, a120, a121, a122, a123, a124, a125, a126, a127, a128, a129, a130, a131, a132, a133, a134, a135, a136, a137, a138, a139, a140, a141, a142, a143, a144, a145, a146, a147, a148, a149, a150, a151, a152, a153, a154, a155, a156, a157, a158, a159, a160, a161, a162, a163, a164, a165, a166, a167, a168, a169, a170, a171, a172, a173, a174, a175, a176, a177, a178, a179, a180, a181, a182, a183, a184, a185] g K) : yar E md A k (o :: os) acc s h K := yih hg hop hk hs hn
theorem ybf {E : Env} {md : Go.FuncId → Sb.Mode} {o : ROp} {os : List ROp} {s : List V} {h : Heap} {K : List V → Heap → Prop} {a0 a1 a2 a3 a4 a5 a6 a7 a8 a9 a10 a11 a12 a13 a14 a15 a16 a17 a18 a19 a20 a21 a22 a23 a24 a25 a26 a27 a28 a29 a30 a31 a32 a33 a34 a35 a36 a37 a38 a39 a40 a41 a42 a43 a44 a45 a46 a47 a48 a49 a50 a51 a52 a53 a54 a55 a56 a57 a58 a59 a60 a61 a62 a63 a64 a65 a66 a67 a68 a69 a70 a71 a72 a73 a74 a75 a76 a77 a78 a79 a80 a81 a82 a83 a84 a85 a86 a87 a88 a89 a90 a91 a92 a93 a94 a95 a96 a97 a98 a99 a100 a101 a102 a103 a104 a105 a106 a107 a108 a109 a110 a111 a112 a113 a114 a115 a116 a117 a118 a119 a120 a121 a122 a123 a124 a125 a126 a127 a128 a129 a130 a131 a132 a133 a134 a135 a136 a137 a138 a139 a140 a141 a142 a143 a144 a145 a146 a147 a148 a149 a150 a151 a152 a153 a154 a155 a156 a157 a158 a159 a160 a161 a162 a163 a164 a165 a166 a167 a168 a169 a170 a171 a172 a173 a174 a175 a176 a177 a178 a179 a180 a181 a182 a183 a184 a185 : V} {t : Go.Tmp} {w b : Bool} (hn : yai E md os [a0, a1, a2, a3, a4, a5, a6, a7, a8, a9, a10, a11, a12, a13, a14, a15, a16, a17, a18, a19, a20, a21, a22, a23, a24, a25, a26, a27, a28, a29, a30, a31, a32, a33, a34, a35, a36, a37, a38, a39, a40, a41, a42, a43, a44, a45, a46, a47, a48, a49, a50, a51, a52, a53, a54, a55, a56, a57, a58, a59, a60, a61, a62, a63, a64, a65, a66, a67, a68, a69, a70, a71, a72, a73, a74, a75, a76, a77, a78, a79, a80, a81, a82, a83, a84, a85, a86, a87, a88, a89, a90, a91, a92, a93, a94, a95, a96, a97, a98, a99, a100, a101, a102, a103, a104, a105, a106, a107, a108, a109, a110, a111, a112, a113, a114, a115, a116, a117, a118, a119, a120, a121, a122, a123, a124, a125, a126, a127, a128, a129, a130, a131, a132, a133, a134, a135, a136, a137, a138, a139, a140, a141, a142, a143, a144, a145, a146, a147, a148, a149, a150, a151, a152, a153, a154, a155, a156, a157, a158, a159, a160, a161, a162, a163, a164, a165, a166, a167, a168, a169, a170, a171, a172, a173, a174, a175, a176, a177, a178, a179, a180, a181, a182, a183, a184, a185] h K) (hg : o.gd = some (t, w) := by rfl) (hb : getT s t = .bool b := by rfl) (hw : b = !w := by rfl) (hs : putT s o.dst und = [a0, a1, a2, a3, a4, a5, a6, a7, a8, a9, a10, a11, a12, a13, a14, a15, a16, a17, a18, a19, a20, a21, a22, a23, a24, a25, a26, a27, a28, a29, a30, a31, a32, a33, a34, a35, a36, a37, a38, a39, a40, a41, a42, a43, a44, a45, a46, a47, a48, a49, a50, a51, a52, a53, a54, a55, a56, a57, a58, a59, a60, a61, a62, a63, a64, a65, a66, a67, a68, a69, a70, a71, a72, a73, a74, a75, a76, a77, a78, a79, a80, a81, a82, a83, a84, a85, a86, a87, a88, a89, a90, a91, a92, a93, a94, a95, a96, a97, a98, a99, a100, a101, a102, a103, a104, a105, a106, a107, a108, a109, a110, a111, a112, a113, a114, a115, a116, a117, a118, a119, a120, a121, a122, a123, a124, a125, a126, a127, a128, a129, a130, a131, a132, a133, a134, a135, a136, a137, a138, a139, a140, a141, a142, a143, a144, a145, a146, a147, a148, a149, a150, a151, a152, a153, a154, a155, a156, a157, a158, a159, a160, a161, a162, a163, a164, a165, a166, a167, a168, a169, a170, a171, a172, a173, a174, a175, a176, a177, a178, a179, a180, a181, a182, a183, a184, a185] := by rfl) : yai E md (o :: os) s h K := yfl hg hb hw hs hn
theorem yab {E : Env} {md : Go.FuncId → Sb.Mode} {o : ROp} {os : List ROp} {s : List V} {h g : Heap} {v : V} {K : List V → Heap → Prop} {a0 a1 a2 a3 a4 a5 a6 a7 a8 a9 a10 a11 a12 a13 a14 a15 a16 a17 a18 a19 a20 a21 a22 a23 a24 a25 a26 a27 a28 a29 a30 a31 a32 a33 a34 a35 a36 a37 a38 a39 a40 a41 a42 a43 a44 a45 a46 a47 a48 a49 a50 a51 a52 a53 a54 a55 a56 a57 a58 a59 a60 a61 a62 a63 a64 a65 a66 a67 a68 a69 a70 a71 a72 a73 a74 a75 a76 a77 a78 a79 a80 a81 a82 a83 a84 a85 a86 a87 a88 a89 a90 a91 a92 a93 a94 a95 a96 a97 a98 a99 a100 a101 a102 a103 a104 a105 a106 a107 a108 a109 a110 a111 a112 a113 a114 a115 a116 a117 a118 a119 a120 a121 a122 a123 a124 a125 a126 a127 a128 a129 a130 a131 a132 a133 a134 a135 a136 a137 a138 a139 a140 a141 a142 a143 a144 a145 a146 a147 a148 a149 a150 a151 a152 a153 a154 a155 a156 a157 a158 a159 a160 a161 a162 a163 a164 a165 a166 a167 a168 a169 a170 a171 a172 a173 a174 a175 a176 a177 a178 a179 a180 a181 a182 a183 a184 a185 : V} (hn : yai E md os [a0, a1, a2, a3, a4, a5, a6, a7, a8, a9, a10, a11, a12, a13, a14, a15, a16, a17, a18, a19, a20, a21, a22, a23, a24, a25, a26, a27, a28, a29, a30, a31, a32, a33, a34, a35, a36, a37, a38, a39, a40, a41, a42, a43, a44, a45, a46, a47, a48, a49, a50, a51, a52, a53, a54, a55, a56, a57, a58, a59, a60, a61, a62, a63, a64, a65, a66, a67, a68, a69, a70, a71, a72, a73, a74, a75, a76, a77, a78, a79, a80, a81, a82, a83, a84, a85, a86, a87, a88, a89, a90, a91, a92, a93, a94, a95, a96, a97, a98, a99, a100, a101, a102, a103, a104, a105, a106, a107, a108, a109, a110, a111, a112, a113, a114, a115, a116, a117, a118, a119, a120, a121, a122, a123, a124, a125, a126, a127, a128, a129, a130, a131, a132, a133, a134, a135, a136, a137, a138, a139, a140, a141, a142, a143, a144, a145, a146, a147, a148, a149, a150, a151, a152, a153, a154, a155, a156, a157, a158, a159, a160, a161, a162, a163, a164, a165, a166, a167, a168, a169, a170, a171, a172, a173, a174, a175, a176, a177, a178, a179, a180, a181, a182, a183, a184, a185] g K) (hop : ∀ K : V → Heap → Prop, K v g → runOp E md o.op s h K := by exact fun _ => id) (hg : o.gd = none := by rfl) (hs : putT s o.dst v = [a0, a1, a2, a3, a4, a5, a6, a7, a8, a9, a10, a11, a12, a13, a14, a15, a16, a17, a18, a19, a20, a21, a22, a23, a24, a25, a26, a27, a28, a29, a30, a31, a32, a33, a34, a35, a36, a37, a38, a39, a40, a41, a42, a43, a44, a45, a46, a47, a48, a49, a50, a51, a52, a53, a54, a55, a56, a57, a58, a59, a60, a61, a62, a63, a64, a65, a66, a67, a68, a69, a70, a71, a72, a73, a74, a75, a76, a77, a78, a79, a80, a81, a82, a83, a84, a85, a86, a87, a88, a89, a90, a91, a92, a93, a94, a95, a96, a97, a98, a99, a100, a101, a102, a103, a104, a105, a106, a107, a108, a109, a110, a111, a112, a113, a114, a115, a116, a117, a118, a119, a120, a121, a122, a123, a124, a125, a126, a127, a128, a129, a130, a131, a132, a133, a134, a135, a136, a137, a138, a139, a140, a141, a142, a143, a144, a145, a146, a147, a148, a149, a150, a151, a152, a153, a154, a155, a156, a157, a158, a159, a160, a161, a162, a163, a164, a165, a166, a167, a168, a169, a170, a171, a172, a173, a174, a175, a176, a177, a178, a179, a180, a181, a182, a183, a184, a185] := by rfl) : yai E md (o :: os) s h K := ybl hg hop hs hn
theorem yaq {E : Env} {md : Go.FuncId → Sb.Mode} {o : ROp} {os : List ROp} {s : List V} {h g : Heap} {v : V} {K : List V → Heap → Prop} {a0 a1 a2 a3 a4 a5 a6 a7 a8 a9 a10 a11 a12 a13 a14 a15 a16 a17 a18 a19 a20 a21 a22 a23 a24 a25 a26 a27 a28 a29 a30 a31 a32 a33 a34 a35 a36 a37 a38 a39 a40 a41 a42 a43 a44 a45 a46 a47 a48 a49 a50 a51 a52 a53 a54 a55 a56 a57 a58 a59 a60 a61 a62 a63 a64 a65 a66 a67 a68 a69 a70 a71 a72 a73 a74 a75 a76 a77 a78 a79 a80 a81 a82 a83 a84 a85 a86 a87 a88 a89 a90 a91 a92 a93 a94 a95 a96 a97 a98 a99 a100 a101 a102 a103 a104 a105 a106 a107 a108 a109 a110 a111 a112 a113 a114 a115 a116 a117 a118 a119 a120 a121 a122 a123 a124 a125 a126 a127 a128 a129 a130 a131 a132 a133 a134 a135 a136 a137 a138 a139 a140 a141 a142 a143 a144 a145 a146 a147 a148 a149 a150 a151 a152 a153 a154 a155 a156 a157 a158 a159 a160 a161 a162 a163 a164 a165 a166 a167 a168 a169 a170 a171 a172 a173 a174 a175 a176 a177 a178 a179 a180 a181 a182 a183 a184 a185 : V} {t : Go.Tmp} {w : Bool} (hn : yai E md os [a0, a1, a2, a3, a4, a5, a6, a7, a8, a9, a10, a11, a12, a13, a14, a15, a16, a17, a18, a19, a20, a21, a22, a23, a24, a25, a26, a27, a28, a29, a30, a31, a32, a33, a34, a35, a36, a37, a38, a39, a40, a41, a42, a43, a44, a45, a46, a47, a48, a49, a50, a51, a52, a53, a54, a55, a56, a57, a58, a59, a60, a61, a62, a63, a64, a65, a66, a67, a68, a69, a70, a71, a72, a73, a74, a75, a76, a77, a78, a79, a80, a81, a82, a83, a84, a85, a86, a87, a88, a89, a90, a91, a92, a93, a94, a95, a96, a97, a98, a99, a100, a101, a102, a103, a104, a105, a106, a107, a108, a109, a110, a111, a112, a113, a114, a115, a116, a117, a118, a119, a120, a121, a122, a123, a124, a125, a126, a127, a128, a129, a130, a131, a132, a133, a134, a135, a136, a137, a138, a139, a140, a141, a142, a143, a144, a145, a146, a147, a148, a149, a150, a151, a152, a153, a154, a155, a156, a157, a158, a159, a160, a161, a162, a163, a164, a165, a166, a167, a168, a169, a170, a171, a172, a173, a174, a175, a176, a177, a178, a179, a180, a181, a182, a183, a184, a185] g K) (hop : ∀ K : V → Heap → Prop, K v g → runOp E md o.op s h K := by exact fun _ => id) (hg : o.gd = some (t, w) := by rfl) (hb : getT s t = .bool w := by rfl) (hs : putT s o.dst v = [a0, a1, a2, a3, a4, a5, a6, a7, a8, a9, a10, a11, a12, a13, a14, a15, a16, a17, a18, a19, a20, a21, a22, a23, a24, a25, a26, a27, a28, a29, a30, a31, a32, a33, a34, a35, a36, a37, a38, a39, a40, a41, a42, a43, a44, a45, a46, a47, a48, a49, a50, a51, a52, a53, a54, a55, a56, a57, a58, a59, a60, a61, a62, a63, a64, a65, a66, a67, a68, a69, a70, a71, a72, a73, a74, a75, a76, a77, a78, a79, a80, a81, a82, a83, a84, a85, a86, a87, a88, a89, a90, a91, a92, a93, a94, a95, a96, a97, a98, a99, a100, a101, a102, a103, a104, a105, a106, a107, a108, a109, a110, a111, a112, a113, a114, a115, a116, a117, a118, a119, a120, a121, a122, a123, a124, a125, a126, a127, a128, a129, a130, a131, a132, a133, a134, a135, a136, a137, a138, a139, a140, a141, a142, a143, a144, a145, a146, a147, a148, a149, a150, a151, a152, a153, a154, a155, a156, a157, a158, a159, a160, a161, a162, a163, a164, a165, a166, a167, a168, a169, a170, a171, a172, a173, a174, a175, a176, a177, a178, a179, a180, a181, a182, a183, a184, a185] := by rfl) : yai E md (o :: os) s h K := yez hg hb hop hs hn
set_option maxHeartbeats 32000000 in
theorem ywx (h : Heap) (c : Cod) (hok : CodK c) : Has envQ .own 24 [codV c] h (.val (.bool (decide (ygk c))) h) := by
 suffices hx : ∃ v, Has envQ .own 24 [codV c] h (.val v h) ∧ v = .bool (decide (ygk c)) by
  obtain ⟨v, h1, rfl⟩ := hx; exact h1
 refine HasP.ownE (a := [codV c]) (d := fn24) (yaj (fz_ag (by simp only [List.all_cons, List.all_nil, ycc]; rfl)) yax) rfl rfl (jT rfl) ?_
 show ybc (initT _ [.agg [optL 5 fncV c]]) _
 obtain ⟨bE, hbE⟩ : ∃ w, decide ((lenO c : Int) < 1) = w := ⟨_, rfl⟩
 obtain ⟨bG, hbG⟩ : ∃ w, decide ((16 : Int) < (lenO c : Int)) = w := ⟨_, rfl⟩
 refine jW ?_
 refine jR _ ?_
 refine yab (v := .ptr 0 0 1) (g := [(.cells 25 [optL 5 fncV c])]) ?_ (fun K hK => yco (by simp only [List.all_cons, List.all_nil, ycc]; rfl) hK)
 refine yab ?_
 refine jW ?_
 refine jR _ ?_
 iterate 2 (refine yab ?_)
 refine yab ?_ (fun K hK => yan (f := fncV) rfl rfl hK)
 cases bE
 ·refine yab ?_ (fun K hK => cmp2 (R := (lenO c : Int) < 1) (fun w => by omega) (fun w => by omega) (by rw [hbE]; exact hK))
  refine yab ?_
  iterate 2 (refine yaq ?_)
  refine yaq ?_ (fun K hK => yan (f := fncV) rfl rfl hK)
  cases bG
  ·refine yaq ?_ (fun K hK => cmp2 (R := (16 : Int) < (lenO c : Int)) (fun w => by omega) (fun w => by omega) (by rw [hbG]; exact hK))
   refine yab ?_
   have h1 := jU hbE
   have h2 := jU hbG
   refine jW ?_
   refine jR _ ?_
   refine yab ?_
   refine jW ?_
   refine RunP.loop (rv1I c (c.getD [])) ?_ (c.getD []).length ⟨0, _, ⟨⟨Nat.zero_add _, rfl⟩, rfl, fun j f hj => absurd hj (by omega)⟩, rfl, rfl, rfl, rfl, rfl⟩
   intro k1 st1 g hI
   obtain ⟨i, z, x, ⟨⟨hik, hz⟩, hbx, hall⟩, rfl⟩ := rv1I_lit hI
   clear hI
   subst hz
   have hll : lenO c = (c.getD []).length := rfl
   by_cases hi : i < (c.getD []).length
   case pos =>
    refine jW ?_
    refine jR _ ?_
    iterate 2 (refine yab ?_)
    refine yab ?_ (fun K hK => yaf (yah hbx rfl) hK)
    refine yab ?_ (fun K hK => yan (f := fncV) rfl rfl hK)
    refine yab ?_ (fun K hK => jI (fun _ => hK) (fun q => absurd q (by rw [hll]; omega)))
    obtain ⟨L, rfl⟩ : ∃ l', c = some l' := by
     cases c with
     | none => simp at hi
     | some l => exact ⟨l, rfl⟩
    simp only [Option.getD_some] at *
    obtain ⟨f0, hf0⟩ : ∃ y, L[i]? = some y := ⟨_, List.getElem?_eq_getElem hi⟩
    obtain ⟨hnm, hgl, hII⟩ := hok.2 f0 (by simp only [Option.getD_some]; exact List.mem_of_getElem? hf0)
    have hnot : ¬ headP f0 → ¬ ygk (some L) := fun q w => q (w.2.1 i f0 hf0).1
    obtain ⟨nm, q, s, cd, gd⟩ := f0
    simp only at hnm hgl hII
    have hfb : (push g (.cells 61 [.str nm, .int .i64 q, .int .i64 s, optL 8 insV cd, optL 4 grdV gd]))[g.length]? = some (.cells 61 [.str nm, .int .i64 q, .int .i64 s, optL 8 insV cd, optL 4 grdV gd]) := ydm _ _
    have hbx' : (push g (.cells 61 [.str nm, .int .i64 q, .int .i64 s, optL 8 insV cd, optL 4 grdV gd]))[0]? = some (.cells 25 [optL 5 fncV (some L)]) := ydl hbx
    refine jW ?_
    refine jR _ ?_
    refine yab ?_
    refine yab ?_ (fun K hK => yaf (yah hbx rfl) hK)
    refine yab ?_
    refine yab ?_ (fun K hK => jI (by omega) (jI rfl (Exists.intro (fncV ⟨nm, q, s, cd, gd⟩) (jI (by rw [List.getElem?_map]; simp [hf0]) hK))))
    refine yab (v := .agg [.str nm, .int .i64 q, .int .i64 s, optL 8 insV cd, optL 4 grdV gd]) (g := g) ?_
    refine yab (v := .ptr g.length 0 5) (g := push g (.cells 61 ty61.zero)) ?_
    refine yab ?_ (fun K hK => yaf (yex (E := envQ) (t := 61) (n := 5) (v := .agg [.str nm, .int .i64 q, .int .i64 s, optL 8 insV cd, optL 4 grdV gd]) rfl rfl rfl rfl (yeo (yfa ⟨nm, q, s, cd, gd⟩))) hK)
    obtain ⟨bI, hbI⟩ : ∃ w, Lex.isName nm = w := ⟨_, rfl⟩
    have kI := yvv (push g (.cells 61 [.str nm, .int .i64 q, .int .i64 s, optL 8 insV cd, optL 4 grdV gd])) nm (by omega)
    rw [hbI] at kI
    obtain ⟨b1, hb1⟩ : ∃ w, decide (q < 0) = w := ⟨_, rfl⟩
    obtain ⟨b2, hb2⟩ : ∃ w, decide (5 < q) = w := ⟨_, rfl⟩
    obtain ⟨b3, hb3⟩ : ∃ w, decide (s < q) = w := ⟨_, rfl⟩
    obtain ⟨b4, hb4⟩ : ∃ w, decide (200 < s) = w := ⟨_, rfl⟩
    obtain ⟨b5, hb5⟩ : ∃ w, decide ((lenO cd : Int) < 1) = w := ⟨_, rfl⟩
    obtain ⟨b6, hb6⟩ : ∃ w, decide ((4000 : Int) < (lenO cd : Int)) = w := ⟨_, rfl⟩
    obtain ⟨b7, hb7⟩ : ∃ w, decide ((400 : Int) < (lenO gd : Int)) = w := ⟨_, rfl⟩
    refine jW ?_
    refine jR _ ?_
    refine yab ?_
    refine yab ?_ (fun K hK => yaf (yah hfb rfl) hK)
    cases bI
    ·refine yab ?_ (fun K hK => CallK.of kI hK)
     iterate 2 (refine yab ?_)
     iterate 3 (refine ybf ?_)
     iterate 2 (refine yab ?_)
     iterate 3 (refine ybf ?_)
     iterate 2 (refine yab ?_)
     iterate 5 (refine ybf ?_)
     iterate 2 (refine yab ?_)
     iterate 3 (refine ybf ?_)
     iterate 2 (refine yab ?_)
     iterate 4 (refine ybf ?_)
     iterate 2 (refine yab ?_)
     iterate 4 (refine ybf ?_)
     iterate 2 (refine yab ?_)
     iterate 4 (refine ybf ?_)
     iterate 2 (refine yab ?_)
     iterate 11 (refine ybf ?_)
     refine yab ?_
     refine jW ?_
     refine jR _ ?_
     refine yab ?_
     refine jW ?_
     apply jH
     exact ⟨rfl, _, rfl, jO _, vN (hnot (fun w => by have := w.1; rw [hbI] at this; cases this))⟩
    ·refine yab ?_ (fun K hK => CallK.of kI hK)
     iterate 2 (refine yab ?_)
     refine yaq ?_
     refine yaq ?_ (fun K hK => yaf (yah hfb rfl) hK)
     cases b1
     ·refine yaq ?_ (fun K hK => cmp2 (R := q < 0) (fun w => by omega) (fun w => by omega) (by rw [hb1]; exact hK))
      iterate 2 (refine yab ?_)
      refine yaq ?_
      refine yaq ?_ (fun K hK => yaf (yah hfb rfl) hK)
      cases b2
      ·refine yaq ?_ (fun K hK => cmp2 (R := 5 < q) (fun w => by omega) (fun w => by omega) (by rw [hb2]; exact hK))
       iterate 2 (refine yab ?_)
       refine yaq ?_
       refine yaq ?_ (fun K hK => yaf (yah hfb rfl) hK)
       refine yaq ?_
       refine yaq ?_ (fun K hK => yaf (yah hfb rfl) hK)
       cases b3
       ·refine yaq ?_ (fun K hK => cmp2 (R := s < q) (fun w => by omega) (fun w => by omega) (by rw [hb3]; exact hK))
        iterate 2 (refine yab ?_)
        refine yaq ?_
        refine yaq ?_ (fun K hK => yaf (yah hfb rfl) hK)
        cases b4
        ·refine yaq ?_ (fun K hK => cmp2 (R := 200 < s) (fun w => by omega) (fun w => by omega) (by rw [hb4]; exact hK))
         iterate 2 (refine yab ?_)
         refine yaq ?_
         refine yaq ?_ (fun K hK => yaf (yah hfb rfl) hK)
         refine yaq ?_ (fun K hK => yan (f := insV) rfl rfl hK)
         cases b5
         ·refine yaq ?_ (fun K hK => cmp2 (R := (lenO cd : Int) < 1) (fun w => by omega) (fun w => by omega) (by rw [hb5]; exact hK))
          iterate 2 (refine yab ?_)
          refine yaq ?_
          refine yaq ?_ (fun K hK => yaf (yah hfb rfl) hK)
          refine yaq ?_ (fun K hK => yan (f := insV) rfl rfl hK)
          cases b6
          ·refine yaq ?_ (fun K hK => cmp2 (R := (4000 : Int) < (lenO cd : Int)) (fun w => by omega) (fun w => by omega) (by rw [hb6]; exact hK))
           iterate 2 (refine yab ?_)
           refine yaq ?_
           refine yaq ?_ (fun K hK => yaf (yah hfb rfl) hK)
           refine yaq ?_ (fun K hK => yan (f := grdV) rfl rfl hK)
           cases b7
           ·refine yaq ?_ (fun K hK => cmp2 (R := (400 : Int) < (lenO gd : Int)) (fun w => by omega) (fun w => by omega) (by rw [hb7]; exact hK))
            iterate 2 (refine yab ?_)
            obtain ⟨cdl, rfl⟩ : ∃ l', cd = some l' := by
             cases cd with
             | none => have := jU hb5; simp [lenO] at this
             | some l => exact ⟨l, rfl⟩
            have hcl1 := jU hb5
            have hcl2 := jU hb6
            have hcll : lenO (some cdl) = cdl.length := rfl
            obtain ⟨x0, hx0⟩ : ∃ y, cdl[cdl.length - 1]? = some y := ⟨_, List.getElem?_eq_getElem (by omega)⟩
            obtain ⟨op, a, b, cc, kd, n, tx, l0⟩ := x0
            have ewl : IntKind.i64.wrap (((cdl.map insV).length : Int) - 1) = ((cdl.length - 1 : Nat) : Int) := by rw [List.length_map, wrapS (by omega) (by omega)]; omega
            obtain ⟨bL, hbL⟩ : ∃ w, decide (op = 5 ∨ op = 8 ∨ op = 9 ∨ op = 12 ∨ op = 14) = w := ⟨_, rfl⟩
            have kL := ywn (push g (.cells 61 [.str nm, .int .i64 q, .int .i64 s, optL 8 insV (some cdl), optL 4 grdV gd])) op
            rw [hbL] at kL
            refine yaq ?_
            refine yaq ?_ (fun K hK => yaf (yah hfb rfl) hK)
            refine yaq ?_
            refine yaq ?_ (fun K hK => yaf (yah hfb rfl) hK)
            iterate 2 (refine yaq ?_)
            refine yaq ?_ (fun K hK => jI (by rw [ewl]; omega) (jI rfl (Exists.intro (.agg (iC op a b cc kd n tx l0)) (jI (by rw [ewl, List.getElem?_map]; simp [hx0]; rfl) hK))))
            iterate 2 (refine yaq ?_)
            cases bL
            ·refine yaq ?_ (fun K hK => CallK.of kL hK)
             refine yaq ?_
             refine yab ?_
             refine jW ?_
             refine jR _ ?_
             refine yab ?_
             refine jW ?_
             apply jH
             exact ⟨rfl, _, rfl, jO _, vN (hnot (fun w => by
                              obtain ⟨_, _, _, _, _, z, hz, hlone⟩ := w
                              rw [show lenO (some cdl) - 1 = cdl.length - 1 from rfl] at hz
                              simp only [Option.getD_some] at hz
                              rw [hx0] at hz
                              cases hz
                              have hlN := jU hbL
                              exact absurd hlone hlN))⟩
            ·refine yaq ?_ (fun K hK => CallK.of kL hK)
             refine yaq ?_
             refine yab ?_
             have hhead : headP ⟨nm, q, s, some cdl, gd⟩ := by
              have := jU hb1
              have := jU hb2
              have := jU hb3
              have := jU hb4
              have := jU hb5
              have := jU hb6
              have := jU hb7
              have hlY := jT hbL
              refine ⟨hbI, ?_, ?_, ?_, ?_, ⟨op, a, b, cc, kd, n, tx, l0⟩, hx0, hlY⟩
              ·simp only; omega
              ·simp only; omega
              ·simp only; omega
              ·simp only; omega
             refine jW ?_
             refine jR _ ?_
             refine yab ?_
             refine jW ?_
             refine RunP.loop (rv2I (some L) L i ⟨nm, q, s, some cdl, gd⟩ g.length) ?_ i ⟨0, _, ⟨⟨Nat.zero_add _, rfl⟩, hbx', hfb, by simp⟩, rfl, rfl, rfl, rfl, rfl, rfl, rfl⟩
             intro k2 st2 g2 hI
             obtain ⟨j, z, x2, ⟨⟨hjk, hz⟩, hbx2, hfb2, hne⟩, rfl⟩ := rv2I_lit hI
             clear hI
             subst hz
             by_cases hj : j < i
             ·skip
              obtain ⟨fj, hfj⟩ : ∃ y, L[j]? = some y := ⟨_, List.getElem?_eq_getElem (by omega)⟩
              refine jW ?_
              refine jR _ ?_
              iterate 2 (refine yab ?_)
              refine yab ?_ (fun K hK => jY (fun _ => hK) (by omega))
              refine jW ?_
              refine RunP.drawnR _ (by decide +kernel) (fun _ => rfl) ?_
              refine ycz rfl (fun _ => id) (by decide +kernel) rfl ?_
              refine yfd rfl (fun K hK => yaf (yah hbx2 rfl) hK) (by decide +kernel) rfl ?_
              refine ycz rfl (fun _ => id) (by decide +kernel) rfl ?_
              refine ycz rfl (fun K hK => jI (by omega) (jI rfl (Exists.intro (fncV fj) (jI (by rw [List.getElem?_map]; simp [hfj]) hK)))) (by decide +kernel) rfl ?_
              refine ycz rfl (fun _ => id) (by decide +kernel) rfl ?_
              refine yfd rfl (fun _ => id) (by decide +kernel) rfl ?_
              refine ycz rfl (fun _ => id) (by decide +kernel) rfl ?_
              refine yfd rfl (fun K hK => yaf (yah hfb2 rfl) hK) (by decide +kernel) rfl ?_
              by_cases he : fj.nm = nm
              ·skip
               refine ycz rfl (fun K hK => jI (fun _ => hK) (fun q => absurd he q)) (by decide +kernel) rfl ?_
               refine jW ?_
               refine jR _ ?_
               refine yab ?_
               refine jW ?_
               apply jH
               exact ⟨rfl, _, rfl, jO _, vN (fun w => (w.2.1 i _ hf0).2 fj (by simp only [Option.getD_some]; exact List.mem_of_getElem? (by rw [List.getElem?_take, if_pos hj]; exact hfj)) he)⟩
              ·skip
               refine ycz rfl (fun K hK => jI (fun q => absurd q he) (fun _ => hK)) (by decide +kernel) rfl ?_
               refine jW ?_
               refine jR _ ?_
               iterate 3 (refine yab ?_)
               exact ⟨k2 - 1, by omega, j + 1, _, ⟨⟨by omega, ycj j (by omega)⟩, hbx2, hfb2, by
       intro y hy
       rw [List.take_add_one, hfj] at hy
       rcases List.mem_append.1 hy with q | q
       ·exact hne y q
       ·simp at q; subst q; exact he⟩, rfl, rfl, rfl, rfl, rfl, rfl, rfl⟩
             ·skip
              have hj : j = i := by omega
              subst hj
              refine jW ?_
              refine jR _ ?_
              iterate 2 (refine yab ?_)
              refine yab ?_ (fun K hK => jN (by omega) (fun _ => hK))
              refine jW ?_
              refine jR _ ?_
              iterate 3 (refine yab ?_)
              exact ⟨k1 - 1, by omega, j + 1, _, ⟨⟨by (try simp only [Option.getD_some]); omega, ycj j (by omega)⟩, hbx2, by
     intro m f hm hf
     by_cases e : m = j
     ·subst e
      try simp only [Option.getD_some] at hf ⊢
      rw [hf0] at hf; cases hf
      exact ⟨hhead, hne⟩
     ·exact hall m f (by omega) hf⟩, rfl, rfl, rfl, rfl, rfl⟩
           ·refine yaq ?_ (fun K hK => cmp2 (R := (400 : Int) < (lenO gd : Int)) (fun w => by omega) (fun w => by omega) (by rw [hb7]; exact hK))
            iterate 2 (refine yab ?_)
            iterate 11 (refine ybf ?_)
            refine yab ?_
            refine jW ?_
            refine jR _ ?_
            refine yab ?_
            refine jW ?_
            apply jH
            exact ⟨rfl, _, rfl, jO _, vN (hnot (fun w => by have := jT hb7; obtain ⟨_, w1, w2, w3, w4, _⟩ := w; simp only at w1 w2 w3 w4; omega))⟩
          ·refine yaq ?_ (fun K hK => cmp2 (R := (4000 : Int) < (lenO cd : Int)) (fun w => by omega) (fun w => by omega) (by rw [hb6]; exact hK))
           iterate 2 (refine yab ?_)
           iterate 4 (refine ybf ?_)
           iterate 2 (refine yab ?_)
           iterate 11 (refine ybf ?_)
           refine yab ?_
           refine jW ?_
           refine jR _ ?_
           refine yab ?_
           refine jW ?_
           apply jH
           exact ⟨rfl, _, rfl, jO _, vN (hnot (fun w => by have := jT hb6; obtain ⟨_, w1, w2, w3, w4, _⟩ := w; simp only at w1 w2 w3 w4; omega))⟩
         ·refine yaq ?_ (fun K hK => cmp2 (R := (lenO cd : Int) < 1) (fun w => by omega) (fun w => by omega) (by rw [hb5]; exact hK))
          iterate 2 (refine yab ?_)
          iterate 4 (refine ybf ?_)
          iterate 2 (refine yab ?_)
          iterate 4 (refine ybf ?_)
          iterate 2 (refine yab ?_)
          iterate 11 (refine ybf ?_)
          refine yab ?_
          refine jW ?_
          refine jR _ ?_
          refine yab ?_
          refine jW ?_
          apply jH
          exact ⟨rfl, _, rfl, jO _, vN (hnot (fun w => by have := jT hb5; obtain ⟨_, w1, w2, w3, w4, _⟩ := w; simp only at w1 w2 w3 w4; omega))⟩
        ·refine yaq ?_ (fun K hK => cmp2 (R := 200 < s) (fun w => by omega) (fun w => by omega) (by rw [hb4]; exact hK))
         iterate 2 (refine yab ?_)
         iterate 4 (refine ybf ?_)
         iterate 2 (refine yab ?_)
         iterate 4 (refine ybf ?_)
         iterate 2 (refine yab ?_)
         iterate 4 (refine ybf ?_)
         iterate 2 (refine yab ?_)
         iterate 11 (refine ybf ?_)
         refine yab ?_
         refine jW ?_
         refine jR _ ?_
         refine yab ?_
         refine jW ?_
         apply jH
         exact ⟨rfl, _, rfl, jO _, vN (hnot (fun w => by have := jT hb4; obtain ⟨_, w1, w2, w3, w4, _⟩ := w; simp only at w1 w2 w3 w4; omega))⟩
       ·refine yaq ?_ (fun K hK => cmp2 (R := s < q) (fun w => by omega) (fun w => by omega) (by rw [hb3]; exact hK))
        iterate 2 (refine yab ?_)
        iterate 3 (refine ybf ?_)
        iterate 2 (refine yab ?_)
        iterate 4 (refine ybf ?_)
        iterate 2 (refine yab ?_)
        iterate 4 (refine ybf ?_)
        iterate 2 (refine yab ?_)
        iterate 4 (refine ybf ?_)
        iterate 2 (refine yab ?_)
        iterate 11 (refine ybf ?_)
        refine yab ?_
        refine jW ?_
        refine jR _ ?_
        refine yab ?_
        refine jW ?_
        apply jH
        exact ⟨rfl, _, rfl, jO _, vN (hnot (fun w => by have := jT hb3; obtain ⟨_, w1, w2, w3, w4, _⟩ := w; simp only at w1 w2 w3 w4; omega))⟩
      ·refine yaq ?_ (fun K hK => cmp2 (R := 5 < q) (fun w => by omega) (fun w => by omega) (by rw [hb2]; exact hK))
       iterate 2 (refine yab ?_)
       iterate 5 (refine ybf ?_)
       iterate 2 (refine yab ?_)
       iterate 3 (refine ybf ?_)
       iterate 2 (refine yab ?_)
       iterate 4 (refine ybf ?_)
       iterate 2 (refine yab ?_)
       iterate 4 (refine ybf ?_)
       iterate 2 (refine yab ?_)
       iterate 4 (refine ybf ?_)
       iterate 2 (refine yab ?_)
       iterate 11 (refine ybf ?_)
       refine yab ?_
       refine jW ?_
       refine jR _ ?_
       refine yab ?_
       refine jW ?_
       apply jH
       exact ⟨rfl, _, rfl, jO _, vN (hnot (fun w => by have := jT hb2; obtain ⟨_, w1, w2, w3, w4, _⟩ := w; simp only at w1 w2 w3 w4; omega))⟩
     ·refine yaq ?_ (fun K hK => cmp2 (R := q < 0) (fun w => by omega) (fun w => by omega) (by rw [hb1]; exact hK))
      iterate 2 (refine yab ?_)
      iterate 3 (refine ybf ?_)
      iterate 2 (refine yab ?_)
      iterate 5 (refine ybf ?_)
      iterate 2 (refine yab ?_)
      iterate 3 (refine ybf ?_)
      iterate 2 (refine yab ?_)
      iterate 4 (refine ybf ?_)
      iterate 2 (refine yab ?_)
      iterate 4 (refine ybf ?_)
      iterate 2 (refine yab ?_)
      iterate 4 (refine ybf ?_)
      iterate 2 (refine yab ?_)
      iterate 11 (refine ybf ?_)
      refine yab ?_
      refine jW ?_
      refine jR _ ?_
      refine yab ?_
      refine jW ?_
      apply jH
      exact ⟨rfl, _, rfl, jO _, vN (hnot (fun w => by have := jT hb1; obtain ⟨_, w1, w2, w3, w4, _⟩ := w; simp only at w1 w2 w3 w4; omega))⟩
   have hi : i = (c.getD []).length := by omega
   have hheads : ∀ (j : Nat) (f : Fnc), (c.getD [])[j]? = some f → headP f ∧ ∀ x ∈ (c.getD []).take j, x.nm ≠ f.nm := fun j f hf => hall j f (by have := (List.getElem?_eq_some_iff.1 hf).1; omega) hf
   clear hall
   refine jW ?_
   refine jR _ ?_
   iterate 2 (refine yab ?_)
   refine yab ?_ (fun K hK => yaf (yah hbx rfl) hK)
   refine yab ?_ (fun K hK => yan (f := fncV) rfl rfl hK)
   refine yab ?_ (fun K hK => jI (fun q => absurd q (by rw [hll]; omega)) (fun _ => hK))
   refine jW ?_
   refine jR _ ?_
   refine yab ?_
   refine jW ?_
   refine RunP.loop (rv3I c (c.getD [])) ?_ (c.getD []).length ⟨0, _, ⟨⟨Nat.zero_add _, rfl⟩, hbx, by simp⟩, rfl, rfl, rfl, rfl, rfl⟩
   clear hbx
   intro k3 st3 g3 hI
   obtain ⟨i3, z, x3, ⟨⟨hik3, hz⟩, hbx3, hbod⟩, rfl⟩ := rv3I_lit hI
   clear hI
   subst hz
   by_cases hi3 : i3 < (c.getD []).length
   case neg =>
    have hi3 : i3 = (c.getD []).length := by omega
    rw [hi3, List.take_length] at hbod
    refine jW ?_
    refine jR _ ?_
    iterate 2 (refine yab ?_)
    refine yab ?_ (fun K hK => yaf (yah hbx3 rfl) hK)
    refine yab ?_ (fun K hK => yan (f := fncV) rfl rfl hK)
    refine yab ?_ (fun K hK => jI (fun q => absurd q (by rw [hll]; omega)) (fun _ => hK))
    refine jW ?_
    refine jR _ ?_
    refine yab ?_
    refine jW ?_
    apply jH
    exact ⟨rfl, _, rfl, jO _, vY ⟨by omega, hheads, hbod⟩⟩
   refine jW ?_
   refine jR _ ?_
   iterate 2 (refine yab ?_)
   refine yab ?_ (fun K hK => yaf (yah hbx3 rfl) hK)
   refine yab ?_ (fun K hK => yan (f := fncV) rfl rfl hK)
   refine yab ?_ (fun K hK => jI (fun _ => hK) (fun q => absurd q (by rw [hll]; omega)))
   obtain ⟨L, rfl⟩ : ∃ l', c = some l' := by
    cases c with
    | none => simp at hi3
    | some l => exact ⟨l, rfl⟩
   simp only [Option.getD_some] at *
   obtain ⟨f0, hf0⟩ : ∃ y, L[i3]? = some y := ⟨_, List.getElem?_eq_getElem hi3⟩
   have hmem := List.mem_of_getElem? hf0
   obtain ⟨hnm, hgl, hII⟩ := hok.2 f0 (by simp only [Option.getD_some]; exact hmem)
   have hhd := (hheads i3 f0 hf0).1
   have hnot : ¬ bodyP (some L) f0 → ¬ ygk (some L) := fun q w => q (w.2.2 f0 hmem)
   obtain ⟨cdl, hcd⟩ : ∃ l', f0.cd = some l' := by
    have := hhd.2.2.2.1.1
    cases hq : f0.cd with
    | none => rw [hq] at this; simp [lenO] at this
    | some l => exact ⟨l, rfl⟩
   have hS : 0 ≤ f0.s ∧ f0.s ≤ 200 := by have := hhd.2.1; have := hhd.2.2.1; omega
   have hl4 : lenO f0.cd ≤ 4000 := hhd.2.2.2.1.2
   have hc16 : lenO (some L) ≤ 1000 := by omega
   have hcll : lenO f0.cd = cdl.length := by rw [hcd]; rfl
   have hcb : (push g3 (.cells 81 (ckC (some L) f0)))[g3.length]? = some (.cells 81 (ckC (some L) f0)) := ydm _ _
   have hbq : (push g3 (.cells 81 (ckC (some L) f0)))[0]? = some (.cells 25 [optL 5 fncV (some L)]) := ydl hbx3
   refine jW ?_
   refine RunP.drawnR _ (by decide +kernel) (fun _ => rfl) ?_
   refine yfd rfl (fun K hK => yaf (v := codV (some L)) (yah hbx3 rfl) hK) (by decide +kernel) rfl ?_
   refine ycz rfl (fun _ => id) (by decide +kernel) rfl ?_
   refine yfd rfl (fun K hK => yaf (v := optL 5 fncV (some L)) (yah hbx3 rfl) hK) (by decide +kernel) rfl ?_
   refine ycz rfl (fun _ => id) (by decide +kernel) rfl ?_
   refine ycz rfl (fun K hK => jI (by omega) (jI rfl (Exists.intro (fncV f0) (jI (by rw [List.getElem?_map]; simp [hf0]) hK)))) (by decide +kernel) rfl ?_
   refine yfd rfl (fun _ => id) (by decide +kernel) rfl ?_
   refine ycz rfl (fun K hK => yaf (yww (some L) f0) hK) (by decide +kernel) rfl ?_
   refine yrj rfl (fun _ => id) (by decide +kernel) (ygj (StillK.of (by exact rfl)) (ygj (StillK.of (yaf (v := optL 5 fncV (some L)) (yah (ydl hbx3) rfl) rfl)) (ygj (StillK.of (yaf (v := codV (some L)) (yah (ydl hbx3) rfl) rfl)) trivial))) rfl ?_
   refine yrj rfl (fun K hK => yaf (yex (E := envQ) (t := 81) (n := 6) (v := ckV (some L) f0) rfl rfl rfl rfl (yeo (ych _ _))) hK) (by decide +kernel) (ybw (by decide +kernel) (ybw (by decide +kernel) (ybw (by decide +kernel) trivial))) rfl ?_
   refine jW ?_
   refine jR _ ?_
   refine yab ?_
   refine jW ?_
   refine RunP.loop (rv4I (some L) f0 cdl i3 g3.length) ?_ cdl.length ⟨0, _, ⟨⟨Nat.zero_add _, rfl⟩, hbq, hcb, fun j x hj => absurd hj (by omega)⟩, rfl, rfl, rfl, rfl, rfl, rfl, rfl⟩
   clear hbx3 hcb hbq
   intro k4 st4 g4 hI
   obtain ⟨j, z, x4, ⟨⟨hjk, hz⟩, hbx4, hcb4, hins⟩, rfl⟩ := rv4I_lit hI
   clear hI
   subst hz
   by_cases hj : j < cdl.length
   case pos =>
    obtain ⟨x0, hx0⟩ : ∃ y, cdl[j]? = some y := ⟨_, List.getElem?_eq_getElem hj⟩
    obtain ⟨hxl, hxs⟩ := hII x0 (by rw [hcd]; exact List.mem_of_getElem? hx0)
    have kq := ywv g4 (some L) f0 cdl j x0 hS hl4 hc16 hxl hcd (by omega) hxs
    refine jW ?_
    refine jR _ ?_
    iterate 3 (refine yab ?_)
    refine yab ?_ (fun K hK => yaf (yah hcb4 rfl) hK)
    refine yab ?_ (fun K hK => yan (f := insV) rfl rfl hK)
    refine yab ?_ (fun K hK => jI (fun _ => hK) (fun q => absurd q (by rw [hcll]; omega)))
    refine jW ?_
    refine RunP.drawnR _ (by decide +kernel) (fun _ => rfl) ?_
    refine yfd rfl (fun K hK => yaf (v := ckV (some L) f0) (yah hcb4 rfl) hK) (by decide +kernel) rfl ?_
    refine ycz rfl (fun _ => id) (by decide +kernel) rfl ?_
    refine ycz rfl (fun _ => id) (by decide +kernel) rfl ?_
    refine yfd rfl (fun K hK => yaf (v := optL 8 insV f0.cd) (yah hcb4 rfl) hK) (by decide +kernel) rfl ?_
    refine ycz rfl (fun _ => id) (by decide +kernel) rfl ?_
    refine ycz rfl (fun K hK => idx_opt (i := (j : Int)) hcd (by omega) hx0 hK) (by decide +kernel) rfl ?_
    refine yfd rfl (fun _ => id) (by decide +kernel) rfl ?_
    refine ycz rfl (fun _ => id) (by decide +kernel) rfl ?_
    refine yfd rfl (fun K hK => CallK.of kq hK) (by decide +kernel) rfl ?_
    refine ycz rfl (fun _ => id) (by decide +kernel) rfl ?_
    by_cases hp : rInsP (some L) f0 cdl j x0
    ·rw [decide_eq_true hp]
     refine jW ?_
     refine jR _ ?_
     iterate 3 (refine yab ?_)
     exact ⟨k4 - 1, by omega, j + 1, _, ⟨⟨by omega, ycj j (by omega)⟩, hbx4, hcb4, by
       intro m y hm hy
       by_cases e : m = j
       ·subst e; rw [hx0] at hy; cases hy; exact hp
       ·exact hins m y (by omega) hy⟩, rfl, rfl, rfl, rfl, rfl, rfl, rfl⟩
    ·rw [decide_eq_false hp]
     refine jW ?_
     refine jR _ ?_
     refine yab ?_
     refine jW ?_
     apply jH
     exact ⟨rfl, _, rfl, jO _, vN (hnot (fun w => hp (by have := w.1 j x0; rw [hcd] at this; exact this hx0)))⟩
   have hj : j = cdl.length := by omega
   have hgll : lenO f0.gd = (f0.gd.getD []).length := rfl
   refine jW ?_
   refine jR _ ?_
   iterate 3 (refine yab ?_)
   refine yab ?_ (fun K hK => yaf (yah hcb4 rfl) hK)
   refine yab ?_ (fun K hK => yan (f := insV) rfl rfl hK)
   refine yab ?_ (fun K hK => jI (fun q => absurd q (by rw [hcll]; omega)) (fun _ => hK))
   refine jW ?_
   refine jR _ ?_
   refine yab ?_
   refine jW ?_
   refine RunP.loop (rv5I (some L) f0 (f0.gd.getD []) i3 g3.length) ?_ (f0.gd.getD []).length ⟨0, _, ⟨⟨Nat.zero_add _, rfl⟩, hbx4, hcb4, by simp⟩, rfl, rfl, rfl, rfl, rfl, rfl, rfl⟩
   clear hbx4 hcb4
   intro k5 st5 g5 hI
   obtain ⟨m, z, x5, ⟨⟨hmk, hz⟩, hbx5, hcb5, hgs⟩, rfl⟩ := rv5I_lit hI
   clear hI
   subst hz
   by_cases hm : m < (f0.gd.getD []).length
   case neg =>
    have hm : m = (f0.gd.getD []).length := by omega
    rw [hm, List.take_length] at hgs
    refine jW ?_
    refine jR _ ?_
    iterate 3 (refine yab ?_)
    refine yab ?_ (fun K hK => yaf (yah hcb5 rfl) hK)
    refine yab ?_ (fun K hK => yan (f := grdV) rfl rfl hK)
    refine yab ?_ (fun K hK => jI (fun q => absurd q (by rw [hgll]; omega)) (fun _ => hK))
    refine jW ?_
    refine jR _ ?_
    iterate 3 (refine yab ?_)
    exact ⟨k3 - 1, by omega, i3 + 1, _, ⟨⟨by (try simp only [Option.getD_some]); omega, ycj i3 (by omega)⟩, hbx5, by
      intro f hf
      try simp only [Option.getD_some] at hf
      rw [List.take_add_one, hf0] at hf
      rcases List.mem_append.1 hf with q | q
      ·exact hbod f q
      ·simp at q; subst q
       refine ⟨fun k x hk => ?_, hgs⟩
       rw [hcd] at hk ⊢
       try simp only [Option.getD_some] at hk ⊢
       exact hins k x (by have := (List.getElem?_eq_some_iff.1 hk).1; omega) hk⟩, rfl, rfl, rfl, rfl, rfl⟩
   obtain ⟨gdl, hgd⟩ : ∃ l', f0.gd = some l' := by
    cases hq : f0.gd with
    | none => rw [hq] at hm; simp at hm
    | some l => exact ⟨l, rfl⟩
   have hgg : f0.gd.getD [] = gdl := by rw [hgd]; rfl
   have hgl2 : lenO f0.gd = gdl.length := by rw [hgd]; rfl
   have hg4 := hhd.2.2.2.2.1
   rw [hgg] at hm hgs hmk
   obtain ⟨g0, hg0⟩ : ∃ y, gdl[m]? = some y := ⟨_, List.getElem?_eq_getElem hm⟩
   have hnog : ¬ rGrdP f0 g0 → ¬ bodyP (some L) f0 := fun q w => q (w.2 g0 (by rw [hgg]; exact List.mem_of_getElem? hg0))
   obtain ⟨gf, gt, gp, gs⟩ := g0
   have hgb : (push g5 (.cells 70 [.int .i64 gf, .int .i64 gt, .int .i64 gp, .int .i64 gs]))[g5.length]? = some (.cells 70 [.int .i64 gf, .int .i64 gt, .int .i64 gp, .int .i64 gs]) := ydm _ _
   have hcb6 : (push g5 (.cells 70 [.int .i64 gf, .int .i64 gt, .int .i64 gp, .int .i64 gs]))[g3.length]? = some (.cells 81 (ckC (some L) f0)) := ydl hcb5
   have hbx6 : (push g5 (.cells 70 [.int .i64 gf, .int .i64 gt, .int .i64 gp, .int .i64 gs]))[0]? = some (.cells 25 [optL 5 fncV (some L)]) := ydl hbx5
   refine jW ?_
   refine jR _ ?_
   iterate 3 (refine yab ?_)
   refine yab ?_ (fun K hK => yaf (yah hcb5 rfl) hK)
   refine yab ?_ (fun K hK => yan (f := grdV) rfl rfl hK)
   refine yab ?_ (fun K hK => jI (fun _ => hK) (fun q => absurd q (by rw [hgll, hgg]; omega)))
   refine jW ?_
   refine jR _ ?_
   iterate 2 (refine yab ?_)
   refine yab ?_ (fun K hK => yaf (v := optL 4 grdV f0.gd) (yah hcb5 rfl) hK)
   refine yab ?_
   refine yab ?_ (fun K hK => idx_optg (i := (m : Int)) hgd (by omega) hg0 hK)
   refine yab (v := .agg [.int .i64 gf, .int .i64 gt, .int .i64 gp, .int .i64 gs]) (g := g5) ?_
   refine yab (v := .ptr g5.length 0 4) (g := push g5 (.cells 70 ty70.zero)) ?_
   refine yab ?_ (fun K hK => yaf (yex (E := envQ) (t := 70) (n := 4) (v := .agg [.int .i64 gf, .int .i64 gt, .int .i64 gp, .int .i64 gs]) rfl rfl rfl rfl (yeo (yij ⟨gf, gt, gp, gs⟩))) hK)
   obtain ⟨b1, hb1⟩ : ∃ w, decide (gt ≤ gf) = w := ⟨_, rfl⟩
   obtain ⟨b2, hb2⟩ : ∃ w, decide (plP (lenO f0.cd) gf) = w := ⟨_, rfl⟩
   have k2 := yhc (push g5 (.cells 70 [.int .i64 gf, .int .i64 gt, .int .i64 gp, .int .i64 gs])) (some L) f0 gf hl4
   rw [hb2] at k2
   obtain ⟨b3, hb3⟩ : ∃ w, decide ((lenO f0.cd : Int) < gt) = w := ⟨_, rfl⟩
   obtain ⟨b4, hb4⟩ : ∃ w, decide (plP (lenO f0.cd) gp) = w := ⟨_, rfl⟩
   have k4' := yhc (push g5 (.cells 70 [.int .i64 gf, .int .i64 gt, .int .i64 gp, .int .i64 gs])) (some L) f0 gp hl4
   rw [hb4] at k4'
   obtain ⟨b5, hb5⟩ : ∃ w, decide (slP f0.s gs 2) = w := ⟨_, rfl⟩
   have k5' := yct (push g5 (.cells 70 [.int .i64 gf, .int .i64 gt, .int .i64 gp, .int .i64 gs])) (some L) f0 gs 2 hS (by omega)
   rw [hb5] at k5'
   refine jW ?_
   refine jR _ ?_
   refine yab ?_
   refine yab ?_ (fun K hK => yaf (yah hgb rfl) hK)
   refine yab ?_
   refine yab ?_ (fun K hK => yaf (yah hgb rfl) hK)
   cases b1
   ·refine yab ?_ (fun K hK => cmp2 (R := gt ≤ gf) (fun w => by omega) (fun w => by omega) (by rw [hb1]; exact hK))
    refine yab ?_
    refine yaq ?_ (fun K hK => yaf (v := ckV (some L) f0) (yah hcb6 rfl) hK)
    refine yaq ?_
    refine yaq ?_ (fun K hK => yaf (yah hgb rfl) hK)
    cases b2
    ·refine yaq ?_ (fun K hK => CallK.of k2 hK)
     refine yaq ?_
     iterate 2 (refine yab ?_)
     iterate 7 (refine ybf ?_)
     iterate 2 (refine yab ?_)
     iterate 5 (refine ybf ?_)
     iterate 2 (refine yab ?_)
     iterate 5 (refine ybf ?_)
     refine yab ?_
     refine jW ?_
     refine jR _ ?_
     refine yab ?_
     refine jW ?_
     apply jH
     exact ⟨rfl, _, rfl, jO _, vN (hnot (hnog (fun w => absurd w.2.1 (jU hb2))))⟩
    ·refine yaq ?_ (fun K hK => CallK.of k2 hK)
     refine yaq ?_
     iterate 2 (refine yab ?_)
     refine yaq ?_
     refine yaq ?_ (fun K hK => yaf (yah hgb rfl) hK)
     iterate 2 (refine yaq ?_)
     refine yaq ?_ (fun K hK => yaf (v := optL 8 insV f0.cd) (yah hcb6 rfl) hK)
     refine yaq ?_ (fun K hK => yan (f := insV) rfl rfl hK)
     cases b3
     ·refine yaq ?_ (fun K hK => cmp2 (R := (lenO f0.cd : Int) < gt) (fun w => by omega) (fun w => by omega) (by rw [hb3]; exact hK))
      iterate 2 (refine yab ?_)
      refine yaq ?_ (fun K hK => yaf (v := ckV (some L) f0) (yah hcb6 rfl) hK)
      refine yaq ?_
      refine yaq ?_ (fun K hK => yaf (yah hgb rfl) hK)
      cases b4
      ·refine yaq ?_ (fun K hK => CallK.of k4' hK)
       refine yaq ?_
       iterate 2 (refine yab ?_)
       iterate 5 (refine ybf ?_)
       refine yab ?_
       refine jW ?_
       refine jR _ ?_
       refine yab ?_
       refine jW ?_
       apply jH
       exact ⟨rfl, _, rfl, jO _, vN (hnot (hnog (fun w => absurd w.2.2.2.1 (jU hb4))))⟩
      ·refine yaq ?_ (fun K hK => CallK.of k4' hK)
       refine yaq ?_
       iterate 2 (refine yab ?_)
       refine yaq ?_ (fun K hK => yaf (v := ckV (some L) f0) (yah hcb6 rfl) hK)
       refine yaq ?_
       refine yaq ?_ (fun K hK => yaf (yah hgb rfl) hK)
       cases b5
       ·refine yaq ?_ (fun K hK => CallK.of k5' hK)
        refine yaq ?_
        refine yab ?_
        refine jW ?_
        refine jR _ ?_
        refine yab ?_
        refine jW ?_
        apply jH
        exact ⟨rfl, _, rfl, jO _, vN (hnot (hnog (fun w => absurd w.2.2.2.2 (jU hb5))))⟩
       ·refine yaq ?_ (fun K hK => CallK.of k5' hK)
        refine yaq ?_
        refine yab ?_
        refine jW ?_
        refine jR _ ?_
        iterate 3 (refine yab ?_)
        exact ⟨k5 - 1, by omega, m + 1, _, ⟨⟨by rw [hgg]; omega, ycj m (by omega)⟩, hbx6, hcb6, by
      intro y hy
      rw [hgg, List.take_add_one, hg0] at hy
      rcases List.mem_append.1 hy with q | q
      ·exact hgs y q
      ·simp at q; subst q
       have w1 := jU hb1
       have w3 := jU hb3
       exact ⟨by simp only; omega, jT hb2, by simp only; omega, jT hb4, jT hb5⟩⟩, rfl, rfl, rfl, rfl, rfl, rfl, rfl⟩
     ·refine yaq ?_ (fun K hK => cmp2 (R := (lenO f0.cd : Int) < gt) (fun w => by omega) (fun w => by omega) (by rw [hb3]; exact hK))
      iterate 2 (refine yab ?_)
      iterate 5 (refine ybf ?_)
      iterate 2 (refine yab ?_)
      iterate 5 (refine ybf ?_)
      refine yab ?_
      refine jW ?_
      refine jR _ ?_
      refine yab ?_
      refine jW ?_
      apply jH
      exact ⟨rfl, _, rfl, jO _, vN (hnot (hnog (fun w => by have := jT hb3; have := w.2.2.1; simp only at this; omega)))⟩
   ·refine yab ?_ (fun K hK => cmp2 (R := gt ≤ gf) (fun w => by omega) (fun w => by omega) (by rw [hb1]; exact hK))
    refine yab ?_
    iterate 5 (refine ybf ?_)
    iterate 2 (refine yab ?_)
    iterate 7 (refine ybf ?_)
    iterate 2 (refine yab ?_)
    iterate 5 (refine ybf ?_)
    iterate 2 (refine yab ?_)
    iterate 5 (refine ybf ?_)
    refine yab ?_
    refine jW ?_
    refine jR _ ?_
    refine yab ?_
    refine jW ?_
    apply jH
    exact ⟨rfl, _, rfl, jO _, vN (hnot (hnog (fun w => by have := jT hb1; have := w.1; simp only at this; omega)))⟩
  ·refine yaq ?_ (fun K hK => cmp2 (R := (16 : Int) < (lenO c : Int)) (fun w => by omega) (fun w => by omega) (by rw [hbG]; exact hK))
   refine yab ?_
   refine jW ?_
   refine jR _ ?_
   refine yab ?_
   refine jW ?_
   apply jH
   exact ⟨rfl, _, rfl, jO _, vN (fun w => by have := jT hbG; have := w.1; omega)⟩
 ·refine yab ?_ (fun K hK => cmp2 (R := (lenO c : Int) < 1) (fun w => by omega) (fun w => by omega) (by rw [hbE]; exact hK))
  refine yab ?_
  iterate 4 (refine ybf ?_)
  refine yab ?_
  refine jW ?_
  refine jR _ ?_
  refine yab ?_
  refine jW ?_
  apply jH
  exact ⟨rfl, _, rfl, jO _, vN (fun w => by have := jT hbE; have := w.1; omega)⟩
end Go.Proofs.YtekmafoicobphaaGreatDoor
