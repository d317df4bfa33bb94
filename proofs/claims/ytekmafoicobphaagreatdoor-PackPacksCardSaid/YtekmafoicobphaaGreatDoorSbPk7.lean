/- Packed codes: the reference's Pack. -/
import Derived.Test.YtekmafoicobphaaGreatDoorSbPk6
import Derived.Test.YtekmafoicobphaaGreatDoorSbPk4
set_option linter.unusedVariables false
set_option linter.unusedSimpArgs false
namespace Go.Proofs.YtekmafoicobphaaGreatDoor
open Go.Sb
set_option maxRecDepth 100000
theorem ydk {E : Env} {md : Go.FuncId → Sb.Mode} {o : ROp} {os : List ROp} {s : List V} {h g : Heap} {v : V} {K : List V → Heap → Prop} {a0 a1 a2 a3 a4 a5 a6 a7 a8 a9 a10 a11 a12 a13 a14 a15 a16 a17 a18 a19 a20 a21 : V} (hn : yai E md os [a0, a1, a2, a3, a4, a5, a6, a7, a8, a9, a10, a11, a12, a13, a14, a15, a16, a17, a18, a19, a20, a21] g K) (hop : ∀ K : V → Heap → Prop, K v g → runOp E md o.op s h K := by exact fun _ => id) (hg : o.gd = none := by rfl) (hs : putT s o.dst v = [a0, a1, a2, a3, a4, a5, a6, a7, a8, a9, a10, a11, a12, a13, a14, a15, a16, a17, a18, a19, a20, a21] := by rfl) : yai E md (o :: os) s h K := ybl hg hop hs hn
theorem yxw (u : Bs8) (hu : u.length ≤ 2 ^ 38) : [V.int .u8 (IntKind.u8.wrap ((sumB u).fdiv (2 ^ (min 24 64)))), .int .u8 (IntKind.u8.wrap ((sumB u).fdiv (2 ^ (min 16 64)))), .int .u8 (IntKind.u8.wrap ((sumB u).fdiv (2 ^ (min 8 64)))), .int .u8 (IntKind.u8.wrap (sumB u))] = bv (sumL u) := by
 have hs := yru u
 have e1 : IntKind.u8.wrap ((sumB u).fdiv (2 ^ (min 24 64))) = ((UInt8.ofNat ((sumB u).toNat / 16777216)).toNat : Int) := by
  show IntKind.u8.wrap ((sumB u).fdiv 16777216) = _
  rw [Int.fdiv_eq_ediv_of_nonneg _ (by decide), yfx (by omega), show ((sumB u) / 16777216).toNat = (sumB u).toNat / 16777216 from by omega]
 have e2 : IntKind.u8.wrap ((sumB u).fdiv (2 ^ (min 16 64))) = ((UInt8.ofNat ((sumB u).toNat / 65536)).toNat : Int) := by
  show IntKind.u8.wrap ((sumB u).fdiv 65536) = _
  rw [Int.fdiv_eq_ediv_of_nonneg _ (by decide), yfx (by omega), show ((sumB u) / 65536).toNat = (sumB u).toNat / 65536 from by omega]
 have e3 : IntKind.u8.wrap ((sumB u).fdiv (2 ^ (min 8 64))) = ((UInt8.ofNat ((sumB u).toNat / 256)).toNat : Int) := by
  show IntKind.u8.wrap ((sumB u).fdiv 256) = _
  rw [Int.fdiv_eq_ediv_of_nonneg _ (by decide), yfx (by omega), show ((sumB u) / 256).toNat = (sumB u).toNat / 256 from by omega]
 rw [e1, e2, e3, yfx (by omega)]
 rfl
set_option maxHeartbeats 2000000 in
theorem yxx (h : Heap) (u : Bs8) (hu : u.length ≤ 2 ^ 38) : Has envQ .own 50 [.str u] h (.val (.str (sealB u)) h) := by
 refine HasP.own (a := [.str u]) (d := fn50) rfl rfl rfl (jT rfl) ?_
 have hw := yxw u hu
 have hrw : InRow [.cells 5 [V.int .u8 (IntKind.u8.wrap ((sumB u).fdiv (2 ^ (min 24 64)))), .int .u8 (IntKind.u8.wrap ((sumB u).fdiv (2 ^ (min 16 64)))), .int .u8 (IntKind.u8.wrap ((sumB u).fdiv (2 ^ (min 8 64)))), .int .u8 (IntKind.u8.wrap (sumB u))]] 5 1 (.sl 0 0 1 4 4 4) (bv (sumL u)) := by
  rw [hw]; exact .inr ⟨0, rfl, by rw [yey]; rfl, by simp [bv, sumL]⟩
 have hcv : yef envQ 49 9 (.sl 0 0 1 4 4 4) [.cells 5 [V.int .u8 (IntKind.u8.wrap ((sumB u).fdiv (2 ^ (min 24 64)))), .int .u8 (IntKind.u8.wrap ((sumB u).fdiv (2 ^ (min 16 64)))), .int .u8 (IntKind.u8.wrap ((sumB u).fdiv (2 ^ (min 8 64)))), .int .u8 (IntKind.u8.wrap (sumB u))]] = some (.str (sumL u), [.cells 5 [V.int .u8 (IntKind.u8.wrap ((sumB u).fdiv (2 ^ (min 24 64)))), .int .u8 (IntKind.u8.wrap ((sumB u).fdiv (2 ^ (min 16 64)))), .int .u8 (IntKind.u8.wrap ((sumB u).fdiv (2 ^ (min 8 64)))), .int .u8 (IntKind.u8.wrap (sumB u))]]) := by
  obtain ⟨pv, hpv, h1, h2⟩ := ymo (ykl (E := envQ) (t := 49) (T := 5) (st := 9) (K := fun v h => v = .str (sumL u) ∧ h = [.cells 5 [V.int .u8 (IntKind.u8.wrap ((sumB u).fdiv (2 ^ (min 24 64)))), .int .u8 (IntKind.u8.wrap ((sumB u).fdiv (2 ^ (min 16 64)))), .int .u8 (IntKind.u8.wrap ((sumB u).fdiv (2 ^ (min 8 64)))), .int .u8 (IntKind.u8.wrap (sumB u))]]) rfl rfl rfl rfl rfl rfl rfl hrw ⟨rfl, rfl⟩)
  rw [hpv]
  obtain ⟨p1, p2⟩ := pv
  simp only at h1 h2
  rw [h1, h2]
 refine jW ?_
 refine jR _ ?_
 refine ydk ?_
 refine jW ?_
 refine jR _ ?_
 refine ydk ?_
 refine ydk ?_ (fun K hK => CallK.of (yxu _ u (by omega)) hK)
 refine ydk ?_
 refine jW ?_
 refine jR _ ?_
 iterate 2 (refine ydk ?_)
 refine ydk ?_ (fun K hK => jI (by decide) hK)
 iterate 2 (refine ydk ?_)
 refine ydk ?_ (fun K hK => jI (by decide) hK)
 iterate 2 (refine ydk ?_)
 refine ydk ?_ (fun K hK => jI (by decide) hK)
 iterate 3 (refine ydk ?_)
 refine ydk (v := .sl 0 0 1 4 4 4) (g := [.cells 5 [V.int .u8 (IntKind.u8.wrap ((sumB u).fdiv (2 ^ (min 24 64)))), .int .u8 (IntKind.u8.wrap ((sumB u).fdiv (2 ^ (min 16 64)))), .int .u8 (IntKind.u8.wrap ((sumB u).fdiv (2 ^ (min 8 64)))), .int .u8 (IntKind.u8.wrap (sumB u))]]) ?_
 refine ydk ?_ (fun K hK => ykc hcv hK)
 refine ydk ?_ (fun K hK => jI (by simp [sumL]; omega) hK)
 refine ydk ?_
 refine jW ?_
 apply jH
 exact ⟨rfl, rfl, rfl⟩
def poI (c : Cod) (pre : Bs8) (k : Nat) (s : List V) (h : Heap) : Prop :=
 ∃ (i : Nat) (z : Int) (o : V), ((i + k = (c.getD []).length ∧ z = i) ∧ InRow h 5 1 o (bv (pre ++ ((c.getD []).take i).flatMap fncPB)) ∧ h[0]? = some (.cells 25 [optL 5 fncV c])) ∧ s.length = 100 ∧ s.getD 0 und = und ∧ s.getD 2 und = .ptr 0 0 1 ∧ s.getD 3 und = .str [] ∧ s.getD 4 und = o ∧ s.getD 5 und = .int .i64 z
theorem poI_lit {c : Cod} {pre : Bs8} {k : Nat} {s : List V} {h : Heap} (hI : poI c pre k s h) : ∃ (i : Nat) (z : Int) (o : V) (x : Nat → V), ((i + k = (c.getD []).length ∧ z = i) ∧ InRow h 5 1 o (bv (pre ++ ((c.getD []).take i).flatMap fncPB)) ∧ h[0]? = some (.cells 25 [optL 5 fncV c])) ∧
  s = [und, x 1, .ptr 0 0 1, .str [], o, .int .i64 z, x 6, x 7, x 8, x 9, x 10, x 11, x 12, x 13, x 14, x 15, x 16, x 17, x 18, x 19, x 20, x 21, x 22, x 23, x 24, x 25, x 26, x 27, x 28, x 29, x 30, x 31, x 32, x 33, x 34, x 35, x 36, x 37, x 38, x 39, x 40, x 41, x 42, x 43, x 44, x 45, x 46, x 47, x 48, x 49, x 50, x 51, x 52, x 53, x 54, x 55, x 56, x 57, x 58, x 59, x 60, x 61, x 62, x 63, x 64, x 65, x 66, x 67, x 68, x 69, x 70, x 71, x 72, x 73, x 74, x 75, x 76, x 77, x 78, x 79, x 80, x 81, x 82, x 83, x 84, x 85, x 86, x 87, x 88, x 89, x 90, x 91, x 92, x 93, x 94, x 95, x 96, x 97, x 98, x 99] := by
 obtain ⟨i, z, o, hF, hl, e0, e2, e3, e4, e5⟩ := hI
 refine ⟨i, z, o, fun n => s.getD n und, hF, (ybb hl).trans ?_⟩
 simp only [List.range, List.range.loop, List.map_cons, List.map_nil]
 rw [e0, e2, e3, e4, e5]
def pcI (c : Cod) (pre : Bs8) (l : List Ins) (fc : List V) (w : Int) (fb : Nat) (k : Nat) (s : List V) (h : Heap) : Prop :=
 ∃ (i : Nat) (z : Int) (o : V), ((i + k = l.length ∧ z = i) ∧ InRow h 5 1 o (bv (pre ++ (l.take i).flatMap insPB)) ∧ h[0]? = some (.cells 25 [optL 5 fncV c]) ∧ h[fb]? = some (.cells 61 fc)) ∧ s.length = 100 ∧ s.getD 0 und = und ∧ s.getD 2 und = .ptr 0 0 1 ∧ s.getD 3 und = .str [] ∧ s.getD 4 und = o ∧ s.getD 5 und = .int .i64 w ∧ s.getD 6 und = .ptr fb 0 5 ∧ s.getD 7 und = .int .i64 z
theorem pcI_lit {c : Cod} {pre : Bs8} {l : List Ins} {fc : List V} {w : Int} {fb : Nat} {k : Nat} {s : List V} {h : Heap} (hI : pcI c pre l fc w fb k s h) : ∃ (i : Nat) (z : Int) (o : V) (x : Nat → V), ((i + k = l.length ∧ z = i) ∧ InRow h 5 1 o (bv (pre ++ (l.take i).flatMap insPB)) ∧ h[0]? = some (.cells 25 [optL 5 fncV c]) ∧ h[fb]? = some (.cells 61 fc)) ∧
  s = [und, x 1, .ptr 0 0 1, .str [], o, .int .i64 w, .ptr fb 0 5, .int .i64 z, x 8, x 9, x 10, x 11, x 12, x 13, x 14, x 15, x 16, x 17, x 18, x 19, x 20, x 21, x 22, x 23, x 24, x 25, x 26, x 27, x 28, x 29, x 30, x 31, x 32, x 33, x 34, x 35, x 36, x 37, x 38, x 39, x 40, x 41, x 42, x 43, x 44, x 45, x 46, x 47, x 48, x 49, x 50, x 51, x 52, x 53, x 54, x 55, x 56, x 57, x 58, x 59, x 60, x 61, x 62, x 63, x 64, x 65, x 66, x 67, x 68, x 69, x 70, x 71, x 72, x 73, x 74, x 75, x 76, x 77, x 78, x 79, x 80, x 81, x 82, x 83, x 84, x 85, x 86, x 87, x 88, x 89, x 90, x 91, x 92, x 93, x 94, x 95, x 96, x 97, x 98, x 99] := by
 obtain ⟨i, z, o, hF, hl, e0, e2, e3, e4, e5, e6, e7⟩ := hI
 refine ⟨i, z, o, fun n => s.getD n und, hF, (ybb hl).trans ?_⟩
 simp only [List.range, List.range.loop, List.map_cons, List.map_nil]
 rw [e0, e2, e3, e4, e5, e6, e7]
def pgI (c : Cod) (pre : Bs8) (l : List Grd) (fc : List V) (w : Int) (fb : Nat) (k : Nat) (s : List V) (h : Heap) : Prop :=
 ∃ (i : Nat) (z : Int) (o : V), ((i + k = l.length ∧ z = i) ∧ InRow h 5 1 o (bv (pre ++ (l.take i).flatMap grdPB)) ∧ h[0]? = some (.cells 25 [optL 5 fncV c]) ∧ h[fb]? = some (.cells 61 fc)) ∧ s.length = 100 ∧ s.getD 0 und = und ∧ s.getD 2 und = .ptr 0 0 1 ∧ s.getD 3 und = .str [] ∧ s.getD 4 und = o ∧ s.getD 5 und = .int .i64 w ∧ s.getD 6 und = .ptr fb 0 5 ∧ s.getD 8 und = .int .i64 z
theorem pgI_lit {c : Cod} {pre : Bs8} {l : List Grd} {fc : List V} {w : Int} {fb : Nat} {k : Nat} {s : List V} {h : Heap} (hI : pgI c pre l fc w fb k s h) : ∃ (i : Nat) (z : Int) (o : V) (x : Nat → V), ((i + k = l.length ∧ z = i) ∧ InRow h 5 1 o (bv (pre ++ (l.take i).flatMap grdPB)) ∧ h[0]? = some (.cells 25 [optL 5 fncV c]) ∧ h[fb]? = some (.cells 61 fc)) ∧
  s = [und, x 1, .ptr 0 0 1, .str [], o, .int .i64 w, .ptr fb 0 5, x 7, .int .i64 z, x 9, x 10, x 11, x 12, x 13, x 14, x 15, x 16, x 17, x 18, x 19, x 20, x 21, x 22, x 23, x 24, x 25, x 26, x 27, x 28, x 29, x 30, x 31, x 32, x 33, x 34, x 35, x 36, x 37, x 38, x 39, x 40, x 41, x 42, x 43, x 44, x 45, x 46, x 47, x 48, x 49, x 50, x 51, x 52, x 53, x 54, x 55, x 56, x 57, x 58, x 59, x 60, x 61, x 62, x 63, x 64, x 65, x 66, x 67, x 68, x 69, x 70, x 71, x 72, x 73, x 74, x 75, x 76, x 77, x 78, x 79, x 80, x 81, x 82, x 83, x 84, x 85, x 86, x 87, x 88, x 89, x 90, x 91, x 92, x 93, x 94, x 95, x 96, x 97, x 98, x 99] := by
 obtain ⟨i, z, o, hF, hl, e0, e2, e3, e4, e5, e6, e8⟩ := hI
 refine ⟨i, z, o, fun n => s.getD n und, hF, (ybb hl).trans ?_⟩
 simp only [List.range, List.range.loop, List.map_cons, List.map_nil]
 rw [e0, e2, e3, e4, e5, e6, e8]
theorem yfo (n : Nat) (hn : n < 2 ^ 63) : Wr 37 [.int .u64 (IntKind.u64.wrap n)] (numB n) := by
 rw [wrapU (by omega) (by omega)]; exact yiv n hn
theorem yno {α : Type} {l : List α} {i : Nat} {x : α} (hx : l[i]? = some x) (f : α → Bs8) : (l.take (i + 1)).flatMap f = (l.take i).flatMap f ++ f x ∧ ((l.take i).flatMap f).length + (f x).length ≤ (l.flatMap f).length := by
 have ht : (l.take (i + 1)).flatMap f = (l.take i).flatMap f ++ f x := by
  rw [List.take_add_one, hx]; simp
 refine ⟨ht, ?_⟩
 have : ((l.take (i + 1)).flatMap f).length ≤ (l.flatMap f).length := by
  conv => rhs; rw [← List.take_append_drop (i + 1) l, List.flatMap_append, List.length_append]
  omega
 rw [ht, List.length_append] at this
 exact this
theorem yhf {E : Env} {md : Go.FuncId → Sb.Mode} {A : List (List Nat)} {k : Nat} {o : ROp} {os : List ROp} {acc : List (Nat × Go.Op × List V × V)} {ws : List (Nat × Heap)} {s : List V} {h g : Heap} {v : V} {K : List V → Heap → Prop} {a0 a1 a2 a3 a4 a5 a6 a7 a8 a9 a10 a11 a12 a13 a14 a15 a16 a17 a18 a19 a20 a21 a22 a23 a24 a25 a26 a27 a28 a29 a30 a31 a32 a33 a34 a35 a36 a37 a38 a39 a40 a41 a42 a43 a44 a45 a46 a47 a48 a49 a50 a51 a52 a53 a54 a55 a56 a57 a58 a59 a60 a61 a62 a63 a64 a65 a66 a67 a68 a69 a70 a71 a72 a73 a74 a75 a76 a77 a78 a79 a80 a81 a82 a83 a84 a85 a86 a87 a88 a89 a90 a91 a92 a93 a94 a95 a96 a97 a98 a99 : V} (hg : o.gd = none) (hop : ∀ K : V → Heap → Prop, K v g → runOp E md o.op s h K) (hk : yal E md o.op = 2) (ha : accK E md (A.getD k []) g acc True) (hs : putT s o.dst v = [a0, a1, a2, a3, a4, a5, a6, a7, a8, a9, a10, a11, a12, a13, a14, a15, a16, a17, a18, a19, a20, a21, a22, a23, a24, a25, a26, a27, a28, a29, a30, a31, a32, a33, a34, a35, a36, a37, a38, a39, a40, a41, a42, a43, a44, a45, a46, a47, a48, a49, a50, a51, a52, a53, a54, a55, a56, a57, a58, a59, a60, a61, a62, a63, a64, a65, a66, a67, a68, a69, a70, a71, a72, a73, a74, a75, a76, a77, a78, a79, a80, a81, a82, a83, a84, a85, a86, a87, a88, a89, a90, a91, a92, a93, a94, a95, a96, a97, a98, a99]) (hn : ybd E md A (k + 1) os acc ((k, h) :: ws) [a0, a1, a2, a3, a4, a5, a6, a7, a8, a9, a10, a11, a12, a13, a14, a15, a16, a17, a18, a19, a20, a21, a22, a23, a24, a25, a26, a27, a28, a29, a30, a31, a32, a33, a34, a35, a36, a37, a38, a39, a40, a41, a42, a43, a44, a45, a46, a47, a48, a49, a50, a51, a52, a53, a54, a55, a56, a57, a58, a59, a60, a61, a62, a63, a64, a65, a66, a67, a68, a69, a70, a71, a72, a73, a74, a75, a76, a77, a78, a79, a80, a81, a82, a83, a84, a85, a86, a87, a88, a89, a90, a91, a92, a93, a94, a95, a96, a97, a98, a99] g K) : ybd E md A k (o :: os) acc ws s h K := yks hg hop hk ha hs hn
theorem yhg {E : Env} {md : Go.FuncId → Sb.Mode} {A : List (List Nat)} {k : Nat} {o : ROp} {os : List ROp} {acc : List (Nat × Go.Op × List V × V)} {ws : List (Nat × Heap)} {s : List V} {h g : Heap} {v : V} {K : List V → Heap → Prop} {a0 a1 a2 a3 a4 a5 a6 a7 a8 a9 a10 a11 a12 a13 a14 a15 a16 a17 a18 a19 a20 a21 a22 a23 a24 a25 a26 a27 a28 a29 a30 a31 a32 a33 a34 a35 a36 a37 a38 a39 a40 a41 a42 a43 a44 a45 a46 a47 a48 a49 a50 a51 a52 a53 a54 a55 a56 a57 a58 a59 a60 a61 a62 a63 a64 a65 a66 a67 a68 a69 a70 a71 a72 a73 a74 a75 a76 a77 a78 a79 a80 a81 a82 a83 a84 a85 a86 a87 a88 a89 a90 a91 a92 a93 a94 a95 a96 a97 a98 a99 : V} (hg : o.gd = none) (hop : ∀ K : V → Heap → Prop, K v g → runOp E md o.op s h K) (hk : yal E md o.op = 1) (hw : wasK E md (A.getD k []) (k, o.op, s, v) ws True) (hs : putT s o.dst v = [a0, a1, a2, a3, a4, a5, a6, a7, a8, a9, a10, a11, a12, a13, a14, a15, a16, a17, a18, a19, a20, a21, a22, a23, a24, a25, a26, a27, a28, a29, a30, a31, a32, a33, a34, a35, a36, a37, a38, a39, a40, a41, a42, a43, a44, a45, a46, a47, a48, a49, a50, a51, a52, a53, a54, a55, a56, a57, a58, a59, a60, a61, a62, a63, a64, a65, a66, a67, a68, a69, a70, a71, a72, a73, a74, a75, a76, a77, a78, a79, a80, a81, a82, a83, a84, a85, a86, a87, a88, a89, a90, a91, a92, a93, a94, a95, a96, a97, a98, a99]) (hn : ybd E md A (k + 1) os ((k, o.op, s, v) :: acc) ws [a0, a1, a2, a3, a4, a5, a6, a7, a8, a9, a10, a11, a12, a13, a14, a15, a16, a17, a18, a19, a20, a21, a22, a23, a24, a25, a26, a27, a28, a29, a30, a31, a32, a33, a34, a35, a36, a37, a38, a39, a40, a41, a42, a43, a44, a45, a46, a47, a48, a49, a50, a51, a52, a53, a54, a55, a56, a57, a58, a59, a60, a61, a62, a63, a64, a65, a66, a67, a68, a69, a70, a71, a72, a73, a74, a75, a76, a77, a78, a79, a80, a81, a82, a83, a84, a85, a86, a87, a88, a89, a90, a91, a92, a93, a94, a95, a96, a97, a98, a99] g K) : ybd E md A k (o :: os) acc ws s h K := ykq hg hop hk hw hs hn
theorem ydd {E : Env} {md : Go.FuncId → Sb.Mode} {A : List (List Nat)} {k : Nat} {o : ROp} {os : List ROp} {acc : List (Nat × Go.Op × List V × V)} {ws : List (Nat × Heap)} {s : List V} {h g : Heap} {v : V} {K : List V → Heap → Prop} {a0 a1 a2 a3 a4 a5 a6 a7 a8 a9 a10 a11 a12 a13 a14 a15 a16 a17 a18 a19 a20 a21 a22 a23 a24 a25 a26 a27 a28 a29 a30 a31 a32 a33 a34 a35 a36 a37 a38 a39 a40 a41 a42 a43 a44 a45 a46 a47 a48 a49 a50 a51 a52 a53 a54 a55 a56 a57 a58 a59 a60 a61 a62 a63 a64 a65 a66 a67 a68 a69 a70 a71 a72 a73 a74 a75 a76 a77 a78 a79 a80 a81 a82 a83 a84 a85 a86 a87 a88 a89 a90 a91 a92 a93 a94 a95 a96 a97 a98 a99 : V} (hg : o.gd = none) (hop : ∀ K : V → Heap → Prop, K v g → runOp E md o.op s h K) (hk : yal E md o.op = 0) (hs : putT s o.dst v = [a0, a1, a2, a3, a4, a5, a6, a7, a8, a9, a10, a11, a12, a13, a14, a15, a16, a17, a18, a19, a20, a21, a22, a23, a24, a25, a26, a27, a28, a29, a30, a31, a32, a33, a34, a35, a36, a37, a38, a39, a40, a41, a42, a43, a44, a45, a46, a47, a48, a49, a50, a51, a52, a53, a54, a55, a56, a57, a58, a59, a60, a61, a62, a63, a64, a65, a66, a67, a68, a69, a70, a71, a72, a73, a74, a75, a76, a77, a78, a79, a80, a81, a82, a83, a84, a85, a86, a87, a88, a89, a90, a91, a92, a93, a94, a95, a96, a97, a98, a99]) (hn : ybd E md A (k + 1) os acc ws [a0, a1, a2, a3, a4, a5, a6, a7, a8, a9, a10, a11, a12, a13, a14, a15, a16, a17, a18, a19, a20, a21, a22, a23, a24, a25, a26, a27, a28, a29, a30, a31, a32, a33, a34, a35, a36, a37, a38, a39, a40, a41, a42, a43, a44, a45, a46, a47, a48, a49, a50, a51, a52, a53, a54, a55, a56, a57, a58, a59, a60, a61, a62, a63, a64, a65, a66, a67, a68, a69, a70, a71, a72, a73, a74, a75, a76, a77, a78, a79, a80, a81, a82, a83, a84, a85, a86, a87, a88, a89, a90, a91, a92, a93, a94, a95, a96, a97, a98, a99] g K) : ybd E md A k (o :: os) acc ws s h K := ykp hg hop hk hs hn
theorem yap {E : Env} {md : Go.FuncId → Sb.Mode} {o : ROp} {os : List ROp} {s : List V} {h g : Heap} {v : V} {K : List V → Heap → Prop} {a0 a1 a2 a3 a4 a5 a6 a7 a8 a9 a10 a11 a12 a13 a14 a15 a16 a17 a18 a19 a20 a21 a22 a23 a24 a25 a26 a27 a28 a29 a30 a31 a32 a33 a34 a35 a36 a37 a38 a39 a40 a41 a42 a43 a44 a45 a46 a47 a48 a49 a50 a51 a52 a53 a54 a55 a56 a57 a58 a59 a60 a61 a62 a63 a64 a65 a66 a67 a68 a69 a70 a71 a72 a73 a74 a75 a76 a77 a78 a79 a80 a81 a82 a83 a84 a85 a86 a87 a88 a89 a90 a91 a92 a93 a94 a95 a96 a97 a98 a99 : V} (hn : yai E md os [a0, a1, a2, a3, a4, a5, a6, a7, a8, a9, a10, a11, a12, a13, a14, a15, a16, a17, a18, a19, a20, a21, a22, a23, a24, a25, a26, a27, a28, a29, a30, a31, a32, a33, a34, a35, a36, a37, a38, a39, a40, a41, a42, a43, a44, a45, a46, a47, a48, a49, a50, a51, a52, a53, a54, a55, a56, a57, a58, a59, a60, a61, a62, a63, a64, a65, a66, a67, a68, a69, a70, a71, a72, a73, a74, a75, a76, a77, a78, a79, a80, a81, a82, a83, a84, a85, a86, a87, a88, a89, a90, a91, a92, a93, a94, a95, a96, a97, a98, a99] g K) (hop : ∀ K : V → Heap → Prop, K v g → runOp E md o.op s h K := by exact fun _ => id) (hg : o.gd = none := by rfl) (hs : putT s o.dst v = [a0, a1, a2, a3, a4, a5, a6, a7, a8, a9, a10, a11, a12, a13, a14, a15, a16, a17, a18, a19, a20, a21, a22, a23, a24, a25, a26, a27, a28, a29, a30, a31, a32, a33, a34, a35, a36, a37, a38, a39, a40, a41, a42, a43, a44, a45, a46, a47, a48, a49, a50, a51, a52, a53, a54, a55, a56, a57, a58, a59, a60, a61, a62, a63, a64, a65, a66, a67, a68, a69, a70, a71, a72, a73, a74, a75, a76, a77, a78, a79, a80, a81, a82, a83, a84, a85, a86, a87, a88, a89, a90, a91, a92, a93, a94, a95, a96, a97, a98, a99] := by rfl) : yai E md (o :: os) s h K := ybl hg hop hs hn
set_option maxHeartbeats 16000000 in
theorem yxy (h : Heap) (c : Cod) (hb : BndC c) (hl : ∀ f ∈ c.getD [], ∀ x ∈ f.cd.getD [], lenO x.l < 2 ^ 62) (ht : (codPB c).length ≤ 2 ^ 38) : Has envQ .own 25 [codV c] h (.val (.str (sealB (codPB c))) h) := by
 refine HasP.own (a := [codV c]) (d := fn25) (yaj (fz_ag (by simp only [List.all_cons, List.all_nil, ycc]; rfl)) yax) rfl rfl (jT rfl) ?_
 show ybc (initT _ [.agg [optL 5 fncV c]]) _
 have hcod : codPB c = [115, 98, 49] ++ (numB (lenO c) ++ (c.getD []).flatMap fncPB) := rfl
 have hclen : (codPB c).length = 3 + ((numB (lenO c)).length + ((c.getD []).flatMap fncPB).length) := by rw [hcod]; simp only [List.length_append, List.length_cons, List.length_nil]
 have hc16 := hb.1
 refine jW ?_
 refine jR _ ?_
 refine yap (v := .ptr 0 0 1) (g := [(.cells 25 [optL 5 fncV c])]) ?_ (fun K hK => yco (by simp only [List.all_cons, List.all_nil, ycc]; rfl) hK)
 refine yap ?_
 have r0 : InRow [(.cells 25 [optL 5 fncV c]), .dead, .cells 5 [.int .u8 115, .int .u8 98, .int .u8 49]] 5 1 (.sl 2 0 1 3 3 3) (bv [115, 98, 49]) := .inr ⟨2, rfl, rfl, by simp [bv]⟩
 obtain ⟨w1, g1, c1, r1, k1⟩ := yfo (lenO c) (by omega) _ _ _ r0 (by simp only [List.length_cons, List.length_nil]; omega)
 have hb1 : g1[0]? = some (.cells 25 [optL 5 fncV c]) := k1.2 0 _ _ rfl (by decide)
 refine jW ?_
 refine jR _ ?_
 refine yap (v := .sl 1 0 1 3 3 3) (g := [(.cells 25 [optL 5 fncV c]), .cells 5 [.int .u8 115, .int .u8 98, .int .u8 49]]) ?_
 refine yap (v := .sl 2 0 1 3 3 3) (g := [(.cells 25 [optL 5 fncV c]), .dead, .cells 5 [.int .u8 115, .int .u8 98, .int .u8 49]]) ?_
 refine yap ?_
 refine yap (v := optL 5 fncV c) (g := [(.cells 25 [optL 5 fncV c]), .dead, .cells 5 [.int .u8 115, .int .u8 98, .int .u8 49]]) ?_
 refine yap ?_ (fun K hK => yes (f := fncV) rfl rfl hK)
 refine yap ?_
 refine yap ?_ (fun K hK => CallK.of c1 hK)
 refine yap ?_
 refine jW ?_
 refine jR _ ?_
 refine yap ?_
 refine jW ?_
 refine RunP.loop (poI c ([115, 98, 49] ++ numB (lenO c))) ?_ (c.getD []).length ⟨0, _, w1, ⟨⟨Nat.zero_add _, rfl⟩, by simpa using r1, hb1⟩, rfl, rfl, rfl, rfl, rfl, rfl⟩
 intro k1 st1 g hI
 obtain ⟨i, z, o1, x, ⟨⟨hik, hz⟩, hrow, hbx⟩, rfl⟩ := poI_lit hI
 clear hI
 subst hz
 have hll : lenO c = (c.getD []).length := rfl
 by_cases hi : i < (c.getD []).length
 case neg =>
  have hi : i = (c.getD []).length := by omega
  rw [hi, List.take_length] at hrow
  have hfin := ykl (E := envQ) (t := 49) (T := 5) (st := 9) (bs := codPB c) (h := g) (v := o1) (K := fun v h => v = .str (codPB c) ∧ h = g) rfl rfl rfl rfl rfl rfl rfl (by rw [hcod, ← List.append_assoc]; exact hrow) ⟨rfl, rfl⟩
  obtain ⟨pv, hpv, hpe⟩ := ymo hfin
  obtain ⟨hp1, hp2⟩ := hpe
  refine jW ?_
  refine jR _ ?_
  iterate 2 (refine yap ?_)
  refine yap ?_ (fun K hK => yaf (yah hbx rfl) hK)
  refine yap ?_ (fun K hK => yes (f := fncV) rfl rfl hK)
  refine yap ?_ (fun K hK => jI (fun q => absurd q (by rw [hll]; omega)) (fun _ => hK))
  refine jW ?_
  refine jR _ ?_
  refine yap ?_
  refine yap ?_ (fun K hK => ykl (bs := codPB c) rfl rfl rfl rfl rfl rfl rfl (by rw [hcod, ← List.append_assoc]; exact hrow) hK)
  refine yap ?_ (fun K hK => CallK.of (yxx _ (codPB c) ht) hK)
  refine yap ?_
  refine jW ?_
  apply jH
  exact ⟨rfl, rfl, jO _⟩
 refine jW ?_
 refine jR _ ?_
 iterate 2 (refine yap ?_)
 refine yap ?_ (fun K hK => yaf (yah hbx rfl) hK)
 refine yap ?_ (fun K hK => yes (f := fncV) rfl rfl hK)
 refine yap ?_ (fun K hK => jI (fun _ => hK) (fun q => absurd q (by rw [hll]; omega)))
 obtain ⟨L, rfl⟩ : ∃ l', c = some l' := by
  cases c with
  | none => simp at hi
  | some l => exact ⟨l, rfl⟩
 simp only [Option.getD_some] at *
 obtain ⟨f0, hx0⟩ : ∃ y, L[i]? = some y := ⟨_, List.getElem?_eq_getElem hi⟩
 obtain ⟨htk, hle⟩ := yno hx0 fncPB
 have hmem := List.mem_of_getElem? hx0
 have hbf := hb.2 f0 hmem
 have hlf := hl f0 hmem
 clear hb hl
 obtain ⟨nm, q, s, cd, gd⟩ := f0
 obtain ⟨hnm, hq, hs, hcd, hgd, hcl, hgl⟩ := hbf
 unfold BN at hq hs
 simp only at hnm hq hs hcd hgd hcl hgl hlf
 obtain ⟨q, rfl⟩ : ∃ n : Nat, q = n := ⟨q.toNat, by omega⟩
 obtain ⟨s, rfl⟩ : ∃ n : Nat, s = n := ⟨s.toNat, by omega⟩
 have hP : fncPB ⟨nm, q, s, cd, gd⟩ = txtB nm ++ (numB q ++ (numB s ++ ((numB (lenO cd) ++ (cd.getD []).flatMap insPB) ++ (numB (lenO gd) ++ (gd.getD []).flatMap grdPB)))) := by simp only [fncPB, ylc, lstB]
 have hPl : (fncPB ⟨nm, q, s, cd, gd⟩).length = (txtB nm).length + ((numB q).length + ((numB s).length + (((numB (lenO cd)).length + ((cd.getD []).flatMap insPB).length) + ((numB (lenO gd)).length + ((gd.getD []).flatMap grdPB).length)))) := by rw [hP]; simp only [List.length_append]
 generalize hpre : [115, 98, 49] ++ numB (lenO (some L)) ++ (L.take i).flatMap fncPB = pre at hrow
 have hprel : pre.length = 3 + ((numB (lenO (some L))).length + ((L.take i).flatMap fncPB).length) := by rw [← hpre]; simp only [List.length_append, List.length_cons, List.length_nil]; omega
 have hfb : (push g (.cells 61 [.str nm, .int .i64 q, .int .i64 s, optL 8 insV cd, optL 4 grdV gd]))[g.length]? = some (.cells 61 [.str nm, .int .i64 q, .int .i64 s, optL 8 insV cd, optL 4 grdV gd]) := ydm _ _
 have hbx' : (push g (.cells 61 [.str nm, .int .i64 q, .int .i64 s, optL 8 insV cd, optL 4 grdV gd]))[0]? = some (.cells 25 [optL 5 fncV (some L)]) := ydl hbx
 refine jW ?_
 refine jR _ ?_
 refine yap ?_
 refine yap ?_ (fun K hK => yaf (yah hbx rfl) hK)
 refine yap ?_
 refine yap ?_ (fun K hK => jI (by omega) (jI rfl (Exists.intro (fncV ⟨nm, q, s, cd, gd⟩) (jI (by rw [List.getElem?_map]; simp [hx0]) hK))))
 refine yap (v := .agg [.str nm, .int .i64 q, .int .i64 s, optL 8 insV cd, optL 4 grdV gd]) (g := g) ?_
 refine yap (v := .ptr g.length 0 5) (g := push g (.cells 61 ty61.zero)) ?_
 refine yap ?_ (fun K hK => yaf (yex (E := envQ) (t := 61) (n := 5) (v := .agg [.str nm, .int .i64 q, .int .i64 s, optL 8 insV cd, optL 4 grdV gd]) rfl rfl rfl rfl (yeo (yfa ⟨nm, q, s, cd, gd⟩))) hK)
 obtain ⟨w2, g2, c2, r2, k2⟩ := ysd nm (by omega) _ _ _ (hrow.push (.cells 61 [.str nm, .int .i64 q, .int .i64 s, optL 8 insV cd, optL 4 grdV gd])) (by omega)
 have hf2 := k2.2 _ _ _ hfb (by decide)
 have hx2 := k2.2 _ _ _ hbx' (by decide)
 refine jW ?_
 refine jR _ ?_
 iterate 2 (refine yap ?_)
 refine yap ?_ (fun K hK => yaf (yah hfb rfl) hK)
 refine yap ?_ (fun K hK => CallK.of c2 hK)
 refine yap ?_
 obtain ⟨w3, g3, c3, r3, k3⟩ := yfo q (by omega) _ _ _ r2 (by simp only [List.length_append]; omega)
 have hf3 := k3.2 _ _ _ hf2 (by decide)
 have hx3 := k3.2 _ _ _ hx2 (by decide)
 obtain ⟨w4, g4, c4, r4, k4⟩ := yfo s (by omega) _ _ _ r3 (by simp only [List.length_append]; omega)
 have hf4 := k4.2 _ _ _ hf3 (by decide)
 have hx4 := k4.2 _ _ _ hx3 (by decide)
 refine jW ?_
 refine RunP.drawn2R _ (by decide +kernel) (by decide +kernel) (fun _ => rfl) ?_
 refine ydd rfl (fun _ => id) (by decide +kernel) rfl ?_
 refine ydd rfl (fun _ => id) (by decide +kernel) rfl ?_
 refine yhg rfl (fun K hK => yaf (yah hf2 rfl) hK) (by decide +kernel) (ydh trivial) rfl ?_
 refine ydd rfl (fun _ => id) (by decide +kernel) rfl ?_
 refine yhf rfl (fun K hK => CallK.of c3 hK) (by decide +kernel) (ybw (by decide +kernel) trivial) rfl ?_
 refine ydd rfl (fun _ => id) (by decide +kernel) rfl ?_
 refine yhg rfl (fun K hK => yaf (yah hf3 rfl) hK) (by decide +kernel) (ydr (StillK.of (yaf (yah hf2 rfl) rfl)) (ydh trivial)) rfl ?_
 refine ydd rfl (fun _ => id) (by decide +kernel) rfl ?_
 refine yhf rfl (fun K hK => CallK.of c4 hK) (by decide +kernel) (ybw (by decide +kernel) (ybw (by decide +kernel) trivial)) rfl ?_
 refine ydd rfl (fun _ => id) (by decide +kernel) rfl ?_
 obtain ⟨w5, g5, c5, r5, k5⟩ := yfo (lenO cd) (by omega) _ _ _ r4 (by simp only [List.length_append]; omega)
 have hf5 := k5.2 _ _ _ hf4 (by decide)
 have hx5 := k5.2 _ _ _ hx4 (by decide)
 refine jW ?_
 refine jR _ ?_
 iterate 2 (refine yap ?_)
 refine yap ?_ (fun K hK => yaf (yah hf4 rfl) hK)
 refine yap ?_ (fun K hK => yes (f := insV) rfl rfl hK)
 refine yap ?_
 refine yap ?_ (fun K hK => CallK.of c5 hK)
 refine yap ?_
 refine jW ?_
 refine jR _ ?_
 refine yap ?_
 refine jW ?_
 refine RunP.loop (pcI (some L) (pre ++ (txtB nm ++ (numB q ++ (numB s ++ numB (lenO cd))))) (cd.getD []) [.str nm, .int .i64 q, .int .i64 s, optL 8 insV cd, optL 4 grdV gd] i g.length) ?_ (cd.getD []).length ⟨0, _, w5, ⟨⟨Nat.zero_add _, rfl⟩, by simpa [List.append_assoc] using r5, hx5, hf5⟩, rfl, rfl, rfl, rfl, rfl, rfl, rfl, rfl⟩
 clear r0 c1 r1 k1 hb1 hrow hbx hfb hbx' c2 r2 k2 hf2 hx2 c3 r3 k3 hf3 hx3 c4 r4 k4 hf4 hx4 c5 r5 k5 hf5 hx5
 intro k2 st2 g2 hI
 obtain ⟨j, z, o2, x2, ⟨⟨hjk, hz⟩, hrow2, hbx2, hfb2⟩, rfl⟩ := pcI_lit hI
 clear hI
 subst hz
 have hcll : lenO cd = (cd.getD []).length := rfl
 by_cases hj : j < (cd.getD []).length
 ·skip
  refine jW ?_
  refine jR _ ?_
  iterate 2 (refine yap ?_)
  refine yap ?_ (fun K hK => yaf (yah hfb2 rfl) hK)
  refine yap ?_ (fun K hK => yes (f := insV) rfl rfl hK)
  refine yap ?_ (fun K hK => jI (fun _ => hK) (fun q => absurd q (by rw [hcll]; omega)))
  obtain ⟨cdl, rfl⟩ : ∃ l', cd = some l' := by
   cases cd with
   | none => simp at hj
   | some l => exact ⟨l, rfl⟩
  simp only [Option.getD_some] at *
  obtain ⟨x0, hx0⟩ : ∃ y, cdl[j]? = some y := ⟨_, List.getElem?_eq_getElem hj⟩
  obtain ⟨htk2, hle2⟩ := yno hx0 insPB
  obtain ⟨w6, g6, c6, r6, k6⟩ := yxv x0 (hcd x0 (List.mem_of_getElem? hx0)) (hlf x0 (List.mem_of_getElem? hx0)) _ _ _ hrow2 (by simp only [List.length_append]; omega)
  refine jW ?_
  refine jR _ ?_
  iterate 2 (refine yap ?_)
  refine yap ?_ (fun K hK => yaf (yah hfb2 rfl) hK)
  refine yap ?_
  refine yap ?_ (fun K hK => jI (by omega) (jI rfl (Exists.intro (insV x0) (jI (by rw [List.getElem?_map]; simp [hx0]) hK))))
  refine yap (v := insV x0) (g := g2) ?_
  refine yap ?_ (fun K hK => CallK.of c6 hK)
  refine yap ?_
  refine jW ?_
  refine jR _ ?_
  iterate 3 (refine yap ?_)
  exact ⟨k2 - 1, by omega, j + 1, _, _, ⟨⟨by omega, ycj j (by omega)⟩, by rw [htk2]; simpa [List.append_assoc] using r6, k6.2 _ _ _ hbx2 (by decide), k6.2 _ _ _ hfb2 (by decide)⟩, rfl, rfl, rfl, rfl, rfl, rfl, rfl, rfl⟩
 have hj : j = (cd.getD []).length := by omega
 rw [hj, List.take_length] at hrow2
 obtain ⟨w7, g7, c7, r7, k7⟩ := yfo (lenO gd) (by omega) _ _ _ hrow2 (by simp only [List.length_append]; omega)
 have hf7 := k7.2 _ _ _ hfb2 (by decide)
 have hx7 := k7.2 _ _ _ hbx2 (by decide)
 refine jW ?_
 refine jR _ ?_
 iterate 2 (refine yap ?_)
 refine yap ?_ (fun K hK => yaf (yah hfb2 rfl) hK)
 refine yap ?_ (fun K hK => yes (f := insV) rfl rfl hK)
 refine yap ?_ (fun K hK => jI (fun q => absurd q (by rw [hcll]; omega)) (fun _ => hK))
 refine jW ?_
 refine jR _ ?_
 iterate 2 (refine yap ?_)
 refine yap ?_ (fun K hK => yaf (yah hfb2 rfl) hK)
 refine yap ?_ (fun K hK => yes (f := grdV) rfl rfl hK)
 refine yap ?_
 refine yap ?_ (fun K hK => CallK.of c7 hK)
 refine yap ?_
 refine jW ?_
 refine jR _ ?_
 refine yap ?_
 refine jW ?_
 refine RunP.loop (pgI (some L) (pre ++ (txtB nm ++ (numB q ++ (numB s ++ ((numB (lenO cd) ++ (cd.getD []).flatMap insPB) ++ numB (lenO gd)))))) (gd.getD []) [.str nm, .int .i64 q, .int .i64 s, optL 8 insV cd, optL 4 grdV gd] i g.length) ?_ (gd.getD []).length ⟨0, _, w7, ⟨⟨Nat.zero_add _, rfl⟩, by simpa [List.append_assoc] using r7, hx7, hf7⟩, rfl, rfl, rfl, rfl, rfl, rfl, rfl, rfl⟩
 clear hrow2 hbx2 hfb2 c7 r7 k7 hf7 hx7
 intro k3 st3 g3 hI
 obtain ⟨m, z, o3, x3, ⟨⟨hmk, hz⟩, hrow3, hbx3, hfb3⟩, rfl⟩ := pgI_lit hI
 clear hI
 subst hz
 have hgll : lenO gd = (gd.getD []).length := rfl
 by_cases hm : m < (gd.getD []).length
 ·skip
  refine jW ?_
  refine jR _ ?_
  iterate 2 (refine yap ?_)
  refine yap ?_ (fun K hK => yaf (yah hfb3 rfl) hK)
  refine yap ?_ (fun K hK => yes (f := grdV) rfl rfl hK)
  refine yap ?_ (fun K hK => jI (fun _ => hK) (fun q => absurd q (by rw [hgll]; omega)))
  obtain ⟨gdl, rfl⟩ : ∃ l', gd = some l' := by
   cases gd with
   | none => simp at hm
   | some l => exact ⟨l, rfl⟩
  simp only [Option.getD_some] at *
  obtain ⟨x0, hx0⟩ : ∃ y, gdl[m]? = some y := ⟨_, List.getElem?_eq_getElem hm⟩
  obtain ⟨htk3, hle3⟩ := yno hx0 grdPB
  have hxb := hgd x0 (List.mem_of_getElem? hx0)
  obtain ⟨a, b, cc, e⟩ := x0
  obtain ⟨ha, hb', hc', he⟩ := hxb
  unfold BN at ha hb' hc' he
  simp only at ha hb' hc' he
  obtain ⟨a, rfl⟩ : ∃ n : Nat, a = n := ⟨a.toNat, by omega⟩
  obtain ⟨b, rfl⟩ : ∃ n : Nat, b = n := ⟨b.toNat, by omega⟩
  obtain ⟨cc, rfl⟩ : ∃ n : Nat, cc = n := ⟨cc.toNat, by omega⟩
  obtain ⟨e, rfl⟩ : ∃ n : Nat, e = n := ⟨e.toNat, by omega⟩
  have hPg : grdPB ⟨a, b, cc, e⟩ = numB a ++ (numB b ++ (numB cc ++ numB e)) := by simp only [grdPB, ylc]
  rw [hPg] at htk3 hle3
  simp only [List.length_append] at hle3
  have hq0 : (push g3 (.cells 70 [.int .i64 a, .int .i64 b, .int .i64 cc, .int .i64 e]))[g3.length]? = some (.cells 70 [.int .i64 a, .int .i64 b, .int .i64 cc, .int .i64 e]) := ydm _ _
  have hbq0 : (push g3 (.cells 70 [.int .i64 a, .int .i64 b, .int .i64 cc, .int .i64 e]))[0]? = some (.cells 25 [optL 5 fncV (some L)]) := ydl hbx3
  have hfq0 : (push g3 (.cells 70 [.int .i64 a, .int .i64 b, .int .i64 cc, .int .i64 e]))[g.length]? = some (.cells 61 [.str nm, .int .i64 q, .int .i64 s, optL 8 insV cd, optL 4 grdV (some gdl)]) := ydl hfb3
  refine jW ?_
  refine jR _ ?_
  refine yap ?_
  refine yap ?_ (fun K hK => yaf (yah hfb3 rfl) hK)
  refine yap ?_
  refine yap ?_ (fun K hK => jI (by omega) (jI rfl (Exists.intro (grdV ⟨a, b, cc, e⟩) (jI (by rw [List.getElem?_map]; simp [hx0]) hK))))
  refine yap (v := .agg [.int .i64 a, .int .i64 b, .int .i64 cc, .int .i64 e]) (g := g3) ?_
  refine yap (v := .ptr g3.length 0 4) (g := push g3 (.cells 70 ty70.zero)) ?_
  refine yap ?_ (fun K hK => yaf (yex (E := envQ) (t := 70) (n := 4) (v := .agg [.int .i64 a, .int .i64 b, .int .i64 cc, .int .i64 e]) rfl rfl rfl rfl (yeo (yij ⟨a, b, cc, e⟩))) hK)
  obtain ⟨v1, u1, d1, s1, m1⟩ := yfo a (by omega) _ _ _ (hrow3.push (.cells 70 [.int .i64 a, .int .i64 b, .int .i64 cc, .int .i64 e])) (by simp only [List.length_append]; omega)
  have q1 := m1.2 _ _ _ hq0 (by decide)
  obtain ⟨v2, u2, d2, s2, m2⟩ := yfo b (by omega) _ _ _ s1 (by simp only [List.length_append]; omega)
  have q2 := m2.2 _ _ _ q1 (by decide)
  obtain ⟨v3, u3, d3, s3, m3⟩ := yfo cc (by omega) _ _ _ s2 (by simp only [List.length_append]; omega)
  have q3 := m3.2 _ _ _ q2 (by decide)
  obtain ⟨v4, u4, d4, s4, m4⟩ := yfo e (by omega) _ _ _ s3 (by simp only [List.length_append]; omega)
  refine jW ?_
  refine RunP.drawn2R _ (by decide +kernel) (by decide +kernel) (fun _ => rfl) ?_
  refine ydd rfl (fun _ => id) (by decide +kernel) rfl ?_
  refine ydd rfl (fun _ => id) (by decide +kernel) rfl ?_
  refine yhg rfl (fun K hK => yaf (yah hq0 rfl) hK) (by decide +kernel) (ydh trivial) rfl ?_
  refine ydd rfl (fun _ => id) (by decide +kernel) rfl ?_
  refine yhf rfl (fun K hK => CallK.of d1 hK) (by decide +kernel) (ybw (by decide +kernel) trivial) rfl ?_
  refine ydd rfl (fun _ => id) (by decide +kernel) rfl ?_
  refine yhg rfl (fun K hK => yaf (yah q1 rfl) hK) (by decide +kernel) (ydr (StillK.of (yaf (yah hq0 rfl) rfl)) (ydh trivial)) rfl ?_
  refine ydd rfl (fun _ => id) (by decide +kernel) rfl ?_
  refine yhf rfl (fun K hK => CallK.of d2 hK) (by decide +kernel) (ybw (by decide +kernel) (ybw (by decide +kernel) trivial)) rfl ?_
  refine ydd rfl (fun _ => id) (by decide +kernel) rfl ?_
  refine yhg rfl (fun K hK => yaf (yah q2 rfl) hK) (by decide +kernel) (ydr (StillK.of (yaf (yah q1 rfl) rfl)) (ydr (StillK.of (yaf (yah hq0 rfl) rfl)) (ydh trivial))) rfl ?_
  refine ydd rfl (fun _ => id) (by decide +kernel) rfl ?_
  refine yhf rfl (fun K hK => CallK.of d3 hK) (by decide +kernel) (ybw (by decide +kernel) (ybw (by decide +kernel) (ybw (by decide +kernel) trivial))) rfl ?_
  refine ydd rfl (fun _ => id) (by decide +kernel) rfl ?_
  refine yhg rfl (fun K hK => yaf (yah q3 rfl) hK) (by decide +kernel) (ydr (StillK.of (yaf (yah q2 rfl) rfl)) (ydr (StillK.of (yaf (yah q1 rfl) rfl)) (ydr (StillK.of (yaf (yah hq0 rfl) rfl)) (ydh trivial)))) rfl ?_
  refine ydd rfl (fun _ => id) (by decide +kernel) rfl ?_
  refine yhf rfl (fun K hK => CallK.of d4 hK) (by decide +kernel) (ybw (by decide +kernel) (ybw (by decide +kernel) (ybw (by decide +kernel) (ybw (by decide +kernel) trivial)))) rfl ?_
  refine ydd rfl (fun _ => id) (by decide +kernel) rfl ?_
  refine jW ?_
  refine jR _ ?_
  iterate 3 (refine yap ?_)
  have kall := m1.trans (m2.trans (m3.trans m4))
  exact ⟨k3 - 1, by omega, m + 1, _, _, ⟨⟨by omega, ycj m (by omega)⟩, by rw [htk3]; simpa [List.append_assoc] using s4, kall.2 _ _ _ hbq0 (by decide), kall.2 _ _ _ hfq0 (by decide)⟩, rfl, rfl, rfl, rfl, rfl, rfl, rfl, rfl⟩
 have hm : m = (gd.getD []).length := by omega
 rw [hm, List.take_length] at hrow3
 refine jW ?_
 refine jR _ ?_
 iterate 2 (refine yap ?_)
 refine yap ?_ (fun K hK => yaf (yah hfb3 rfl) hK)
 refine yap ?_ (fun K hK => yes (f := grdV) rfl rfl hK)
 refine yap ?_ (fun K hK => jI (fun q => absurd q (by rw [hgll]; omega)) (fun _ => hK))
 refine jW ?_
 refine jR _ ?_
 iterate 3 (refine yap ?_)
 have hrow4 : InRow g3 5 1 o3 (bv ([115, 98, 49] ++ numB (lenO (some L)) ++ (((some L : Cod).getD []).take (i + 1)).flatMap fncPB)) := by
  simp only [Option.getD_some]
  rw [htk, hP]
  rw [← hpre] at hrow3
  simpa [List.append_assoc] using hrow3
 exact ⟨k1 - 1, by omega, i + 1, _, _, ⟨⟨by simp only [Option.getD_some]; omega, ycj i (by omega)⟩, hrow4, hbx3⟩, rfl, rfl, rfl, rfl, rfl, rfl⟩
end Go.Proofs.YtekmafoicobphaaGreatDoor
