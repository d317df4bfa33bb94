/- Packed codes: the reference's writers. -/
import Derived.Test.YtekmafoicobphaaGreatDoorSbPk2
import Derived.Test.YtekmafoicobphaaGreatDoorSb13RefN
set_option linter.unusedVariables false
set_option linter.unusedSimpArgs false
namespace Go.Proofs.YtekmafoicobphaaGreatDoor
open Go.Sb
set_option maxRecDepth 100000
theorem yit {E : Env} {md : Go.FuncId → Sb.Mode} {A : List (List Nat)} {k : Nat} {o : ROp} {os : List ROp} {acc : List (Nat × Go.Op × List V × V)} {ws : List (Nat × Heap)} {s : List V} {h g : Heap} {v : V} {K : List V → Heap → Prop} {a0 a1 a2 a3 a4 a5 a6 a7 a8 a9 a10 a11 a12 a13 a14 a15 a16 a17 a18 a19 a20 a21 a22 a23 a24 a25 a26 a27 a28 a29 a30 a31 a32 a33 a34 a35 a36 a37 a38 a39 a40 a41 a42 a43 a44 a45 a46 a47 a48 a49 a50 a51 a52 a53 a54 a55 a56 a57 a58 a59 : V} (hg : o.gd = none) (hop : ∀ K : V → Heap → Prop, K v g → runOp E md o.op s h K) (hk : yal E md o.op = 2) (ha : accK E md (A.getD k []) g acc True) (hs : putT s o.dst v = [a0, a1, a2, a3, a4, a5, a6, a7, a8, a9, a10, a11, a12, a13, a14, a15, a16, a17, a18, a19, a20, a21, a22, a23, a24, a25, a26, a27, a28, a29, a30, a31, a32, a33, a34, a35, a36, a37, a38, a39, a40, a41, a42, a43, a44, a45, a46, a47, a48, a49, a50, a51, a52, a53, a54, a55, a56, a57, a58, a59]) (hn : ybd E md A (k + 1) os acc ((k, h) :: ws) [a0, a1, a2, a3, a4, a5, a6, a7, a8, a9, a10, a11, a12, a13, a14, a15, a16, a17, a18, a19, a20, a21, a22, a23, a24, a25, a26, a27, a28, a29, a30, a31, a32, a33, a34, a35, a36, a37, a38, a39, a40, a41, a42, a43, a44, a45, a46, a47, a48, a49, a50, a51, a52, a53, a54, a55, a56, a57, a58, a59] g K) : ybd E md A k (o :: os) acc ws s h K := yks hg hop hk ha hs hn
theorem yiu {E : Env} {md : Go.FuncId → Sb.Mode} {A : List (List Nat)} {k : Nat} {o : ROp} {os : List ROp} {acc : List (Nat × Go.Op × List V × V)} {ws : List (Nat × Heap)} {s : List V} {h g : Heap} {v : V} {K : List V → Heap → Prop} {a0 a1 a2 a3 a4 a5 a6 a7 a8 a9 a10 a11 a12 a13 a14 a15 a16 a17 a18 a19 a20 a21 a22 a23 a24 a25 a26 a27 a28 a29 a30 a31 a32 a33 a34 a35 a36 a37 a38 a39 a40 a41 a42 a43 a44 a45 a46 a47 a48 a49 a50 a51 a52 a53 a54 a55 a56 a57 a58 a59 : V} (hg : o.gd = none) (hop : ∀ K : V → Heap → Prop, K v g → runOp E md o.op s h K) (hk : yal E md o.op = 1) (hw : wasK E md (A.getD k []) (k, o.op, s, v) ws True) (hs : putT s o.dst v = [a0, a1, a2, a3, a4, a5, a6, a7, a8, a9, a10, a11, a12, a13, a14, a15, a16, a17, a18, a19, a20, a21, a22, a23, a24, a25, a26, a27, a28, a29, a30, a31, a32, a33, a34, a35, a36, a37, a38, a39, a40, a41, a42, a43, a44, a45, a46, a47, a48, a49, a50, a51, a52, a53, a54, a55, a56, a57, a58, a59]) (hn : ybd E md A (k + 1) os ((k, o.op, s, v) :: acc) ws [a0, a1, a2, a3, a4, a5, a6, a7, a8, a9, a10, a11, a12, a13, a14, a15, a16, a17, a18, a19, a20, a21, a22, a23, a24, a25, a26, a27, a28, a29, a30, a31, a32, a33, a34, a35, a36, a37, a38, a39, a40, a41, a42, a43, a44, a45, a46, a47, a48, a49, a50, a51, a52, a53, a54, a55, a56, a57, a58, a59] g K) : ybd E md A k (o :: os) acc ws s h K := ykq hg hop hk hw hs hn
theorem yer {E : Env} {md : Go.FuncId → Sb.Mode} {A : List (List Nat)} {k : Nat} {o : ROp} {os : List ROp} {acc : List (Nat × Go.Op × List V × V)} {ws : List (Nat × Heap)} {s : List V} {h g : Heap} {v : V} {K : List V → Heap → Prop} {a0 a1 a2 a3 a4 a5 a6 a7 a8 a9 a10 a11 a12 a13 a14 a15 a16 a17 a18 a19 a20 a21 a22 a23 a24 a25 a26 a27 a28 a29 a30 a31 a32 a33 a34 a35 a36 a37 a38 a39 a40 a41 a42 a43 a44 a45 a46 a47 a48 a49 a50 a51 a52 a53 a54 a55 a56 a57 a58 a59 : V} (hg : o.gd = none) (hop : ∀ K : V → Heap → Prop, K v g → runOp E md o.op s h K) (hk : yal E md o.op = 0) (hs : putT s o.dst v = [a0, a1, a2, a3, a4, a5, a6, a7, a8, a9, a10, a11, a12, a13, a14, a15, a16, a17, a18, a19, a20, a21, a22, a23, a24, a25, a26, a27, a28, a29, a30, a31, a32, a33, a34, a35, a36, a37, a38, a39, a40, a41, a42, a43, a44, a45, a46, a47, a48, a49, a50, a51, a52, a53, a54, a55, a56, a57, a58, a59]) (hn : ybd E md A (k + 1) os acc ws [a0, a1, a2, a3, a4, a5, a6, a7, a8, a9, a10, a11, a12, a13, a14, a15, a16, a17, a18, a19, a20, a21, a22, a23, a24, a25, a26, a27, a28, a29, a30, a31, a32, a33, a34, a35, a36, a37, a38, a39, a40, a41, a42, a43, a44, a45, a46, a47, a48, a49, a50, a51, a52, a53, a54, a55, a56, a57, a58, a59] g K) : ybd E md A k (o :: os) acc ws s h K := ykp hg hop hk hs hn
theorem ybo {E : Env} {md : Go.FuncId → Sb.Mode} {o : ROp} {os : List ROp} {s : List V} {h g : Heap} {v : V} {K : List V → Heap → Prop} {a0 a1 a2 a3 a4 a5 a6 a7 a8 a9 a10 a11 a12 a13 a14 a15 a16 a17 a18 a19 a20 a21 a22 a23 a24 a25 a26 a27 a28 a29 a30 a31 a32 a33 a34 a35 a36 a37 a38 a39 a40 a41 a42 a43 a44 a45 a46 a47 a48 a49 a50 a51 a52 a53 a54 a55 a56 a57 a58 a59 : V} (hn : yai E md os [a0, a1, a2, a3, a4, a5, a6, a7, a8, a9, a10, a11, a12, a13, a14, a15, a16, a17, a18, a19, a20, a21, a22, a23, a24, a25, a26, a27, a28, a29, a30, a31, a32, a33, a34, a35, a36, a37, a38, a39, a40, a41, a42, a43, a44, a45, a46, a47, a48, a49, a50, a51, a52, a53, a54, a55, a56, a57, a58, a59] g K) (hop : ∀ K : V → Heap → Prop, K v g → runOp E md o.op s h K := by exact fun _ => id) (hg : o.gd = none := by rfl) (hs : putT s o.dst v = [a0, a1, a2, a3, a4, a5, a6, a7, a8, a9, a10, a11, a12, a13, a14, a15, a16, a17, a18, a19, a20, a21, a22, a23, a24, a25, a26, a27, a28, a29, a30, a31, a32, a33, a34, a35, a36, a37, a38, a39, a40, a41, a42, a43, a44, a45, a46, a47, a48, a49, a50, a51, a52, a53, a54, a55, a56, a57, a58, a59] := by rfl) : yai E md (o :: os) s h K := ybl hg hop hs hn
theorem yiv (n : Nat) (hn : n < 2 ^ 63) : Wr 37 [.int .u64 n] (numB n) := fun h o pre hr hl =>
 HasP.sharedE (E := envQ) (f := 37) (d := fn37) (R := fun w g => InRow g 5 1 w (bv (pre ++ numB n)) ∧ KeepB h g) rfl (jT rfl) (by
  rw [ybh]
  exact yxt hr n hn (by omega))
theorem yiw (n : Int) (hn : -1152921504606846976 ≤ n ∧ n ≤ 1152921504606846976) : Wr 76 [.int .i64 n] (intB n) := fun h o pre hr hl => by
 refine HasP.sharedE (E := envQ) (f := 76) (d := fn76) (R := fun w g => InRow g 5 1 w (bv (pre ++ intB n)) ∧ KeepB h g) rfl (jT rfl) ?_
 unfold intB at hl ⊢
 by_cases hneg : n < 0
 ·rw [if_pos hneg] at hl ⊢
  obtain ⟨w, g, h1, h2⟩ := yiv (-2 * n - 1).toNat (by omega) h o pre hr hl
  have e : IntKind.u64.wrap (IntKind.u64.wrap (2 * IntKind.u64.wrap (IntKind.i64.wrap (0 - IntKind.i64.wrap (n + 1)))) + 1) = (((-2 * n - 1).toNat : Nat) : Int) := by
   rw [wrapS (x := n + 1) (by omega) (by omega), wrapS (by omega) (by omega), wrapU (x := 0 - (n + 1)) (by omega) (by omega), wrapU (x := 2 * (0 - (n + 1))) (by omega) (by omega), wrapU (by omega) (by omega)]; omega
  rw [← e] at h1
  refine jJ ?_
  refine CallK.of h1 ?_
  refine jJ ?_
  exact ⟨rfl, h2⟩
 ·rw [if_neg hneg] at hl ⊢
  obtain ⟨w, g, h1, h2⟩ := yiv (2 * n).toNat (by omega) h o pre hr hl
  have e : IntKind.u64.wrap (2 * IntKind.u64.wrap n) = (((2 * n).toNat : Nat) : Int) := by
   rw [wrapU (x := n) (by omega) (by omega), wrapU (by omega) (by omega)]; omega
  rw [← e] at h1
  refine jJ ?_
  refine CallK.of h1 ?_
  refine jJ ?_
  exact ⟨rfl, h2⟩
theorem ysd (s : List UInt8) (hs : s.length < 2 ^ 62) : Wr 48 [.str s] (txtB s) := fun h o pre hr hl => by
 refine HasP.sharedE (E := envQ) (f := 48) (d := fn48) (R := fun w g => InRow g 5 1 w (bv (pre ++ txtB s)) ∧ KeepB h g) rfl (jT rfl) ?_
 unfold txtB at hl ⊢
 rw [List.length_append] at hl
 obtain ⟨w, g, h1, h2, h3⟩ := yiv s.length (by omega) h o pre hr (by omega)
 have e : IntKind.u64.wrap (s.length : Int) = (s.length : Int) := wrapU (by omega) (by omega)
 rw [← e] at h1
 obtain ⟨w', g', k1, k2, k3⟩ := yrw (s := s) h2 (by simp; omega)
 refine jJ ?_
 refine CallK.of h1 ?_
 refine ycs (congrArg valH k1) ?_
 refine jJ ?_
 exact ⟨rfl, by rw [← List.append_assoc]; exact k2, h3.trans k3⟩
def viI (h0 : Heap) (pre : Bs8) (l : List Int) (cs : List V) (hb : Nat) (k : Nat) (s : List V) (h : Heap) : Prop :=
 ∃ (i : Nat) (z : Int) (o : V), ((i + k = l.length ∧ z = i) ∧ InRow h 5 1 o (bv (pre ++ (l.take i).flatMap intB)) ∧ KeepB h0 h ∧ h[hb]? = some (.cells 68 cs)) ∧ s.length = 60 ∧ s.getD 0 und = und ∧ s.getD 1 und = o ∧ s.getD 4 und = .ptr hb 0 8 ∧ s.getD 5 und = .nils ∧ s.getD 6 und = .int .i64 z
theorem viI_lit {h0 : Heap} {pre : Bs8} {l : List Int} {cs : List V} {hb : Nat} {k : Nat} {s : List V} {h : Heap} (hI : viI h0 pre l cs hb k s h) : ∃ (i : Nat) (z : Int) (o : V) (x : Nat → V), ((i + k = l.length ∧ z = i) ∧ InRow h 5 1 o (bv (pre ++ (l.take i).flatMap intB)) ∧ KeepB h0 h ∧ h[hb]? = some (.cells 68 cs)) ∧
  s = [und, o, x 2, x 3, .ptr hb 0 8, .nils, .int .i64 z, x 7, x 8, x 9, x 10, x 11, x 12, x 13, x 14, x 15, x 16, x 17, x 18, x 19, x 20, x 21, x 22, x 23, x 24, x 25, x 26, x 27, x 28, x 29, x 30, x 31, x 32, x 33, x 34, x 35, x 36, x 37, x 38, x 39, x 40, x 41, x 42, x 43, x 44, x 45, x 46, x 47, x 48, x 49, x 50, x 51, x 52, x 53, x 54, x 55, x 56, x 57, x 58, x 59] := by
 obtain ⟨i, z, o, hF, hl, e0, e1, e4, e5, e6⟩ := hI
 refine ⟨i, z, o, fun n => s.getD n und, hF, (ybb hl).trans ?_⟩
 simp only [List.range, List.range.loop, List.map_cons, List.map_nil]
 rw [e0, e1, e4, e5, e6]
theorem yes {α : Type} {E : Env} {t el : TypeId} {ts : List TypeId} {d : TyD} {e : Nat} {f : α → V} {l : Option (List α)} {h : Heap} {K : V → Heap → Prop} (ht : E.ty t = some d) (hu : d.u = .slice el) (hk : K (.int .i64 (lenO l)) h) : bindR (yeg E .len (t :: ts) [optL e f l] h) K := yan ht hu hk
set_option maxHeartbeats 8000000 in
theorem yxv (x : Ins) (hx : BndI x) (hl0 : lenO x.l < 2 ^ 62) : Wr 49 [insV x] (insPB x) := fun h o pre hr hlen => by
 obtain ⟨op, a, b, cc, k, n, s, l⟩ := x
 obtain ⟨hop, ha, hb, hc, hv, hL⟩ := hx
 obtain ⟨hk, hn, hs⟩ := ynl hv
 simp only at hop ha hb hc hk hn hs hL hl0
 unfold BI at ha hb hc
 refine HasP.sharedE (E := envQ) (f := 49) (d := fn49) (R := fun w g => InRow g 5 1 w (bv (pre ++ insPB ⟨op, a, b, cc, k, n, s, l⟩)) ∧ KeepB h g) rfl (jT rfl) ?_
 have hP : insPB ⟨op, a, b, cc, k, n, s, l⟩ = byB op :: (intB a ++ (intB b ++ (intB cc ++ (byB k :: (intB n ++ (txtB s ++ (numB (lenO l) ++ (l.getD []).flatMap intB))))))) := rfl
 rw [hP] at hlen ⊢
 simp only [List.length_cons, List.length_append] at hlen
 show ybc (initT _ [o, .agg (iC op a b cc k n s l)]) _
 refine jW ?_
 refine jR _ ?_
 refine ybo (v := .ptr h.length 0 8) (g := push h (.cells 68 (iC op a b cc k n s l))) ?_ (fun K hK => yco (yec _ _ _ _ _ _ _ _) hK)
 refine ybo ?_
 have hb0 : (push h (.cells 68 (iC op a b cc k n s l)))[h.length]? = some (.cells 68 (iC op a b cc k n s l)) := ydm _ _
 have k0 : KeepB h (push h (.cells 68 (iC op a b cc k n s l))) := KeepB.push _ _
 have r0 := hr.push (.cells 68 (iC op a b cc k n s l))
 generalize push h (.cells 68 (iC op a b cc k n s l)) = g0 at *
 have e1 : IntKind.u8.wrap op = ((byB op).toNat : Int) := wrap8 op (by omega) (by omega)
 obtain ⟨v1, g1, a1, r1, k1⟩ := yfw e1 r0 (by omega)
 refine jW ?_
 refine jR _ ?_
 iterate 2 (refine ybo ?_)
 refine ybo ?_ (fun K hK => yaf (yah hb0 rfl) hK)
 refine ybo ?_
 refine ybo (v := .sl g0.length 0 1 1 1 1) (g := push g0 (.cells 5 [.int .u8 (IntKind.u8.wrap op)])) ?_
 refine ybo ?_ (fun K hK => ycs (congrArg valH a1) hK)
 refine ybo ?_
 have hb1 := k1.2 _ _ _ hb0 (by decide)
 replace k1 := k0.trans k1
 obtain ⟨w2, g2, c2, r2, k2⟩ := yiw a (by omega) _ _ _ r1 (by simp only [List.length_append, List.length_cons, List.length_nil]; omega)
 have hb2 := k2.2 _ _ _ hb1 (by decide)
 obtain ⟨w3, g3, c3, r3, k3⟩ := yiw b (by omega) _ _ _ r2 (by simp only [List.length_append, List.length_cons, List.length_nil]; omega)
 have hb3 := k3.2 _ _ _ hb2 (by decide)
 obtain ⟨w4, g4, c4, r4, k4⟩ := yiw cc (by omega) _ _ _ r3 (by simp only [List.length_append, List.length_cons, List.length_nil]; omega)
 have hb4 := k4.2 _ _ _ hb3 (by decide)
 refine jW ?_
 refine RunP.drawn2R _ (by decide +kernel) (by decide +kernel) (fun _ => rfl) ?_
 refine yer rfl (fun _ => id) (by decide +kernel) rfl ?_
 refine yer rfl (fun _ => id) (by decide +kernel) rfl ?_
 refine yiu rfl (fun K hK => yaf (yah hb1 rfl) hK) (by decide +kernel) (ydh trivial) rfl ?_
 refine yit rfl (fun K hK => CallK.of c2 hK) (by decide +kernel) (ybw (by decide +kernel) trivial) rfl ?_
 refine yer rfl (fun _ => id) (by decide +kernel) rfl ?_
 refine yiu rfl (fun K hK => yaf (yah hb2 rfl) hK) (by decide +kernel) (ydr (StillK.of (yaf (yah hb1 rfl) rfl)) (ydh trivial)) rfl ?_
 refine yit rfl (fun K hK => CallK.of c3 hK) (by decide +kernel) (ybw (by decide +kernel) (ybw (by decide +kernel) trivial)) rfl ?_
 refine yer rfl (fun _ => id) (by decide +kernel) rfl ?_
 refine yiu rfl (fun K hK => yaf (yah hb3 rfl) hK) (by decide +kernel) (ydr (StillK.of (yaf (yah hb2 rfl) rfl)) (ydr (StillK.of (yaf (yah hb1 rfl) rfl)) (ydh trivial))) rfl ?_
 refine yit rfl (fun K hK => CallK.of c4 hK) (by decide +kernel) (ybw (by decide +kernel) (ybw (by decide +kernel) (ybw (by decide +kernel) trivial))) rfl ?_
 refine yer rfl (fun _ => id) (by decide +kernel) rfl ?_
 have e2 : IntKind.u8.wrap k = ((byB k).toNat : Int) := wrap8 k (by omega) (by omega)
 obtain ⟨v5, g5, a5, r5, k5⟩ := yfw e2 r4 (by simp only [List.length_append, List.length_cons, List.length_nil]; omega)
 have hb5 := k5.2 _ _ _ hb4 (by decide)
 refine jW ?_
 refine jR _ ?_
 iterate 3 (refine ybo ?_)
 refine ybo ?_ (fun K hK => yaf (yah hb4 rfl) hK)
 refine ybo ?_
 refine ybo (v := .sl g4.length 0 1 1 1 1) (g := push g4 (.cells 5 [.int .u8 (IntKind.u8.wrap k)])) ?_
 refine ybo ?_ (fun K hK => ycs (congrArg valH a5) hK)
 refine ybo ?_
 obtain ⟨w6, g6, c6, r6, k6⟩ := yiw n (by omega) _ _ _ r5 (by simp only [List.length_append, List.length_cons, List.length_nil]; omega)
 have hb6 := k6.2 _ _ _ hb5 (by decide)
 obtain ⟨w7, g7, c7, r7, k7⟩ := ysd s (by omega) _ _ _ r6 (by simp only [List.length_append, List.length_cons, List.length_nil]; omega)
 have hb7 := k7.2 _ _ _ hb6 (by decide)
 refine jW ?_
 refine RunP.drawn2R _ (by decide +kernel) (by decide +kernel) (fun _ => rfl) ?_
 refine yer rfl (fun _ => id) (by decide +kernel) rfl ?_
 refine yer rfl (fun _ => id) (by decide +kernel) rfl ?_
 refine yer rfl (fun _ => id) (by decide +kernel) rfl ?_
 refine yiu rfl (fun K hK => yaf (yah hb5 rfl) hK) (by decide +kernel) (ydh trivial) rfl ?_
 refine yit rfl (fun K hK => CallK.of c6 hK) (by decide +kernel) (ybw (by decide +kernel) trivial) rfl ?_
 refine yer rfl (fun _ => id) (by decide +kernel) rfl ?_
 refine yer rfl (fun _ => id) (by decide +kernel) rfl ?_
 refine yiu rfl (fun K hK => yaf (yah hb6 rfl) hK) (by decide +kernel) (ydr (StillK.of (yaf (yah hb5 rfl) rfl)) (ydh trivial)) rfl ?_
 refine yit rfl (fun K hK => CallK.of c7 hK) (by decide +kernel) (ybw (by decide +kernel) (ybw (by decide +kernel) trivial)) rfl ?_
 refine yer rfl (fun _ => id) (by decide +kernel) rfl ?_
 obtain ⟨w8, g8, c8, r8, k8⟩ := yiv (lenO l) (by omega) _ _ _ r7 (by simp only [List.length_append, List.length_cons, List.length_nil]; omega)
 rw [← wrapU (x := (lenO l : Int)) (by omega) (by omega)] at c8
 have hb8 := k8.2 _ _ _ hb7 (by decide)
 refine jW ?_
 refine jR _ ?_
 iterate 2 (refine ybo ?_)
 refine ybo ?_ (fun K hK => yaf (yah hb7 rfl) hK)
 refine ybo ?_ (fun K hK => yes (f := intV) rfl rfl hK)
 refine ybo ?_
 refine ybo ?_ (fun K hK => CallK.of c8 hK)
 refine ybo ?_
 refine jW ?_
 refine jR _ ?_
 refine ybo ?_
 refine jW ?_
 have kk8 := k1.trans (k2.trans (k3.trans (k4.trans (k5.trans (k6.trans (k7.trans k8))))))
 refine RunP.loop (viI h (pre ++ (byB op :: (intB a ++ (intB b ++ (intB cc ++ (byB k :: (intB n ++ (txtB s ++ numB (lenO l))))))))) (l.getD []) (iC op a b cc k n s l) h.length) ?_ (l.getD []).length ⟨0, _, w8, ⟨⟨Nat.zero_add _, rfl⟩, by simpa [List.append_assoc] using r8, kk8, hb8⟩, rfl, rfl, rfl, rfl, rfl, rfl⟩
 intro kk st hh hI
 obtain ⟨i, z, o1, x, ⟨⟨hik, hz⟩, hrow, hkp, hbx⟩, rfl⟩ := viI_lit hI
 clear hI
 subst hz
 have hll : lenO l = (l.getD []).length := rfl
 by_cases hi : i < (l.getD []).length
 ·obtain ⟨l, rfl⟩ : ∃ l', l = some l' := by
   cases l with
   | none => simp at hi
   | some l => exact ⟨l, rfl⟩
  simp only [Option.getD_some] at *
  obtain ⟨x0, hx0⟩ : ∃ y, l[i]? = some y := ⟨_, List.getElem?_eq_getElem hi⟩
  have hmem := List.mem_of_getElem? hx0
  have ht : (l.take (i + 1)).flatMap intB = (l.take i).flatMap intB ++ intB x0 := by
   rw [List.take_add_one, hx0]; simp
  have hle : ((l.take (i + 1)).flatMap intB).length ≤ (l.flatMap intB).length := by
   conv => rhs; rw [← List.take_append_drop (i + 1) l, List.flatMap_append, List.length_append]
   omega
  rw [ht, List.length_append] at hle
  have hbd := hL x0 hmem
  unfold BI at hbd
  obtain ⟨w9, g9, c9, r9, k9⟩ := yiw x0 (by omega) _ _ _ hrow (by simp only [List.length_append, List.length_cons]; omega)
  refine jW ?_
  refine jR _ ?_
  iterate 2 (refine ybo ?_)
  refine ybo ?_ (fun K hK => yaf (yah hbx rfl) hK)
  refine ybo ?_
  refine ybo ?_ (fun K hK => jI (fun _ => hK) (fun q => absurd q (by rw [List.length_map]; omega)))
  refine jW ?_
  refine jR _ ?_
  iterate 2 (refine ybo ?_)
  refine ybo ?_ (fun K hK => yaf (yah hbx rfl) hK)
  refine ybo ?_
  refine ybo ?_ (fun K hK => jI (by omega) (jI rfl (Exists.intro (intV x0) (jI (by rw [List.getElem?_map]; simp [hx0]) hK))))
  refine ybo (v := intV x0) (g := hh) ?_
  refine ybo ?_ (fun K hK => CallK.of c9 hK)
  refine ybo ?_
  refine jW ?_
  refine jR _ ?_
  iterate 3 (refine ybo ?_)
  exact ⟨kk - 1, by omega, i + 1, _, _, ⟨⟨by omega, ycj i (by omega)⟩, by rw [ht]; simpa [List.append_assoc] using r9, hkp.trans k9, k9.2 _ _ _ hbx (by decide)⟩, rfl, rfl, rfl, rfl, rfl, rfl⟩
 ·have hi : i = (l.getD []).length := by omega
  rw [hi, List.take_length] at hrow
  refine jW ?_
  refine jR _ ?_
  iterate 2 (refine ybo ?_)
  refine ybo ?_ (fun K hK => yaf (yah hbx rfl) hK)
  refine ybo ?_ (fun K hK => yes (f := intV) (l := l) rfl rfl hK)
  refine ybo ?_ (fun K hK => jI (fun q => absurd q (by rw [hll]; omega)) (fun _ => hK))
  refine jW ?_
  refine jR _ ?_
  iterate 2 (refine ybo ?_)
  refine jW ?_
  apply jH
  have hrow3 : InRow hh 5 1 o1 (bv (pre ++ (byB op :: (intB a ++ (intB b ++ (intB cc ++ (byB k :: (intB n ++ (txtB s ++ (numB (lenO l) ++ (l.getD []).flatMap intB)))))))))) := by simpa [List.append_assoc] using hrow
  exact ⟨rfl, hrow3, hkp⟩
end Go.Proofs.YtekmafoicobphaaGreatDoor
