/- Packed codes: the program's writers of instructions, guards, functions. -/
import Derived.Test.YtekmafoicobphaaGreatDoorSbPk2
set_option linter.unusedVariables false
set_option linter.unusedSimpArgs false
namespace Go.Proofs.YtekmafoicobphaaGreatDoor
open Go.Sb
set_option maxRecDepth 100000
theorem ybf {E : Env} {md : Go.FuncId → Sb.Mode} {o : ROp} {os : List ROp} {s : List V} {h g : Heap} {v : V} {K : List V → Heap → Prop} {a0 a1 a2 a3 a4 a5 a6 a7 a8 a9 a10 a11 a12 a13 a14 a15 a16 a17 a18 a19 a20 a21 a22 a23 a24 a25 a26 : V} (hn : yag E md os [a0, a1, a2, a3, a4, a5, a6, a7, a8, a9, a10, a11, a12, a13, a14, a15, a16, a17, a18, a19, a20, a21, a22, a23, a24, a25, a26] g K) (hop : ∀ K : V → Heap → Prop, K v g → runOp E md o.op s h K := by exact fun _ => id) (hg : o.gd = none := by rfl) (hs : putT s o.dst v = [a0, a1, a2, a3, a4, a5, a6, a7, a8, a9, a10, a11, a12, a13, a14, a15, a16, a17, a18, a19, a20, a21, a22, a23, a24, a25, a26] := by rfl) : yag E md (o :: os) s h K := ybe hg hop hs hn
theorem yar {E : Env} {md : Go.FuncId → Sb.Mode} {o : ROp} {os : List ROp} {s : List V} {h g : Heap} {v : V} {K : List V → Heap → Prop} {a0 a1 a2 a3 a4 a5 a6 a7 a8 a9 a10 a11 a12 a13 a14 a15 a16 a17 a18 a19 a20 a21 a22 a23 a24 a25 a26 a27 a28 a29 a30 a31 a32 a33 a34 a35 a36 a37 a38 a39 a40 a41 a42 a43 a44 a45 a46 a47 a48 a49 a50 : V} (hn : yag E md os [a0, a1, a2, a3, a4, a5, a6, a7, a8, a9, a10, a11, a12, a13, a14, a15, a16, a17, a18, a19, a20, a21, a22, a23, a24, a25, a26, a27, a28, a29, a30, a31, a32, a33, a34, a35, a36, a37, a38, a39, a40, a41, a42, a43, a44, a45, a46, a47, a48, a49, a50] g K) (hop : ∀ K : V → Heap → Prop, K v g → runOp E md o.op s h K := by exact fun _ => id) (hg : o.gd = none := by rfl) (hs : putT s o.dst v = [a0, a1, a2, a3, a4, a5, a6, a7, a8, a9, a10, a11, a12, a13, a14, a15, a16, a17, a18, a19, a20, a21, a22, a23, a24, a25, a26, a27, a28, a29, a30, a31, a32, a33, a34, a35, a36, a37, a38, a39, a40, a41, a42, a43, a44, a45, a46, a47, a48, a49, a50] := by rfl) : yag E md (o :: os) s h K := ybe hg hop hs hn
def wiI (h0 : Heap) (pre : Bs8) (a b c : Int) (cs : List V) (hb nb : Nat) (k : Nat) (s : List V) (h : Heap) : Prop :=
 ∃ (i : Nat) (z : Int) (o : V), ((i + k = 3 ∧ z = i) ∧ InRow h 5 1 o (bv (pre ++ ([a, b, c].take i).flatMap intB)) ∧ KeepB h0 h ∧ h[hb]? = some (.cells 68 cs) ∧ h[nb]? = some (.cells 3 [.int .i64 a, .int .i64 b, .int .i64 c])) ∧ s.length = 51 ∧ s.getD 0 und = und ∧ s.getD 1 und = o ∧ s.getD 4 und = .ptr hb 0 8 ∧ s.getD 5 und = .nils ∧ s.getD 20 und = .sl nb 0 1 3 3 3 ∧ s.getD 21 und = .int .i64 3 ∧ s.getD 22 und = .int .i64 z
theorem wiI_lit {h0 : Heap} {pre : Bs8} {a b c : Int} {cs : List V} {hb nb : Nat} {k : Nat} {s : List V} {h : Heap} (hI : wiI h0 pre a b c cs hb nb k s h) : ∃ (i : Nat) (z : Int) (o : V) (x : Nat → V), ((i + k = 3 ∧ z = i) ∧ InRow h 5 1 o (bv (pre ++ ([a, b, c].take i).flatMap intB)) ∧ KeepB h0 h ∧ h[hb]? = some (.cells 68 cs) ∧ h[nb]? = some (.cells 3 [.int .i64 a, .int .i64 b, .int .i64 c])) ∧
  s = [und, o, x 2, x 3, .ptr hb 0 8, .nils, x 6, x 7, x 8, x 9, x 10, x 11, x 12, x 13, x 14, x 15, x 16, x 17, x 18, x 19, .sl nb 0 1 3 3 3, .int .i64 3, .int .i64 z, x 23, x 24, x 25, x 26, x 27, x 28, x 29, x 30, x 31, x 32, x 33, x 34, x 35, x 36, x 37, x 38, x 39, x 40, x 41, x 42, x 43, x 44, x 45, x 46, x 47, x 48, x 49, x 50] := by
 obtain ⟨i, z, o, hF, hl, e0, e1, e4, e5, e20, e21, e22⟩ := hI
 refine ⟨i, z, o, fun n => s.getD n und, hF, (ybd hl).trans ?_⟩
 simp only [List.range, List.range.loop, List.map_cons, List.map_nil]
 rw [e0, e1, e4, e5, e20, e21, e22]
set_option maxHeartbeats 8000000 in
theorem instr_wr (x : Ins) (hx : BndI x) (hl0 : lenO x.l < 2 ^ 62) : Wr 100 [insV x] (insPB x) := fun h o pre hr hlen => by
 obtain ⟨op, a, b, cc, k, n, s, l⟩ := x
 obtain ⟨hop, ha, hb, hc, hv, hL⟩ := hx
 obtain ⟨hk, hn, hs⟩ := ynk hv
 simp only at hop ha hb hc hk hn hs hL hl0
 unfold BI at ha hb hc
 refine HasP.sharedE (E := envQ) (f := 100) (d := fn100) (R := fun w g => InRow g 5 1 w (bv (pre ++ insPB ⟨op, a, b, cc, k, n, s, l⟩)) ∧ KeepB h g) rfl (jT rfl) ?_
 have hP : insPB ⟨op, a, b, cc, k, n, s, l⟩ = byB op :: (intB a ++ (intB b ++ (intB cc ++ (byB k :: (intB n ++ (txtB s ++ lstB intB l)))))) := rfl
 rw [hP] at hlen ⊢
 simp only [List.length_cons, List.length_append] at hlen
 show yas (initT _ [o, .agg (iC op a b cc k n s l)]) _
 refine jW ?_
 refine jR _ ?_
 refine yar (v := .ptr h.length 0 8) (g := push h (.cells 68 (iC op a b cc k n s l))) ?_ (fun K hK => ydu (ygb _ _ _ _ _ _ _ _) hK)
 refine yar ?_
 have hb0 : (push h (.cells 68 (iC op a b cc k n s l)))[h.length]? = some (.cells 68 (iC op a b cc k n s l)) := ydh _ _
 have k0 : KeepB h (push h (.cells 68 (iC op a b cc k n s l))) := KeepB.push _ _
 have r0 := hr.push (.cells 68 (iC op a b cc k n s l))
 generalize push h (.cells 68 (iC op a b cc k n s l)) = g0 at *
 have e1 : IntKind.u8.wrap op = ((byB op).toNat : Int) := wrap8 op (by omega) (by omega)
 obtain ⟨v1, g1, a1, r1, k1⟩ := ykm e1 r0 (by omega)
 refine jW ?_
 refine jR _ ?_
 iterate 2 (refine yar ?_)
 refine yar ?_ (fun K hK => yab (yae hb0 rfl) hK)
 refine yar ?_
 refine yar (v := .sl g0.length 0 1 1 1 1) (g := push g0 (.cells 5 [.int .u8 (IntKind.u8.wrap op)])) ?_
 refine yar ?_ (fun K hK => ycn (congrArg valH a1) hK)
 refine yar ?_
 have hb1 := k1.2 _ _ _ hb0 (by decide)
 replace k1 := k0.trans k1
 refine jW ?_
 refine jR _ ?_
 refine yar ?_
 refine yar ?_ (fun K hK => yab (yae hb1 rfl) hK)
 refine yar ?_
 refine yar ?_ (fun K hK => yab (yae hb1 rfl) hK)
 refine yar ?_
 refine yar ?_ (fun K hK => yab (yae hb1 rfl) hK)
 refine yar (v := .sl g1.length 0 1 3 3 3) (g := push g1 (.cells 3 [.int .i64 a, .int .i64 b, .int .i64 cc])) ?_
 iterate 2 (refine yar ?_)
 have hb2 : (push g1 (.cells 3 [.int .i64 a, .int .i64 b, .int .i64 cc]))[h.length]? = some (.cells 68 (iC op a b cc k n s l)) := yam hb1
 have hn2 : (push g1 (.cells 3 [.int .i64 a, .int .i64 b, .int .i64 cc]))[g1.length]? = some (.cells 3 [.int .i64 a, .int .i64 b, .int .i64 cc]) := ydh _ _
 refine jW ?_
 refine RunP.loop (wiI h (pre ++ [byB op]) a b cc (iC op a b cc k n s l) h.length g1.length) ?_ 3 ⟨0, _, v1, ⟨⟨rfl, rfl⟩, by simpa using r1.push (.cells 3 [.int .i64 a, .int .i64 b, .int .i64 cc]), k1.trans (KeepB.push _ _), hb2, hn2⟩, rfl, rfl, rfl, rfl, rfl, rfl, rfl, rfl⟩
 intro kk st hh hI
 obtain ⟨i, z, o1, x, ⟨⟨hik, hz⟩, hrow, hkp, hbx, hnb⟩, rfl⟩ := wiI_lit hI
 clear hI
 subst hz
 have hi4 : i = 0 ∨ i = 1 ∨ i = 2 ∨ i = 3 := by omega
 rcases hi4 with rfl | rfl | rfl | rfl
 ·obtain ⟨w2, g2, c1, c2, c3⟩ := yiq a (by omega) _ _ _ hrow (by simp only [List.length_append, List.take_succ_cons, List.take_zero, List.flatMap_cons, List.flatMap_nil, List.length_nil, List.length_cons]; omega)
  refine jW ?_
  apply jB
  refine jI (fun _ => ?_) (fun q => absurd q (by decide))
  refine jW ?_
  refine jR _ ?_
  refine yar ?_ (fun K hK => jI (jI (by decide) (by decide)) (jI rfl hK))
  refine yar ?_ (fun K hK => yab (yae hnb rfl) hK)
  refine yar ?_
  refine jW ?_
  refine jR _ ?_
  iterate 2 (refine yar ?_)
  refine yar ?_ (fun K hK => CallK.of c1 hK)
  refine yar ?_
  refine jW ?_
  refine jR _ ?_
  iterate 2 (refine yar ?_)
  exact ⟨kk - 1, by omega, 0 + 1, _, _, ⟨⟨by omega, rfl⟩, by simpa [List.append_assoc] using c2, hkp.trans c3, c3.2 _ _ _ hbx (by decide), c3.2 _ _ _ hnb (by decide)⟩, rfl, rfl, rfl, rfl, rfl, rfl, rfl, rfl⟩
 ·obtain ⟨w2, g2, c1, c2, c3⟩ := yiq b (by omega) _ _ _ hrow (by simp only [List.length_append, List.take_succ_cons, List.take_zero, List.flatMap_cons, List.flatMap_nil, List.length_nil, List.length_cons]; omega)
  refine jW ?_
  apply jB
  refine jI (fun _ => ?_) (fun q => absurd q (by decide))
  refine jW ?_
  refine jR _ ?_
  refine yar ?_ (fun K hK => jI (jI (by decide) (by decide)) (jI rfl hK))
  refine yar ?_ (fun K hK => yab (yae hnb rfl) hK)
  refine yar ?_
  refine jW ?_
  refine jR _ ?_
  iterate 2 (refine yar ?_)
  refine yar ?_ (fun K hK => CallK.of c1 hK)
  refine yar ?_
  refine jW ?_
  refine jR _ ?_
  iterate 2 (refine yar ?_)
  exact ⟨kk - 1, by omega, 1 + 1, _, _, ⟨⟨by omega, rfl⟩, by simpa [List.append_assoc] using c2, hkp.trans c3, c3.2 _ _ _ hbx (by decide), c3.2 _ _ _ hnb (by decide)⟩, rfl, rfl, rfl, rfl, rfl, rfl, rfl, rfl⟩
 ·obtain ⟨w2, g2, c1, c2, c3⟩ := yiq cc (by omega) _ _ _ hrow (by simp only [List.length_append, List.take_succ_cons, List.take_zero, List.flatMap_cons, List.flatMap_nil, List.length_nil, List.length_cons]; omega)
  refine jW ?_
  apply jB
  refine jI (fun _ => ?_) (fun q => absurd q (by decide))
  refine jW ?_
  refine jR _ ?_
  refine yar ?_ (fun K hK => jI (jI (by decide) (by decide)) (jI rfl hK))
  refine yar ?_ (fun K hK => yab (yae hnb rfl) hK)
  refine yar ?_
  refine jW ?_
  refine jR _ ?_
  iterate 2 (refine yar ?_)
  refine yar ?_ (fun K hK => CallK.of c1 hK)
  refine yar ?_
  refine jW ?_
  refine jR _ ?_
  iterate 2 (refine yar ?_)
  exact ⟨kk - 1, by omega, 2 + 1, _, _, ⟨⟨by omega, rfl⟩, by simpa [List.append_assoc] using c2, hkp.trans c3, c3.2 _ _ _ hbx (by decide), c3.2 _ _ _ hnb (by decide)⟩, rfl, rfl, rfl, rfl, rfl, rfl, rfl, rfl⟩
 ·have hrow3 : InRow hh 5 1 o1 (bv (pre ++ (byB op :: (intB a ++ (intB b ++ intB cc))))) := by simpa [List.append_assoc] using hrow
  have e2 : IntKind.u8.wrap k = ((byB k).toNat : Int) := wrap8 k (by omega) (by omega)
  obtain ⟨v4, g4, a4, r4, k4⟩ := ykm e2 hrow3 (by simp only [List.length_append, List.length_cons]; omega)
  refine jW ?_
  apply jB
  refine jI (fun q => absurd q (by decide)) (fun _ => ?_)
  refine jW ?_
  refine jR _ ?_
  iterate 3 (refine yar ?_)
  refine yar ?_ (fun K hK => yab (yae hbx rfl) hK)
  refine yar ?_
  refine yar (v := .sl hh.length 0 1 1 1 1) (g := push hh (.cells 5 [.int .u8 (IntKind.u8.wrap k)])) ?_
  refine yar ?_ (fun K hK => ycn (congrArg valH a4) hK)
  refine yar ?_
  have hb4 := k4.2 _ _ _ hbx (by decide)
  obtain ⟨w5, g5, c5, r5, k5⟩ := yiq n (by omega) _ _ _ r4 (by simp only [List.length_append, List.length_cons, List.length_nil]; omega)
  refine jW ?_
  refine jR _ ?_
  iterate 3 (refine yar ?_)
  refine yar ?_ (fun K hK => yab (yae hb4 rfl) hK)
  refine yar ?_ (fun K hK => CallK.of c5 hK)
  refine yar ?_
  have hb5 := k5.2 _ _ _ hb4 (by decide)
  obtain ⟨w6, g6, c6, r6, k6⟩ := ysj s (by omega) _ _ _ r5 (by simp only [List.length_append, List.length_cons, List.length_nil]; omega)
  refine jW ?_
  refine jR _ ?_
  iterate 3 (refine yar ?_)
  refine yar ?_ (fun K hK => yab (yae hb5 rfl) hK)
  refine yar ?_ (fun K hK => CallK.of c6 hK)
  refine yar ?_
  have hb6 := k6.2 _ _ _ hb5 (by decide)
  obtain ⟨w7, g7, c7, r7, k7⟩ := yxz l intB (fun z hz => yiq z (by have := hL z hz; unfold BI at this; omega)) hl0 _ _ _ r6 (by simp only [List.length_append, List.length_cons, List.length_nil]; omega)
  refine jW ?_
  refine jR _ ?_
  iterate 2 (refine yar ?_)
  refine yar ?_ (fun K hK => yab (yae hb6 rfl) hK)
  refine yar ?_ (fun K hK => CallK.of c7 hK)
  refine yar ?_
  refine jW ?_
  apply jH
  have r8 : InRow g7 5 1 w7 (bv (pre ++ (byB op :: (intB a ++ (intB b ++ (intB cc ++ (byB k :: (intB n ++ (txtB s ++ lstB intB l))))))))) := by simpa [List.append_assoc] using r7
  exact ⟨rfl, r8, hkp.trans (k4.trans (k5.trans (k6.trans k7)))⟩
def wgI (h0 : Heap) (pre : Bs8) (a b c e : Nat) (nb : Nat) (k : Nat) (s : List V) (h : Heap) : Prop :=
 ∃ (i : Nat) (z : Int) (o : V), ((i + k = 4 ∧ z = i) ∧ InRow h 5 1 o (bv (pre ++ ([a, b, c, e].take i).flatMap numB)) ∧ KeepB h0 h ∧ h[nb]? = some (.cells 3 [.int .i64 a, .int .i64 b, .int .i64 c, .int .i64 e])) ∧ s.length = 27 ∧ s.getD 0 und = und ∧ s.getD 1 und = o ∧ s.getD 5 und = .nils ∧ s.getD 16 und = .sl nb 0 1 4 4 4 ∧ s.getD 17 und = .int .i64 4 ∧ s.getD 18 und = .int .i64 z
theorem wgI_lit {h0 : Heap} {pre : Bs8} {a b c e : Nat} {nb : Nat} {k : Nat} {s : List V} {h : Heap} (hI : wgI h0 pre a b c e nb k s h) : ∃ (i : Nat) (z : Int) (o : V) (x : Nat → V), ((i + k = 4 ∧ z = i) ∧ InRow h 5 1 o (bv (pre ++ ([a, b, c, e].take i).flatMap numB)) ∧ KeepB h0 h ∧ h[nb]? = some (.cells 3 [.int .i64 a, .int .i64 b, .int .i64 c, .int .i64 e])) ∧
  s = [und, o, x 2, x 3, x 4, .nils, x 6, x 7, x 8, x 9, x 10, x 11, x 12, x 13, x 14, x 15, .sl nb 0 1 4 4 4, .int .i64 4, .int .i64 z, x 19, x 20, x 21, x 22, x 23, x 24, x 25, x 26] := by
 obtain ⟨i, z, o, hF, hl, e0, e1, e5, e16, e17, e18⟩ := hI
 refine ⟨i, z, o, fun n => s.getD n und, hF, (ybd hl).trans ?_⟩
 simp only [List.range, List.range.loop, List.map_cons, List.map_nil]
 rw [e0, e1, e5, e16, e17, e18]
theorem natB_n (n : Nat) : natB (n : Int) = numB n := by simp [natB]
set_option maxHeartbeats 8000000 in
theorem guard_wr (x : Grd) (hx : BndG x) : Wr 102 [grdV x] (grdPB x) := fun h o pre hr hlen => by
 obtain ⟨a, b, cc, e⟩ := x
 obtain ⟨ha, hb, hc, he⟩ := hx
 unfold BN at ha hb hc he
 simp only at ha hb hc he
 obtain ⟨a, rfl⟩ : ∃ n : Nat, a = n := ⟨a.toNat, by omega⟩
 obtain ⟨b, rfl⟩ : ∃ n : Nat, b = n := ⟨b.toNat, by omega⟩
 obtain ⟨cc, rfl⟩ : ∃ n : Nat, cc = n := ⟨cc.toNat, by omega⟩
 obtain ⟨e, rfl⟩ : ∃ n : Nat, e = n := ⟨e.toNat, by omega⟩
 refine HasP.sharedE (E := envQ) (f := 102) (d := fn102) (R := fun w g => InRow g 5 1 w (bv (pre ++ grdPB ⟨a, b, cc, e⟩)) ∧ KeepB h g) rfl (jT rfl) ?_
 have hP : grdPB ⟨a, b, cc, e⟩ = numB a ++ (numB b ++ (numB cc ++ numB e)) := by simp only [grdPB, natB_n]
 rw [hP] at hlen ⊢
 simp only [List.length_append] at hlen
 show yas (initT _ [o, .agg [.int .i64 a, .int .i64 b, .int .i64 cc, .int .i64 e]]) _
 refine jW ?_
 refine jR _ ?_
 refine ybf (v := .ptr h.length 0 4) (g := push h (.cells 70 [.int .i64 a, .int .i64 b, .int .i64 cc, .int .i64 e])) ?_ (fun K hK => ydu (yng ⟨a, b, cc, e⟩) hK)
 refine ybf ?_
 have hb0 : (push h (.cells 70 [.int .i64 a, .int .i64 b, .int .i64 cc, .int .i64 e]))[h.length]? = some (.cells 70 [.int .i64 a, .int .i64 b, .int .i64 cc, .int .i64 e]) := ydh _ _
 have k0 : KeepB h (push h (.cells 70 [.int .i64 a, .int .i64 b, .int .i64 cc, .int .i64 e])) := KeepB.push _ _
 have r0 := hr.push (.cells 70 [.int .i64 a, .int .i64 b, .int .i64 cc, .int .i64 e])
 generalize push h (.cells 70 [.int .i64 a, .int .i64 b, .int .i64 cc, .int .i64 e]) = g0 at *
 refine jW ?_
 refine jR _ ?_
 refine ybf ?_
 refine ybf ?_ (fun K hK => yab (yae hb0 rfl) hK)
 refine ybf ?_
 refine ybf ?_ (fun K hK => yab (yae hb0 rfl) hK)
 refine ybf ?_
 refine ybf ?_ (fun K hK => yab (yae hb0 rfl) hK)
 refine ybf ?_
 refine ybf ?_ (fun K hK => yab (yae hb0 rfl) hK)
 refine ybf (v := .sl g0.length 0 1 4 4 4) (g := push g0 (.cells 3 [.int .i64 a, .int .i64 b, .int .i64 cc, .int .i64 e])) ?_
 iterate 2 (refine ybf ?_)
 have hn2 : (push g0 (.cells 3 [.int .i64 a, .int .i64 b, .int .i64 cc, .int .i64 e]))[g0.length]? = some (.cells 3 [.int .i64 a, .int .i64 b, .int .i64 cc, .int .i64 e]) := ydh _ _
 refine jW ?_
 refine RunP.loop (wgI h pre a b cc e g0.length) ?_ 4 ⟨0, _, o, ⟨⟨rfl, rfl⟩, by simpa using r0.push (.cells 3 [.int .i64 a, .int .i64 b, .int .i64 cc, .int .i64 e]), k0.trans (KeepB.push _ _), hn2⟩, rfl, rfl, rfl, rfl, rfl, rfl, rfl⟩
 intro kk st hh hI
 obtain ⟨i, z, o1, x, ⟨⟨hik, hz⟩, hrow, hkp, hnb⟩, rfl⟩ := wgI_lit hI
 clear hI
 subst hz
 have hi4 : i = 0 ∨ i = 1 ∨ i = 2 ∨ i = 3 ∨ i = 4 := by omega
 rcases hi4 with rfl | rfl | rfl | rfl | rfl
 ·obtain ⟨w2, g2, c1, c2, c3⟩ := ydl a (by omega) _ _ _ hrow (by simp only [List.length_append, List.take_succ_cons, List.take_zero, List.flatMap_cons, List.flatMap_nil, List.length_nil, List.length_cons]; omega)
  refine jW ?_
  apply jB
  refine jI (fun _ => ?_) (fun q => absurd q (by decide))
  refine jW ?_
  refine jR _ ?_
  refine ybf ?_ (fun K hK => jI (jI (by decide) (by decide)) (jI rfl hK))
  refine ybf ?_ (fun K hK => yab (yae hnb rfl) hK)
  refine ybf ?_
  refine jW ?_
  refine jR _ ?_
  iterate 2 (refine ybf ?_)
  refine ybf ?_ (fun K hK => CallK.of c1 hK)
  refine ybf ?_
  refine jW ?_
  refine jR _ ?_
  iterate 2 (refine ybf ?_)
  exact ⟨kk - 1, by omega, 0 + 1, _, _, ⟨⟨by omega, rfl⟩, by simpa [List.append_assoc] using c2, hkp.trans c3, c3.2 _ _ _ hnb (by decide)⟩, rfl, rfl, rfl, rfl, rfl, rfl, rfl⟩
 ·obtain ⟨w2, g2, c1, c2, c3⟩ := ydl b (by omega) _ _ _ hrow (by simp only [List.length_append, List.take_succ_cons, List.take_zero, List.flatMap_cons, List.flatMap_nil, List.length_nil, List.length_cons]; omega)
  refine jW ?_
  apply jB
  refine jI (fun _ => ?_) (fun q => absurd q (by decide))
  refine jW ?_
  refine jR _ ?_
  refine ybf ?_ (fun K hK => jI (jI (by decide) (by decide)) (jI rfl hK))
  refine ybf ?_ (fun K hK => yab (yae hnb rfl) hK)
  refine ybf ?_
  refine jW ?_
  refine jR _ ?_
  iterate 2 (refine ybf ?_)
  refine ybf ?_ (fun K hK => CallK.of c1 hK)
  refine ybf ?_
  refine jW ?_
  refine jR _ ?_
  iterate 2 (refine ybf ?_)
  exact ⟨kk - 1, by omega, 1 + 1, _, _, ⟨⟨by omega, rfl⟩, by simpa [List.append_assoc] using c2, hkp.trans c3, c3.2 _ _ _ hnb (by decide)⟩, rfl, rfl, rfl, rfl, rfl, rfl, rfl⟩
 ·obtain ⟨w2, g2, c1, c2, c3⟩ := ydl cc (by omega) _ _ _ hrow (by simp only [List.length_append, List.take_succ_cons, List.take_zero, List.flatMap_cons, List.flatMap_nil, List.length_nil, List.length_cons]; omega)
  refine jW ?_
  apply jB
  refine jI (fun _ => ?_) (fun q => absurd q (by decide))
  refine jW ?_
  refine jR _ ?_
  refine ybf ?_ (fun K hK => jI (jI (by decide) (by decide)) (jI rfl hK))
  refine ybf ?_ (fun K hK => yab (yae hnb rfl) hK)
  refine ybf ?_
  refine jW ?_
  refine jR _ ?_
  iterate 2 (refine ybf ?_)
  refine ybf ?_ (fun K hK => CallK.of c1 hK)
  refine ybf ?_
  refine jW ?_
  refine jR _ ?_
  iterate 2 (refine ybf ?_)
  exact ⟨kk - 1, by omega, 2 + 1, _, _, ⟨⟨by omega, rfl⟩, by simpa [List.append_assoc] using c2, hkp.trans c3, c3.2 _ _ _ hnb (by decide)⟩, rfl, rfl, rfl, rfl, rfl, rfl, rfl⟩
 ·obtain ⟨w2, g2, c1, c2, c3⟩ := ydl e (by omega) _ _ _ hrow (by simp only [List.length_append, List.take_succ_cons, List.take_zero, List.flatMap_cons, List.flatMap_nil, List.length_nil, List.length_cons]; omega)
  refine jW ?_
  apply jB
  refine jI (fun _ => ?_) (fun q => absurd q (by decide))
  refine jW ?_
  refine jR _ ?_
  refine ybf ?_ (fun K hK => jI (jI (by decide) (by decide)) (jI rfl hK))
  refine ybf ?_ (fun K hK => yab (yae hnb rfl) hK)
  refine ybf ?_
  refine jW ?_
  refine jR _ ?_
  iterate 2 (refine ybf ?_)
  refine ybf ?_ (fun K hK => CallK.of c1 hK)
  refine ybf ?_
  refine jW ?_
  refine jR _ ?_
  iterate 2 (refine ybf ?_)
  exact ⟨kk - 1, by omega, 3 + 1, _, _, ⟨⟨by omega, rfl⟩, by simpa [List.append_assoc] using c2, hkp.trans c3, c3.2 _ _ _ hnb (by decide)⟩, rfl, rfl, rfl, rfl, rfl, rfl, rfl⟩
 ·have hrow3 : InRow hh 5 1 o1 (bv (pre ++ (numB a ++ (numB b ++ (numB cc ++ numB e))))) := by simpa [List.append_assoc] using hrow
  refine jW ?_
  apply jB
  refine jI (fun q => absurd q (by decide)) (fun _ => ?_)
  refine jW ?_
  refine jR _ ?_
  iterate 2 (refine ybf ?_)
  refine jW ?_
  apply jH
  exact ⟨rfl, hrow3, hkp⟩
set_option maxHeartbeats 8000000 in
theorem yyj (x : Fnc) (hx : BndF x) (hll : ∀ y ∈ x.cd.getD [], lenO y.l < 2 ^ 62) : Wr 67 [fncV x] (fncPB x) := fun h o pre hr hlen => by
 obtain ⟨nm, q, s, cd, gd⟩ := x
 obtain ⟨hnm, hq, hs, hcd, hgd, hcl, hgl⟩ := hx
 unfold BN at hq hs
 simp only at hnm hq hs hcd hgd hcl hgl hll
 obtain ⟨q, rfl⟩ : ∃ n : Nat, q = n := ⟨q.toNat, by omega⟩
 obtain ⟨s, rfl⟩ : ∃ n : Nat, s = n := ⟨s.toNat, by omega⟩
 refine HasP.sharedE (E := envQ) (f := 67) (d := fn67) (R := fun w g => InRow g 5 1 w (bv (pre ++ fncPB ⟨nm, q, s, cd, gd⟩)) ∧ KeepB h g) rfl (jT rfl) ?_
 have hP : fncPB ⟨nm, q, s, cd, gd⟩ = txtB nm ++ (numB q ++ (numB s ++ (lstB insPB cd ++ lstB grdPB gd))) := by simp only [fncPB, natB_n]
 rw [hP] at hlen ⊢
 simp only [List.length_append] at hlen
 show yas (initT _ [o, .agg [.str nm, .int .i64 q, .int .i64 s, optL 8 insV cd, optL 4 grdV gd]]) _
 refine jK ?_
 refine ydu (ygc ⟨nm, q, s, cd, gd⟩) ?_
 refine jK ?_
 have hb0 : (push h (.cells 61 [.str nm, .int .i64 q, .int .i64 s, optL 8 insV cd, optL 4 grdV gd]))[h.length]? = some (.cells 61 [.str nm, .int .i64 q, .int .i64 s, optL 8 insV cd, optL 4 grdV gd]) := ydh _ _
 have k0 : KeepB h (push h (.cells 61 [.str nm, .int .i64 q, .int .i64 s, optL 8 insV cd, optL 4 grdV gd])) := KeepB.push _ _
 have r0 := hr.push (.cells 61 [.str nm, .int .i64 q, .int .i64 s, optL 8 insV cd, optL 4 grdV gd])
 generalize push h (.cells 61 [.str nm, .int .i64 q, .int .i64 s, optL 8 insV cd, optL 4 grdV gd]) = g0 at *
 refine yab (yae hb0 rfl) ?_
 refine jK ?_
 obtain ⟨w1, g1, c1, r1, kk1⟩ := ysj nm (by omega) _ _ _ r0 (by (try simp only [List.length_append]); omega)
 refine CallK.of c1 ?_
 have hb1 := kk1.2 _ _ _ hb0 (by decide)
 refine jK ?_
 refine yab (yae hb1 rfl) ?_
 refine jK ?_
 obtain ⟨w2, g2, c2, r2, kk2⟩ := ydl q (by omega) _ _ _ r1 (by (try simp only [List.length_append]); omega)
 refine CallK.of c2 ?_
 have hb2 := kk2.2 _ _ _ hb1 (by decide)
 refine jK ?_
 refine yab (yae hb2 rfl) ?_
 refine jK ?_
 obtain ⟨w3, g3, c3, r3, kk3⟩ := ydl s (by omega) _ _ _ r2 (by (try simp only [List.length_append]); omega)
 refine CallK.of c3 ?_
 have hb3 := kk3.2 _ _ _ hb2 (by decide)
 refine jK ?_
 refine yab (yae hb3 rfl) ?_
 refine jK ?_
 obtain ⟨w4, g4, c4, r4, kk4⟩ := yyc cd insPB (fun y hy => instr_wr y (hcd y hy) (hll y hy)) (by omega) _ _ _ r3 (by (try simp only [List.length_append]); omega)
 refine CallK.of c4 ?_
 have hb4 := kk4.2 _ _ _ hb3 (by decide)
 refine jK ?_
 refine yab (yae hb4 rfl) ?_
 refine jK ?_
 obtain ⟨w5, g5, c5, r5, kk5⟩ := yyf gd grdPB (fun y hy => guard_wr y (hgd y hy)) (by omega) _ _ _ r4 (by (try simp only [List.length_append]); omega)
 refine CallK.of c5 ?_
 refine jK ?_
 have r6 : InRow g5 5 1 w5 (bv (pre ++ (txtB nm ++ (numB q ++ (numB s ++ (lstB insPB cd ++ lstB grdPB gd)))))) := by simpa [List.append_assoc] using r5
 exact ⟨rfl, r6, k0.trans (kk1.trans (kk2.trans (kk3.trans (kk4.trans kk5))))⟩
end Go.Proofs.YtekmafoicobphaaGreatDoor
