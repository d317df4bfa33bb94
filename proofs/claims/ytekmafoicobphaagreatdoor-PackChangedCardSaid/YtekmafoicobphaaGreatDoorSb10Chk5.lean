/- Codes: the program's words: guards, arms, names. -/
import Derived.Test.YtekmafoicobphaaGreatDoorSb10Forms
set_option linter.unusedVariables false
set_option linter.unusedSimpArgs false
namespace Go.Proofs.YtekmafoicobphaaGreatDoor
open Go.Sb
set_option maxRecDepth 100000
theorem yel {E : Env} {md : Go.FuncId → Sb.Mode} {o : ROp} {os : List ROp} {s : List V} {h : Heap} {K : List V → Heap → Prop} {a0 a1 a2 a3 a4 a5 a6 a7 a8 a9 a10 a11 a12 a13 a14 a15 a16 a17 a18 a19 a20 a21 a22 a23 a24 a25 a26 a27 a28 a29 a30 a31 a32 a33 a34 a35 a36 a37 a38 a39 a40 a41 a42 a43 a44 : V} {t : Go.Tmp} {w b : Bool} (hn : yag E md os [a0, a1, a2, a3, a4, a5, a6, a7, a8, a9, a10, a11, a12, a13, a14, a15, a16, a17, a18, a19, a20, a21, a22, a23, a24, a25, a26, a27, a28, a29, a30, a31, a32, a33, a34, a35, a36, a37, a38, a39, a40, a41, a42, a43, a44] h K) (hg : o.gd = some (t, w) := by rfl) (hb : getT s t = .bool b := by rfl) (hw : b = !w := by rfl) (hs : putT s o.dst und = [a0, a1, a2, a3, a4, a5, a6, a7, a8, a9, a10, a11, a12, a13, a14, a15, a16, a17, a18, a19, a20, a21, a22, a23, a24, a25, a26, a27, a28, a29, a30, a31, a32, a33, a34, a35, a36, a37, a38, a39, a40, a41, a42, a43, a44] := by rfl) : yag E md (o :: os) s h K := yet hg hb hw hs hn
theorem ybu {E : Env} {md : Go.FuncId → Sb.Mode} {o : ROp} {os : List ROp} {s : List V} {h g : Heap} {v : V} {K : List V → Heap → Prop} {a0 a1 a2 a3 a4 a5 a6 a7 a8 a9 a10 a11 a12 a13 a14 a15 a16 a17 a18 a19 a20 a21 a22 a23 a24 a25 a26 a27 a28 a29 a30 a31 a32 a33 a34 a35 a36 a37 a38 a39 a40 a41 a42 a43 a44 : V} (hn : yag E md os [a0, a1, a2, a3, a4, a5, a6, a7, a8, a9, a10, a11, a12, a13, a14, a15, a16, a17, a18, a19, a20, a21, a22, a23, a24, a25, a26, a27, a28, a29, a30, a31, a32, a33, a34, a35, a36, a37, a38, a39, a40, a41, a42, a43, a44] g K) (hop : ∀ K : V → Heap → Prop, K v g → runOp E md o.op s h K := by exact fun _ => id) (hg : o.gd = none := by rfl) (hs : putT s o.dst v = [a0, a1, a2, a3, a4, a5, a6, a7, a8, a9, a10, a11, a12, a13, a14, a15, a16, a17, a18, a19, a20, a21, a22, a23, a24, a25, a26, a27, a28, a29, a30, a31, a32, a33, a34, a35, a36, a37, a38, a39, a40, a41, a42, a43, a44] := by rfl) : yag E md (o :: os) s h K := ybe hg hop hs hn
theorem ydj {E : Env} {md : Go.FuncId → Sb.Mode} {o : ROp} {os : List ROp} {s : List V} {h g : Heap} {v : V} {K : List V → Heap → Prop} {a0 a1 a2 a3 a4 a5 a6 a7 a8 a9 a10 a11 a12 a13 a14 a15 a16 a17 a18 a19 a20 a21 a22 a23 a24 a25 a26 a27 a28 a29 a30 a31 a32 a33 a34 a35 a36 a37 a38 a39 a40 a41 a42 a43 a44 : V} {t : Go.Tmp} {w : Bool} (hn : yag E md os [a0, a1, a2, a3, a4, a5, a6, a7, a8, a9, a10, a11, a12, a13, a14, a15, a16, a17, a18, a19, a20, a21, a22, a23, a24, a25, a26, a27, a28, a29, a30, a31, a32, a33, a34, a35, a36, a37, a38, a39, a40, a41, a42, a43, a44] g K) (hop : ∀ K : V → Heap → Prop, K v g → runOp E md o.op s h K := by exact fun _ => id) (hg : o.gd = some (t, w) := by rfl) (hb : getT s t = .bool w := by rfl) (hs : putT s o.dst v = [a0, a1, a2, a3, a4, a5, a6, a7, a8, a9, a10, a11, a12, a13, a14, a15, a16, a17, a18, a19, a20, a21, a22, a23, a24, a25, a26, a27, a28, a29, a30, a31, a32, a33, a34, a35, a36, a37, a38, a39, a40, a41, a42, a43, a44] := by rfl) : yag E md (o :: os) s h K := yes hg hb hop hs hn
def grB (f : Fnc) (g : Grd) : Bool := decide (0 ≤ g.f ∧ g.f ≤ IntKind.i64.wrap ((lenO f.cd : Int) - 1)) && decide (IntKind.i64.wrap (g.f + 1) ≤ g.t ∧ g.t ≤ (lenO f.cd : Int)) && decide (ybi f.s (lenO f.cd) g.p 3) && decide (ybi f.s (lenO f.cd) g.s 1) && decide (ybi f.s (lenO f.cd) (IntKind.i64.wrap (g.s + 1)) 1)
set_option maxHeartbeats 8000000 in
theorem yxk (h : Heap) (c : Cod) (f : Fnc) (g : Grd) (hS : 0 ≤ f.s ∧ f.s ≤ 200) (hl : lenO f.cd ≤ 4000) : Has envQ .own 97 [ckV c f, grdV g] h (.val (.bool (grB f g)) h) := by
 obtain ⟨gf, gt, gp, gs⟩ := g
 obtain ⟨b1, e1⟩ : ∃ w, decide (0 ≤ gf ∧ gf ≤ IntKind.i64.wrap ((lenO f.cd : Int) - 1)) = w := ⟨_, rfl⟩
 obtain ⟨b2, e2⟩ : ∃ w, decide (IntKind.i64.wrap (gf + 1) ≤ gt ∧ gt ≤ (lenO f.cd : Int)) = w := ⟨_, rfl⟩
 obtain ⟨b3, e3⟩ : ∃ w, decide (ybi f.s (lenO f.cd) gp 3) = w := ⟨_, rfl⟩
 obtain ⟨b4, e4⟩ : ∃ w, decide (ybi f.s (lenO f.cd) gs 1) = w := ⟨_, rfl⟩
 obtain ⟨b5, e5⟩ : ∃ w, decide (ybi f.s (lenO f.cd) (IntKind.i64.wrap (gs + 1)) 1) = w := ⟨_, rfl⟩
 have hA := fun g => ydd g gf 0 (IntKind.i64.wrap ((lenO f.cd : Int) - 1))
 have hB := fun g => ydd g gt (IntKind.i64.wrap (gf + 1)) (lenO f.cd)
 have hC := fun g => yev g c f gp 3 hS hl
 have hD := fun g => yev g c f gs 1 hS hl
 have hE := fun g => yev g c f (IntKind.i64.wrap (gs + 1)) 1 hS hl
 simp only [e1] at hA
 simp only [e2] at hB
 simp only [e3] at hC
 simp only [e4] at hD
 simp only [e5] at hE
 rw [show grB f ⟨gf, gt, gp, gs⟩ = (b1 && b2 && b3 && b4 && b5) from by unfold grB; simp only; rw [e1, e2, e3, e4, e5]]
 clear e1 e2 e3 e4 e5
 show Has envQ .own 97 [ckV c f, .agg [.int .i64 gf, .int .i64 gt, .int .i64 gp, .int .i64 gs]] h _
 suffices hz : ∃ v, Has envQ .own 97 [ckV c f, .agg [.int .i64 gf, .int .i64 gt, .int .i64 gp, .int .i64 gs]] h (.val v h) ∧ v = .bool (b1 && b2 && b3 && b4 && b5) by
  obtain ⟨v, h1, rfl⟩ := hz; exact h1
 refine HasP.ownE (a := [ckV c f, .agg [.int .i64 gf, .int .i64 gt, .int .i64 gp, .int .i64 gs]]) (d := fn97) (yaf (fz_ag (ydt _ _)) (yaf (fz_ag rfl) yan)) rfl rfl (jT rfl) ?_
 apply jA
 apply jB
 refine ydu (ydt _ _) ?_
 apply jA
 refine jR _ ?_
 iterate 5 (refine ybu ?_)
 refine ybu ?_ (fun K hK => ybh (E := envQ) (t := 58) (el := 68) (d := ty58) rfl rfl hK)
 refine ybu ?_
 cases b1
 ·refine ybu ?_ (fun K hK => CallK.of (hA _) hK)
  refine ybu ?_
  iterate 10 (refine yel ?_)
  iterate 2 (refine ybu ?_)
  iterate 4 (refine yel ?_)
  iterate 2 (refine ybu ?_)
  iterate 4 (refine yel ?_)
  iterate 2 (refine ybu ?_)
  iterate 5 (refine yel ?_)
  iterate 2 (refine ybu ?_)
  refine jV ?_
  exact ⟨rfl, _, rfl, jO _, rfl⟩
 ·refine ybu ?_ (fun K hK => CallK.of (hA _) hK)
  refine ybu ?_
  iterate 8 (refine ydj ?_)
  refine ydj ?_ (fun K hK => ybh (E := envQ) (t := 58) (el := 68) (d := ty58) rfl rfl hK)
  cases b2
  ·refine ydj ?_ (fun K hK => CallK.of (hB _) hK)
   iterate 2 (refine ybu ?_)
   iterate 4 (refine yel ?_)
   iterate 2 (refine ybu ?_)
   iterate 4 (refine yel ?_)
   iterate 2 (refine ybu ?_)
   iterate 5 (refine yel ?_)
   iterate 2 (refine ybu ?_)
   refine jV ?_
   exact ⟨rfl, _, rfl, jO _, rfl⟩
  ·refine ydj ?_ (fun K hK => CallK.of (hB _) hK)
   iterate 2 (refine ybu ?_)
   iterate 3 (refine ydj ?_)
   cases b3
   ·refine ydj ?_ (fun K hK => CallK.of (hC _) hK)
    iterate 2 (refine ybu ?_)
    iterate 4 (refine yel ?_)
    iterate 2 (refine ybu ?_)
    iterate 5 (refine yel ?_)
    iterate 2 (refine ybu ?_)
    refine jV ?_
    exact ⟨rfl, _, rfl, jO _, rfl⟩
   ·refine ydj ?_ (fun K hK => CallK.of (hC _) hK)
    iterate 2 (refine ybu ?_)
    iterate 3 (refine ydj ?_)
    cases b4
    ·refine ydj ?_ (fun K hK => CallK.of (hD _) hK)
     iterate 2 (refine ybu ?_)
     iterate 5 (refine yel ?_)
     iterate 2 (refine ybu ?_)
     refine jV ?_
     exact ⟨rfl, _, rfl, jO _, rfl⟩
    ·refine ydj ?_ (fun K hK => CallK.of (hD _) hK)
     iterate 2 (refine ybu ?_)
     iterate 4 (refine ydj ?_)
     cases b5
     ·refine ydj ?_ (fun K hK => CallK.of (hE _) hK)
      iterate 2 (refine ybu ?_)
      refine jV ?_
      exact ⟨rfl, _, rfl, jO _, rfl⟩
     ·refine ydj ?_ (fun K hK => CallK.of (hE _) hK)
      iterate 2 (refine ybu ?_)
      refine jV ?_
      exact ⟨rfl, _, rfl, jO _, rfl⟩
theorem fun1_has (h : Heap) (c : Cod) (f : Fnc) (g : Grd) (hS : 0 ≤ f.s ∧ f.s ≤ 200) (hl : lenO f.cd ≤ 4000) : Has envQ .own 96 [grdV g, .rop (ckC c f)] h (.val (.bool (!grB f g)) h) := by
 obtain ⟨gf, gt, gp, gs⟩ := g
 show Has envQ .own 96 [.agg [.int .i64 gf, .int .i64 gt, .int .i64 gp, .int .i64 gs], .rop (ckC c f)] h _
 suffices hz : ∃ v, Has envQ .own 96 [.agg [.int .i64 gf, .int .i64 gt, .int .i64 gp, .int .i64 gs], .rop (ckC c f)] h (.val v h) ∧ v = .bool (!grB f ⟨gf, gt, gp, gs⟩) by
  obtain ⟨v, h1, rfl⟩ := hz; exact h1
 refine HasP.ownE (a := [.agg [.int .i64 gf, .int .i64 gt, .int .i64 gp, .int .i64 gs], .rop (ckC c f)]) (d := fn96) (yaf (fz_ag rfl) (yaf rfl yan)) rfl rfl (jT rfl) ?_
 refine jK ?_
 refine CallK.of (yxk _ c f ⟨gf, gt, gp, gs⟩ hS hl) ?_
 refine jK ?_
 exact ⟨rfl, _, rfl, jO _, rfl⟩
def cgI (l : List Grd) (c : Cod) (f : Fnc) (k : Nat) (s : List V) (h : Heap) : Prop :=
 ∃ (i : Nat) (z : Int), (i + k = l.length ∧ z = i ∧ ∀ x ∈ l.take i, grB f x = true) ∧ s.length = 20 ∧ s.getD 0 und = und ∧ s.getD 1 und = .lst 4 (l.map grdV) ∧ s.getD 2 und = .fn (.func 96) [.rop (ckC c f)] ∧ s.getD 8 und = .int .i64 (l.map grdV).length ∧ s.getD 9 und = .int .i64 z
theorem cgI_lit {l : List Grd} {c : Cod} {f : Fnc} {k : Nat} {s : List V} {h : Heap} (hI : cgI l c f k s h) : ∃ (i : Nat) (z : Int) (x : Nat → V), (i + k = l.length ∧ z = i ∧ ∀ x ∈ l.take i, grB f x = true) ∧
  s = [und, .lst 4 (l.map grdV), .fn (.func 96) [.rop (ckC c f)], x 3, x 4, x 5, x 6, x 7, .int .i64 (l.map grdV).length, .int .i64 z, x 10, x 11, x 12, x 13, x 14, x 15, x 16, x 17, x 18, x 19] := by
 obtain ⟨i, z, hF, hl, e0, e1, e2, e8, e9⟩ := hI
 refine ⟨i, z, fun n => s.getD n und, hF, (ybd hl).trans ?_⟩
 simp only [List.range, List.range.loop, List.map_cons, List.map_nil]
 rw [e0, e1, e2, e8, e9]
set_option maxHeartbeats 2000000 in
theorem cgIx_has (h : Heap) (c : Cod) (f : Fnc) (l : List Grd) (hS : 0 ≤ f.s ∧ f.s ≤ 200) (hl : lenO f.cd ≤ 4000) (hll : l.length ≤ 2 ^ 50) : ∃ r : Int, Has envQ .own 122 [.lst 4 (l.map grdV), .fn (.func 96) [.rop (ckC c f)]] h (.val (.int .i64 r) h) ∧ (0 ≤ r ↔ ¬ ∀ x ∈ l, grB f x = true) := by
 suffices hx : ∃ v, Has envQ .own 122 [.lst 4 (l.map grdV), .fn (.func 96) [.rop (ckC c f)]] h (.val v h) ∧ ∃ r : Int, v = .int .i64 r ∧ (0 ≤ r ↔ ¬ ∀ x ∈ l, grB f x = true) by
  obtain ⟨v, h1, r, rfl, h2⟩ := hx; exact ⟨r, h1, h2⟩
 refine HasP.ownE (a := [.lst 4 (l.map grdV), .fn (.func 96) [.rop (ckC c f)]]) (d := fn122) (yaf rfl (yaf (ydv (yaf rfl yan)) yan)) rfl rfl (jT rfl) ?_
 have hlm : ((l.map grdV).length : Int) = (l.length : Int) := by simp
 refine jV ?_
 refine RunP.loop (cgI l c f) ?_ l.length ⟨0, _, ⟨by omega, rfl, by simp⟩, rfl, rfl, rfl, rfl, rfl, rfl⟩
 intro k st g hI
 obtain ⟨i, z, x, ⟨hik, hz, hall⟩, rfl⟩ := cgI_lit hI
 clear hI
 subst hz
 refine jV ?_
 refine jI (fun hlt => ?_) (fun hge => ?_)
 ·have hi : i < l.length := by omega
  obtain ⟨n, hn⟩ : ∃ n, l[i]? = some n := ⟨_, List.getElem?_eq_getElem hi⟩
  refine jV ?_
  refine jI (by omega) (jI rfl (Exists.intro (grdV n) (jI (by rw [List.getElem?_map]; simp [hn]) ?_)))
  have hq := fun1_has g c f n hS hl
  cases hf : (fun x => grB f x) n
  ·simp only at hf
   rw [hf] at hq
   refine CallK.of hq ?_
   refine jV ?_
   exact ⟨rfl, _, rfl, jO _, _, rfl, ⟨fun _ q => (by have := q n (List.mem_of_getElem? hn); rw [hf] at this; cases this), fun _ => by omega⟩⟩
  ·simp only at hf
   rw [hf] at hq
   refine CallK.of hq ?_
   refine jV ?_
   exact ⟨k - 1, by omega, i + 1, _, ⟨by omega, wrap1 (by omega), by
    intro m hm
    rw [List.take_add_one, hn] at hm
    rcases List.mem_append.1 hm with q | q
    ·exact hall m q
    ·simp at q; subst q; exact hf⟩, rfl, rfl, rfl, rfl, rfl, rfl⟩
 ·have hi : i = l.length := by omega
  rw [hi, List.take_length] at hall
  refine jV ?_
  exact ⟨rfl, _, rfl, jO _, _, rfl, ⟨fun q => absurd q (by decide), fun q => absurd hall q⟩⟩
theorem cgCf_has (h : Heap) (c : Cod) (f : Fnc) (l : Option (List Grd)) (hS : 0 ≤ f.s ∧ f.s ≤ 200) (hl : lenO f.cd ≤ 4000) (hll : lenO l ≤ 2 ^ 50) : Has envQ .own 95 [optL 4 grdV l, .fn (.func 96) [.rop (ckC c f)]] h (.val (.bool (!(l.getD []).all (fun x => grB f x))) h) := by
 suffices hx : ∃ v, Has envQ .own 95 [optL 4 grdV l, .fn (.func 96) [.rop (ckC c f)]] h (.val v h) ∧ v = .bool (!(l.getD []).all (fun x => grB f x)) by
  obtain ⟨v, h1, rfl⟩ := hx; exact h1
 refine HasP.ownE (a := [optL 4 grdV l, .fn (.func 96) [.rop (ckC c f)]]) (d := fn95) (yaf (fz_lf (yck _ _ _)) (yaf (ydv (yaf rfl yan)) yan)) rfl rfl (jT rfl) ?_
 cases l with
 | none =>
  have hn : Has envQ .own 122 [.nils, .fn (.func 96) [.rop (ckC c f)]] [] (.val (.int .i64 (-1)) []) := by
   refine HasP.own (a := [.nils, .fn (.func 96) [.rop (ckC c f)]]) (d := fn122) (yaf rfl (yaf (ydv (yaf rfl yan)) yan)) rfl rfl (jT rfl) ?_
   refine jV ?_
   refine RunP.loop (fun _ s h => ∃ x : Nat → V, h = [] ∧ s = [und, .nils, .fn (.func 96) [.rop (ckC c f)], x 3, x 4, .int .i64 0, x 6, .nils, .int .i64 0, .int .i64 0, x 10, x 11, x 12, x 13, x 14, x 15, x 16, x 17, x 18, x 19]) ?_ 0 ⟨fun n => und, rfl, rfl⟩
   rintro k st g ⟨x, rfl, rfl⟩
   refine jV ?_
   refine jI (fun q => absurd q (by decide)) (fun _ => ?_)
   refine jV ?_
   exact ⟨rfl, rfl, jO _⟩
  refine jV ?_
  refine CallK.of hn ?_
  refine jI (fun q => absurd q (by decide)) (fun _ => ?_)
  refine jV ?_
  exact ⟨rfl, _, rfl, jO _, rfl⟩
 | some l =>
  obtain ⟨r, hr, hiff⟩ := cgIx_has [] c f l hS hl hll
  refine jV ?_
  refine CallK.of hr ?_
  refine jI (fun q => ?_) (fun q => ?_)
  ·repeat first|apply jZ|apply jA|apply jB|apply jH
   refine ⟨rfl, _, rfl, jO _, ?_⟩
   have : (l.all (fun x => grB f x)) = false := by
    rw [Bool.eq_false_iff]; intro w; exact hiff.1 q (List.all_eq_true.1 w)
   show V.bool true = .bool (!l.all _)
   rw [this]; rfl
  ·repeat first|apply jZ|apply jA|apply jB|apply jH
   refine ⟨rfl, _, rfl, jO _, ?_⟩
   have : (l.all (fun x => grB f x)) = true := by
    rw [List.all_eq_true]; exact Classical.byContradiction fun w => absurd (hiff.2 w) (by omega)
   show V.bool false = .bool (!l.all _)
   rw [this]; rfl
theorem chk1_has (h : Heap) (f g : Fnc) : Has envQ .own 64 [fncV g, .rop f.cells] h (.val (.bool (!(!decide (g.nm = f.nm)))) h) := by
 obtain ⟨nm, p, s, cd, gd⟩ := f
 obtain ⟨nm2, p2, s2, cd2, gd2⟩ := g
 suffices hz : ∃ v, Has envQ .own 64 [.agg [.str nm2, .int .i64 p2, .int .i64 s2, optL 8 insV cd2, optL 4 grdV gd2], .rop [.str nm, .int .i64 p, .int .i64 s, optL 8 insV cd, optL 4 grdV gd]] h (.val v h) ∧ v = .bool (!(!decide (nm2 = nm))) by
  obtain ⟨v, h1, rfl⟩ := hz; exact h1
 refine HasP.ownE (a := [.agg [.str nm2, .int .i64 p2, .int .i64 s2, optL 8 insV cd2, optL 4 grdV gd2], .rop [.str nm, .int .i64 p, .int .i64 s, optL 8 insV cd, optL 4 grdV gd]]) (d := fn64) (yaf (fz_ag (ygc ⟨nm2, p2, s2, cd2, gd2⟩)) (yaf rfl yan)) rfl rfl (jT rfl) ?_
 apply jA
 apply jB
 refine ydu (ygc ⟨nm2, p2, s2, cd2, gd2⟩) ?_
 refine jK ?_
 refine jI (fun q => ?_) (fun q => ?_)
 ·repeat first|apply jZ|apply jA|apply jB|apply jH
  exact ⟨rfl, _, rfl, jO _, by rw [decide_eq_true q]; rfl⟩
 ·repeat first|apply jZ|apply jA|apply jB|apply jH
  exact ⟨rfl, _, rfl, jO _, by rw [decide_eq_false q]; rfl⟩
def cnI (l : List Fnc) (f : Fnc) (k : Nat) (s : List V) (h : Heap) : Prop :=
 ∃ (i : Nat) (z : Int), (i + k = l.length ∧ z = i ∧ ∀ x ∈ l.take i, (!decide (x.nm = f.nm)) = true) ∧ s.length = 20 ∧ s.getD 0 und = und ∧ s.getD 1 und = .lst 5 (l.map fncV) ∧ s.getD 2 und = .fn (.func 64) [.rop f.cells] ∧ s.getD 8 und = .int .i64 (l.map fncV).length ∧ s.getD 9 und = .int .i64 z
theorem cnI_lit {l : List Fnc} {f : Fnc} {k : Nat} {s : List V} {h : Heap} (hI : cnI l f k s h) : ∃ (i : Nat) (z : Int) (x : Nat → V), (i + k = l.length ∧ z = i ∧ ∀ x ∈ l.take i, (!decide (x.nm = f.nm)) = true) ∧
  s = [und, .lst 5 (l.map fncV), .fn (.func 64) [.rop f.cells], x 3, x 4, x 5, x 6, x 7, .int .i64 (l.map fncV).length, .int .i64 z, x 10, x 11, x 12, x 13, x 14, x 15, x 16, x 17, x 18, x 19] := by
 obtain ⟨i, z, hF, hl, e0, e1, e2, e8, e9⟩ := hI
 refine ⟨i, z, fun n => s.getD n und, hF, (ybd hl).trans ?_⟩
 simp only [List.range, List.range.loop, List.map_cons, List.map_nil]
 rw [e0, e1, e2, e8, e9]
set_option maxHeartbeats 2000000 in
theorem cnIx_has (h : Heap) (f : Fnc) (l : List Fnc)  (hll : l.length ≤ 2 ^ 50) : ∃ r : Int, Has envQ .own 90 [.lst 5 (l.map fncV), .fn (.func 64) [.rop f.cells]] h (.val (.int .i64 r) h) ∧ (0 ≤ r ↔ ¬ ∀ x ∈ l, (!decide (x.nm = f.nm)) = true) := by
 suffices hx : ∃ v, Has envQ .own 90 [.lst 5 (l.map fncV), .fn (.func 64) [.rop f.cells]] h (.val v h) ∧ ∃ r : Int, v = .int .i64 r ∧ (0 ≤ r ↔ ¬ ∀ x ∈ l, (!decide (x.nm = f.nm)) = true) by
  obtain ⟨v, h1, r, rfl, h2⟩ := hx; exact ⟨r, h1, h2⟩
 refine HasP.ownE (a := [.lst 5 (l.map fncV), .fn (.func 64) [.rop f.cells]]) (d := fn90) (yaf rfl (yaf (ydv (yaf rfl yan)) yan)) rfl rfl (jT rfl) ?_
 have hlm : ((l.map fncV).length : Int) = (l.length : Int) := by simp
 refine jV ?_
 refine RunP.loop (cnI l f) ?_ l.length ⟨0, _, ⟨by omega, rfl, by simp⟩, rfl, rfl, rfl, rfl, rfl, rfl⟩
 intro k st g hI
 obtain ⟨i, z, x, ⟨hik, hz, hall⟩, rfl⟩ := cnI_lit hI
 clear hI
 subst hz
 refine jV ?_
 refine jI (fun hlt => ?_) (fun hge => ?_)
 ·have hi : i < l.length := by omega
  obtain ⟨n, hn⟩ : ∃ n, l[i]? = some n := ⟨_, List.getElem?_eq_getElem hi⟩
  refine jV ?_
  refine jI (by omega) (jI rfl (Exists.intro (fncV n) (jI (by rw [List.getElem?_map]; simp [hn]) ?_)))
  have hq := chk1_has g f n
  cases hf : (fun x => (!decide (x.nm = f.nm))) n
  ·simp only at hf
   rw [hf] at hq
   refine CallK.of hq ?_
   refine jV ?_
   exact ⟨rfl, _, rfl, jO _, _, rfl, ⟨fun _ q => (by have := q n (List.mem_of_getElem? hn); rw [hf] at this; cases this), fun _ => by omega⟩⟩
  ·simp only at hf
   rw [hf] at hq
   refine CallK.of hq ?_
   refine jV ?_
   exact ⟨k - 1, by omega, i + 1, _, ⟨by omega, wrap1 (by omega), by
    intro m hm
    rw [List.take_add_one, hn] at hm
    rcases List.mem_append.1 hm with q | q
    ·exact hall m q
    ·simp at q; subst q; exact hf⟩, rfl, rfl, rfl, rfl, rfl, rfl⟩
 ·have hi : i = l.length := by omega
  rw [hi, List.take_length] at hall
  refine jV ?_
  exact ⟨rfl, _, rfl, jO _, _, rfl, ⟨fun q => absurd q (by decide), fun q => absurd hall q⟩⟩
theorem cnCf_has (h : Heap) (f : Fnc) (l : Option (List Fnc))  (hll : lenO l ≤ 2 ^ 50) : Has envQ .own 63 [optL 5 fncV l, .fn (.func 64) [.rop f.cells]] h (.val (.bool (!(l.getD []).all (fun x => (!decide (x.nm = f.nm))))) h) := by
 suffices hx : ∃ v, Has envQ .own 63 [optL 5 fncV l, .fn (.func 64) [.rop f.cells]] h (.val v h) ∧ v = .bool (!(l.getD []).all (fun x => (!decide (x.nm = f.nm)))) by
  obtain ⟨v, h1, rfl⟩ := hx; exact h1
 refine HasP.ownE (a := [optL 5 fncV l, .fn (.func 64) [.rop f.cells]]) (d := fn63) (yaf (fz_lf (yck _ _ _)) (yaf (ydv (yaf rfl yan)) yan)) rfl rfl (jT rfl) ?_
 cases l with
 | none =>
  have hn : Has envQ .own 90 [.nils, .fn (.func 64) [.rop f.cells]] [] (.val (.int .i64 (-1)) []) := by
   refine HasP.own (a := [.nils, .fn (.func 64) [.rop f.cells]]) (d := fn90) (yaf rfl (yaf (ydv (yaf rfl yan)) yan)) rfl rfl (jT rfl) ?_
   refine jV ?_
   refine RunP.loop (fun _ s h => ∃ x : Nat → V, h = [] ∧ s = [und, .nils, .fn (.func 64) [.rop f.cells], x 3, x 4, .int .i64 0, x 6, .nils, .int .i64 0, .int .i64 0, x 10, x 11, x 12, x 13, x 14, x 15, x 16, x 17, x 18, x 19]) ?_ 0 ⟨fun n => und, rfl, rfl⟩
   rintro k st g ⟨x, rfl, rfl⟩
   refine jV ?_
   refine jI (fun q => absurd q (by decide)) (fun _ => ?_)
   refine jV ?_
   exact ⟨rfl, rfl, jO _⟩
  refine jV ?_
  refine CallK.of hn ?_
  refine jI (fun q => absurd q (by decide)) (fun _ => ?_)
  refine jV ?_
  exact ⟨rfl, _, rfl, jO _, rfl⟩
 | some l =>
  obtain ⟨r, hr, hiff⟩ := cnIx_has [] f l  hll
  refine jV ?_
  refine CallK.of hr ?_
  refine jI (fun q => ?_) (fun q => ?_)
  ·repeat first|apply jZ|apply jA|apply jB|apply jH
   refine ⟨rfl, _, rfl, jO _, ?_⟩
   have : (l.all (fun x => (!decide (x.nm = f.nm)))) = false := by
    rw [Bool.eq_false_iff]; intro w; exact hiff.1 q (List.all_eq_true.1 w)
   show V.bool true = .bool (!l.all _)
   rw [this]; rfl
  ·repeat first|apply jZ|apply jA|apply jB|apply jH
   refine ⟨rfl, _, rfl, jO _, ?_⟩
   have : (l.all (fun x => (!decide (x.nm = f.nm)))) = true := by
    rw [List.all_eq_true]; exact Classical.byContradiction fun w => absurd (hiff.2 w) (by omega)
   show V.bool false = .bool (!l.all _)
   rw [this]; rfl
def armsN (L : List Ins) : Nat → Nat
 | 0 => 0
 | n + 1 => match L[n]? with
  | some x => if x.op = 11 then armsN L n + 1 else 0
  | none => 0
theorem yrt (L : List Ins) : ∀ n, armsN L n ≤ n
 | 0 => Nat.le_refl _
 | n + 1 => by
  have := yrt L n
  rw [armsN]
  split
  ·split <;> omega
  ·omega
def arI (L : List Ins) (at0 : Nat) (k : Nat) (s : List V) (h : Heap) : Prop :=
 ∃ (z : Int), (z = k ∧ k ≤ at0 ∧ armsN L at0 = (at0 - k) + armsN L k) ∧ s.length = 25 ∧ s.getD 0 und = und ∧ s.getD 1 und = .lst 8 (L.map insV) ∧ s.getD 2 und = .int .i64 at0 ∧ s.getD 5 und = .nils ∧ s.getD 6 und = .int .i64 z
theorem arI_lit {L : List Ins} {at0 : Nat} {k : Nat} {s : List V} {h : Heap} (hI : arI L at0 k s h) : ∃ (z : Int) (x : Nat → V), (z = k ∧ k ≤ at0 ∧ armsN L at0 = (at0 - k) + armsN L k) ∧
  s = [und, .lst 8 (L.map insV), .int .i64 at0, x 3, x 4, .nils, .int .i64 z, x 7, x 8, x 9, x 10, x 11, x 12, x 13, x 14, x 15, x 16, x 17, x 18, x 19, x 20, x 21, x 22, x 23, x 24] := by
 obtain ⟨z, hF, hl, e0, e1, e2, e5, e6⟩ := hI
 refine ⟨z, fun n => s.getD n und, hF, (ybd hl).trans ?_⟩
 simp only [List.range, List.range.loop, List.map_cons, List.map_nil]
 rw [e0, e1, e2, e5, e6]
set_option maxHeartbeats 2000000 in
theorem arms_has (h : Heap) (L : List Ins) (at0 : Nat) (hat : at0 ≤ L.length) (hL : L.length ≤ 4000) : Has envQ .own 93 [.lst 8 (L.map insV), .int .i64 at0] h (.val (.lst 8 (((L.map insV).take at0).drop (at0 - armsN L at0))) h) := by
 suffices hz : ∃ v, Has envQ .own 93 [.lst 8 (L.map insV), .int .i64 at0] h (.val v h) ∧ v = .lst 8 (((L.map insV).take at0).drop (at0 - armsN L at0)) by
  obtain ⟨v, h1, rfl⟩ := hz; exact h1
 refine HasP.ownE (a := [.lst 8 (L.map insV), .int .i64 at0]) (d := fn93) rfl rfl rfl (jT rfl) ?_
 refine jV ?_
 refine RunP.loop (arI L at0) ?_ at0 ⟨_, ⟨rfl, Nat.le_refl _, by omega⟩, rfl, rfl, rfl, rfl, rfl, rfl⟩
 intro k st g hI
 obtain ⟨z, x, ⟨hz, hk, ha⟩, rfl⟩ := arI_lit hI
 clear hI
 subst hz
 cases k with
 | zero =>
  refine jV ?_
  refine jI (fun q => absurd q (by decide)) (fun _ => ?_)
  refine jV ?_
  refine jI (by omega) (jI (by omega) (jI rfl (jI ⟨Nat.zero_le _, by rw [List.length_map]; omega⟩ ?_)))
  refine jV ?_
  have e : at0 - armsN L at0 = 0 := by rw [ha]; simp [armsN]
  exact ⟨rfl, _, rfl, rfl, by rw [e]; rfl⟩
 | succ k =>
  obtain ⟨x0, hx0⟩ : ∃ x, L[k]? = some x := ⟨_, List.getElem?_eq_getElem (by omega)⟩
  obtain ⟨op, a, b, cc, kd, n, tx, l⟩ := x0
  have ew : IntKind.i64.wrap (((k + 1 : Nat) : Int) - 1) = (k : Int) := by rw [wrapS (by omega) (by omega)]; omega
  refine jV ?_
  refine jY (fun _ => ?_) (by omega)
  refine jI (by rw [ew]; omega) (jI rfl (Exists.intro (.agg (iC op a b cc kd n tx l)) (jI (by rw [ew, List.getElem?_map]; simp [hx0]; rfl) ?_)))
  by_cases h11 : op = 11
  ·refine jI (fun _ => ?_) (fun w => absurd h11 w)
   refine jV ?_
   exact ⟨k, by omega, _, ⟨ew, by omega, by rw [ha, armsN, hx0]; simp only; rw [if_pos h11]; omega⟩, rfl, rfl, rfl, rfl, rfl, rfl⟩
  ·refine jI (fun w => absurd w h11) (fun _ => ?_)
   refine jV ?_
   have e0 : armsN L (k + 1) = 0 := by rw [armsN, hx0]; simp only; rw [if_neg h11]
   have e : at0 - armsN L at0 = k + 1 := by rw [ha, e0]; omega
   refine jI (by omega) (jI (by omega) (jI rfl (jI ⟨by omega, by rw [List.length_map]; omega⟩ ?_)))
   refine jV ?_
   exact ⟨rfl, _, rfl, rfl, by rw [e]; rfl⟩
end Go.Proofs.YtekmafoicobphaaGreatDoor
