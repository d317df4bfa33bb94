/- Seat 13: the reader of a function, and of a list of functions. -/
import Derived.Test.YtekmafoicobphaaGreatDoorSb13RdM
set_option linter.unusedVariables false
set_option linter.unusedSimpArgs false
namespace Go.Proofs.YtekmafoicobphaaGreatDoor
open Go.Sb
set_option maxRecDepth 100000
def fncM (g : Heap) (n : Nat) (v : V) (x : Fnc) : Prop := ∃ w1 l1 es1 w2 l2 es2, v = .agg [.str x.nm, .int .i64 x.p, .int .i64 x.s, w1, w2] ∧ (x.cd = optOf l1 ∧ InRowB g 68 8 n w1 es1 ∧ El (insM g n) es1 l1) ∧ x.gd = optOf l2 ∧ InRowB g 70 4 n w2 es2 ∧ El (grdM g n) es2 l2
theorem insM.keepT {T : TypeId} {g g' : Heap} {n : Nat} {v : V} {x : Ins} (h : insM g n v x) (hk : KeepT T g g') (hT : 3 ≠ T) : insM g' n v x := by
 obtain ⟨w, l, h1, h2, hr⟩ := h
 exact ⟨w, l, h1, h2, hr.keepT hk hT⟩
theorem fnc_val : ValOK 5 61 fncM := ⟨fun ⟨w1, l1, es1, w2, l2, es2, h, ⟨_, h1, _⟩, _, h2, _⟩ => ⟨_, h, rfl, by simp only [List.all_cons, List.all_nil, h1.one.2, h2.one.2, Bool.and_true]; rfl⟩,
 fun ⟨w1, l1, es1, w2, l2, es2, h, ⟨a1, a2, a3⟩, b1, b2, b3⟩ hk hm hb => ⟨w1, l1, es1, w2, l2, es2, h, ⟨a1, a2.keep hk hm (ygh hb (by decide)), a3.imp fun v x hv => ins_val.keep hv hk hm hb⟩, b1, b2.keep hk hm (ygh hb (by decide)), b3⟩,
 fun ⟨w1, l1, es1, w2, l2, es2, h, ⟨a1, a2, a3⟩, b1, b2, b3⟩ hk => ⟨w1, l1, es1, w2, l2, es2, h, ⟨a1, a2.keepT hk (by decide), a3.imp fun v x hv => insM.keepT hv hk (by decide)⟩, b1, b2.keepT hk (by decide), b3⟩,
 fun ⟨w1, l1, es1, w2, l2, es2, h, ⟨a1, a2, a3⟩, b1, b2, b3⟩ hm => ⟨w1, l1, es1, w2, l2, es2, h, ⟨a1, a2.mono hm, a3.imp fun v x hv => ins_val.mono hv hm⟩, b1, b2.mono hm, b3⟩⟩
set_option maxHeartbeats 8000000 in
theorem fncM_ok : RdOK 54 pFnc fncM := fun h b u j hb hj hs => by
 have hblt := (List.getElem?_eq_some_iff.1 hb).1
 have hno : ∀ g, pFnc u j = none → KeepN h.length b h g → rdK h b u (pFnc u j) fncM (.pan yby g) := fun g hp hk => by
  unfold rdK
  rw [hp]
  exact ⟨g, rfl, hk⟩
 have hval : ∀ g v q, pFnc u j = some q → fncM g h.length v q.1 → KeepN h.length b h g → g[b]? = some (rdr u (q.2 : Nat)) → rdK h b u (pFnc u j) fncM (.val v g) := fun g v q hp hv hk hb => by
  unfold rdK
  rw [hp]
  exact ⟨v, g, rfl, hv, hk, hb⟩
 refine HasP.sharedX (d := fn54) rfl (jT rfl) ?_
 generalize rdK h b u (pFnc u j) fncM = PR at hval hno ⊢
 have e1 : ∀ (h : Heap) (x : Blk), (Sb.push h x).length = h.length + 1 := fun h x => by simp [Sb.push]
 apply jA
 apply jB
 apply jA
 obtain ⟨r1, hr1, hR1⟩ := txt_ok (Sb.push h (.cells 61 [.str [], .int .i64 0, .int .i64 0, .nils, .nils])) b u j (yam hb) hj hs
 unfold rdK at hR1
 rw [e1] at hR1
 cases hnm : pTxt u j with
 | none =>
  rw [hnm] at hR1
  obtain ⟨g1, rfl, hk1⟩ := hR1
  refine RunP.regionP 1 (CallP.of hr1 ?_)
  exact ⟨rfl, hno _ (by unfold pFnc; rw [hnm]; rfl) (KeepN.trans ⟨by rw [e1]; omega, fun i k _ _ hk => yam hk⟩ (hk1.mono (by omega)))⟩
 | some nm =>
 rw [hnm] at hR1
 obtain ⟨v1, g0, rfl, rfl, hk0, hb0⟩ := hR1
 have hj0 := (ykq u [] j nm hj hnm).2.2
 have ha0 : g0[h.length]? = some (.cells 61 [.str [], .int .i64 0, .int .i64 0, .nils, .nils]) := hk0.2 _ _ (by omega) (by omega) (ydh h _)
 have hlt0 : h.length < g0.length := (List.getElem?_eq_some_iff.1 ha0).1
 have hK0 : KeepN h.length b h g0 := KeepN.trans ⟨by rw [e1]; omega, fun i k _ _ hk => yam hk⟩ (hk0.mono (by omega))
 apply jB
 refine CallK.of hr1 ?_
 refine yab (ycw (E := envQ) (t := 61) (n := 5) (v := .agg [.str nm.1, .int .i64 0, .int .i64 0, .nils, .nils]) rfl rfl rfl rfl rfl) ?_
 apply jA
 obtain ⟨c, hcc⟩ : ∃ c, c = g0.length := ⟨_, rfl⟩
 have hlc : h.length < c := by omega
 have hcn : c ≠ b := by omega
 obtain ⟨G0, hG0⟩ : ∃ G0, Sb.push g0 (.cells 61 (V.agg [.str nm.1, .int .i64 0, .int .i64 0, .nils, .nils]).cells) = G0 := ⟨_, rfl⟩
 rw [hG0]
 have hc0 : G0[c]? = some (.cells 61 [.str nm.1, .int .i64 0, .int .i64 0, .nils, .nils]) := by rw [← hG0]; exact ykv hcc
 have hb0' : G0[b]? = some (rdr u (nm.2 : Nat)) := by rw [← hG0]; exact yam hb0
 have ha0' : G0[h.length]? = some (.cells 61 [.str [], .int .i64 0, .int .i64 0, .nils, .nils]) := by rw [← hG0]; exact yam ha0
 have hkp0 : KeepN h.length b h G0 := by rw [← hG0]; exact hK0.trans ⟨by rw [e1]; omega, fun i k _ _ hk => yam hk⟩
 have hcl0 := (List.getElem?_eq_some_iff.1 hc0).1
 rw [← hcc]
 -- np
 obtain ⟨r1, hr1, hR1⟩ := num_ok G0 b u nm.2 hb0' hj0 hs
 unfold rdK at hR1
 cases hnp : pNat u nm.2 with
 | none =>
  rw [hnp] at hR1
  obtain ⟨ge, rfl, hke⟩ := hR1
  refine RunP.regionP 1 (CallP.of hr1 ?_)
  exact ⟨rfl, hno _ (by unfold pFnc; rw [hnm]; simp only [Option.bind_some]; rw [hnp]; rfl) (hkp0.trans (hke.mono hkp0.1))⟩
 | some np =>
 rw [hnp] at hR1
 obtain ⟨v1, g1, rfl, rfl, hk1, hb1⟩ := hR1
 have hj1' := (ycx u [] nm.2 np hj0 hnp).2.2
 have hlen1 := hk1.1
 have hc1 := hk1.2 _ _ hcl0 hcn hc0
 have ha1 := hk1.2 _ _ (by omega) (by omega) ha0'
 have hkp1 := (hkp0.trans (hk1.mono hkp0.1)).trans (KeepN.setN (b := b) g1 (.cells 61 [.str nm.1, .int .i64 np.1, .int .i64 0, .nils, .nils]) (Nat.le_of_lt hlc))
 have hcl1 : c < (g1.set c (.cells 61 [.str nm.1, .int .i64 np.1, .int .i64 0, .nils, .nils])).length := by simp; omega
 apply jB
 refine CallK.of hr1 ?_
 refine yab (ybw (E := envQ) (t := 3) (n := 5) hc1 rfl rfl rfl rfl (by decide)) ?_
 have hbs1 : (g1.set c (.cells 61 [.str nm.1, .int .i64 np.1, .int .i64 0, .nils, .nils]))[b]? = _ := (yau (Ne.symm hcn)).trans hb1
 have has1 : (g1.set c (.cells 61 [.str nm.1, .int .i64 np.1, .int .i64 0, .nils, .nils]))[h.length]? = _ := (yau (by omega)).trans ha1
 have hcs1 : (g1.set c (.cells 61 [.str nm.1, .int .i64 np.1, .int .i64 0, .nils, .nils]))[c]? = _ := ybs hc1
 apply jA
 -- ns
 obtain ⟨r2, hr2, hR2⟩ := num_ok (g1.set c (.cells 61 [.str nm.1, .int .i64 np.1, .int .i64 0, .nils, .nils])) b u np.2 hbs1 hj1' hs
 unfold rdK at hR2
 cases hns : pNat u np.2 with
 | none =>
  rw [hns] at hR2
  obtain ⟨ge, rfl, hke⟩ := hR2
  refine RunP.regionP 1 (CallP.of hr2 ?_)
  exact ⟨rfl, hno _ (by unfold pFnc; rw [hnm]; simp only [Option.bind_some]; rw [hnp]; simp only [Option.bind_some]; rw [hns]; rfl) (hkp1.trans (hke.mono hkp1.1))⟩
 | some ns =>
 rw [hns] at hR2
 obtain ⟨v2, g2, rfl, rfl, hk2, hb2⟩ := hR2
 have hj2' := (ycx u [] np.2 ns hj1' hns).2.2
 have hlen2 := hk2.1
 have hc2 := hk2.2 _ _ hcl1 hcn hcs1
 have ha2 := hk2.2 _ _ (by omega) (by omega) has1
 have hkp2 := (hkp1.trans (hk2.mono hkp1.1)).trans (KeepN.setN (b := b) g2 (.cells 61 [.str nm.1, .int .i64 np.1, .int .i64 ns.1, .nils, .nils]) (Nat.le_of_lt hlc))
 have hcl2 : c < (g2.set c (.cells 61 [.str nm.1, .int .i64 np.1, .int .i64 ns.1, .nils, .nils])).length := by simp; omega
 apply jB
 refine CallK.of hr2 ?_
 refine yab (ybw (E := envQ) (t := 3) (n := 5) hc2 rfl rfl rfl rfl (by decide)) ?_
 have hbs2 : (g2.set c (.cells 61 [.str nm.1, .int .i64 np.1, .int .i64 ns.1, .nils, .nils]))[b]? = _ := (yau (Ne.symm hcn)).trans hb2
 have has2 : (g2.set c (.cells 61 [.str nm.1, .int .i64 np.1, .int .i64 ns.1, .nils, .nils]))[h.length]? = _ := (yau (by omega)).trans ha2
 have hcs2 : (g2.set c (.cells 61 [.str nm.1, .int .i64 np.1, .int .i64 ns.1, .nils, .nils]))[c]? = _ := ybs hc2
 apply jA
 -- cd
 obtain ⟨r3, hr3, hR3⟩ := yxr hbs2 hj2' hs
 unfold rlM at hR3
 cases hcd : pLst (pIns u) u ns.2 with
 | none =>
  rw [hcd] at hR3
  obtain ⟨ge, rfl, hke⟩ := hR3
  refine RunP.regionP 3 (CallP.of hr3 ?_)
  exact ⟨rfl, hno _ (by unfold pFnc; rw [hnm]; simp only [Option.bind_some]; rw [hnp]; simp only [Option.bind_some]; rw [hns]; simp only [Option.bind_some]; rw [hcd]; rfl) (hkp2.trans (hke.mono hkp2.1))⟩
 | some cd =>
 rw [hcd] at hR3
 obtain ⟨v3, g3, l3, es3, rfl, hl3, hrow3, hel3, hk3, hb3⟩ := hR3
 have hj3' := (yhb ynm u [] ns.2 cd hj2' hcd).2.2
 have hlen3 := hk3.1
 have hc3 := hk3.2 _ _ hcl2 hcn hcs2
 have ha3 := hk3.2 _ _ (by omega) (by omega) has2
 have hkp3 := (hkp2.trans (hk3.mono hkp2.1)).trans (KeepN.setN (b := b) g3 (.cells 61 [.str nm.1, .int .i64 np.1, .int .i64 ns.1, v3, .nils]) (Nat.le_of_lt hlc))
 have hcl3 : c < (g3.set c (.cells 61 [.str nm.1, .int .i64 np.1, .int .i64 ns.1, v3, .nils])).length := by simp; omega
 obtain ⟨hv3, hvc3⟩ := hrow3.one
 apply jB
 refine CallK.of hr3 ?_
 refine yab (ybw (E := envQ) (t := 58) (n := 5) (v := v3) hc3 rfl rfl (by rw [hv3]; rfl) (by rw [hv3]; simp [hvc3]) (by decide)) ?_
 rw [hv3]
 have hbs3 : (g3.set c (.cells 61 [.str nm.1, .int .i64 np.1, .int .i64 ns.1, v3, .nils]))[b]? = _ := (yau (Ne.symm hcn)).trans hb3
 have has3 : (g3.set c (.cells 61 [.str nm.1, .int .i64 np.1, .int .i64 ns.1, v3, .nils]))[h.length]? = _ := (yau (by omega)).trans ha3
 have hcs3 : (g3.set c (.cells 61 [.str nm.1, .int .i64 np.1, .int .i64 ns.1, v3, .nils]))[c]? = _ := ybs hc3
 have hkt3 : KeepT 61 g3 (g3.set c (.cells 61 [.str nm.1, .int .i64 np.1, .int .i64 ns.1, v3, .nils])) := KeepT.setT hc3
 apply jA
 have hrowS := (hrow3.set (i := c) hcl2 (x := .cells 61 [.str nm.1, .int .i64 np.1, .int .i64 ns.1, v3, .nils])).mono (m := h.length) (by omega)
 have helS : El (insM (g3.set c (.cells 61 [.str nm.1, .int .i64 np.1, .int .i64 ns.1, v3, .nils])) h.length) es3 l3 := hel3.imp fun v x hv => ins_val.mono (insM.keepT hv hkt3 (by decide)) (by omega)
 -- gd
 obtain ⟨r4, hr4, hR4⟩ := yxt hbs3 hj3' hs
 unfold rlM at hR4
 cases hgd : pLst (pGrd u) u cd.2 with
 | none =>
  rw [hgd] at hR4
  obtain ⟨ge, rfl, hke⟩ := hR4
  refine RunP.regionP 3 (CallP.of hr4 ?_)
  exact ⟨rfl, hno _ (by unfold pFnc; rw [hnm]; simp only [Option.bind_some]; rw [hnp]; simp only [Option.bind_some]; rw [hns]; simp only [Option.bind_some]; rw [hcd]; simp only [Option.bind_some]; rw [hgd]; rfl) (hkp3.trans (hke.mono hkp3.1))⟩
 | some gd =>
 rw [hgd] at hR4
 obtain ⟨v4, g4, l4, es4, rfl, hl4, hrow4, hel4, hk4, hb4⟩ := hR4
 have hj4' := (yhb ynn u [] cd.2 gd hj3' hgd).2.2
 have hlen4 := hk4.1
 have hc4 := hk4.2 _ _ hcl3 hcn hcs3
 have ha4 := hk4.2 _ _ (by omega) (by omega) has3
 have hkp4 := (hkp3.trans (hk4.mono hkp3.1)).trans (KeepN.setN (b := b) g4 (.cells 61 [.str nm.1, .int .i64 np.1, .int .i64 ns.1, v3, v4]) (Nat.le_of_lt hlc))
 have hcl4 : c < (g4.set c (.cells 61 [.str nm.1, .int .i64 np.1, .int .i64 ns.1, v3, v4])).length := by simp; omega
 obtain ⟨hv4, hvc4⟩ := hrow4.one
 apply jB
 refine CallK.of hr4 ?_
 refine yab (ybw (E := envQ) (t := 59) (n := 5) (v := v4) hc4 rfl rfl (by rw [hv4]; rfl) (by rw [hv4]; simp [hvc4]) (by decide)) ?_
 rw [hv4]
 have hbs4 : (g4.set c (.cells 61 [.str nm.1, .int .i64 np.1, .int .i64 ns.1, v3, v4]))[b]? = _ := (yau (Ne.symm hcn)).trans hb4
 have has4 : (g4.set c (.cells 61 [.str nm.1, .int .i64 np.1, .int .i64 ns.1, v3, v4]))[h.length]? = _ := (yau (by omega)).trans ha4
 have hcs4 : (g4.set c (.cells 61 [.str nm.1, .int .i64 np.1, .int .i64 ns.1, v3, v4]))[c]? = _ := ybs hc4
 have hkt4 : KeepT 61 g4 (g4.set c (.cells 61 [.str nm.1, .int .i64 np.1, .int .i64 ns.1, v3, v4])) := KeepT.setT hc4
 apply jA
 have hrowA := hrowS.keep hk4 (Nat.le_refl _) (ygh hbs3 (by decide))
 have helA : El (insM g4 h.length) es3 l3 := helS.imp fun v x hv => ins_val.keep hv hk4 (Nat.le_refl _) hbs3
 apply jB
 refine yab (yae (E := envQ) (t := 61) (n := 5) hcs4 rfl) ?_
 refine yab (ybw (E := envQ) (t := 61) (n := 5) (v := .agg [.str nm.1, .int .i64 np.1, .int .i64 ns.1, v3, v4]) has4 rfl rfl rfl (by simp only [V.cells, List.all_cons, List.all_nil, hvc3, hvc4, Bool.and_true]; rfl) (by decide)) ?_
 apply jH
 refine ⟨rfl, yab (res_c (yae (E := envQ) (t := 61) (n := 5) (ybs has4) rfl)) ?_⟩
 have hktz : KeepT 61 (g4.set c (.cells 61 [.str nm.1, .int .i64 np.1, .int .i64 ns.1, v3, v4])) ((g4.set c (.cells 61 [.str nm.1, .int .i64 np.1, .int .i64 ns.1, v3, v4])).set h.length (.cells 61 [.str nm.1, .int .i64 np.1, .int .i64 ns.1, v3, v4])) := KeepT.setT has4
 refine hval _ _ (⟨nm.1, np.1, ns.1, cd.1, gd.1⟩, gd.2) ?_ ⟨v3, l3, es3, v4, l4, es4, rfl, ⟨hl3, ?_, ?_⟩, hl4, ?_, ?_⟩ (hkp4.trans (KeepN.setN _ _ (Nat.le_refl _))) ?_
 ·unfold pFnc; rw [hnm]; simp only [Option.bind_some]; rw [hnp]; simp only [Option.bind_some]; rw [hns]; simp only [Option.bind_some]; rw [hcd]; simp only [Option.bind_some]; rw [hgd]; rfl
 ·exact (hrowA.keepT hkt4 (by decide)).keepT hktz (by decide)
 ·exact helA.imp fun v x hv => insM.keepT (insM.keepT hv hkt4 (by decide)) hktz (by decide)
 ·exact ((hrow4.mono (m := h.length) (by omega)).keepT hkt4 (by decide)).keepT hktz (by decide)
 ·exact hel4
 ·rw [yau (by omega)]; exact hbs4
def rlfncI (h0 : Heap) (b : Nat) (u : List UInt8) (F : V) (j n : Nat) (k : Nat) (s : List V) (h : Heap) : Prop :=
 ∃ (i j2 : Nat) (z : Int) (o : V) (es : List V) (l : List Fnc), (i + k = n ∧ z = i ∧ InRowB h 61 5 h0.length o es ∧ El (fncM h h0.length) es l ∧ KeepN h0.length b h0 h ∧ h[b]? = some (rdr u (j2 : Nat)) ∧ j2 ≤ u.length ∧ l.length = i ∧ pRep (pFnc u) n j = (pRep (pFnc u) k j2).map fun q => (l ++ q.1, q.2)) ∧ s.length = 36 ∧ s.getD 0 und = und ∧ s.getD 1 und = .ptr b 0 2 ∧ s.getD 2 und = F ∧ s.getD 5 und = .nils ∧ s.getD 6 und = .int .i64 n ∧ s.getD 7 und = o ∧ s.getD 25 und = .int .i64 n ∧ s.getD 26 und = .int .i64 z
theorem yxu {h0 : Heap} {b : Nat} {u : List UInt8} {F : V} {j n : Nat} {k : Nat} {s : List V} {h : Heap} (hI : rlfncI h0 b u F j n k s h) : ∃ (i j2 : Nat) (z : Int) (o : V) (es : List V) (l : List Fnc) (x : Nat → V), (i + k = n ∧ z = i ∧ InRowB h 61 5 h0.length o es ∧ El (fncM h h0.length) es l ∧ KeepN h0.length b h0 h ∧ h[b]? = some (rdr u (j2 : Nat)) ∧ j2 ≤ u.length ∧ l.length = i ∧ pRep (pFnc u) n j = (pRep (pFnc u) k j2).map fun q => (l ++ q.1, q.2)) ∧
  s = [und, .ptr b 0 2, F, x 3, x 4, .nils, .int .i64 n, o, x 8, x 9, x 10, x 11, x 12, x 13, x 14, x 15, x 16, x 17, x 18, x 19, x 20, x 21, x 22, x 23, x 24, .int .i64 n, .int .i64 z, x 27, x 28, x 29, x 30, x 31, x 32, x 33, x 34, x 35] := by
 obtain ⟨i, j2, z, o, es, l, hF, hl, e0, e1, e2, e5, e6, e7, e25, e26⟩ := hI
 refine ⟨i, j2, z, o, es, l, fun n => s.getD n und, hF, (ybd hl).trans ?_⟩
 simp only [List.range, List.range.loop, List.map_cons, List.map_nil]
 rw [e0, e1, e2, e5, e6, e7, e25, e26]
set_option maxHeartbeats 4000000 in
theorem yxv {h : Heap} {b : Nat} {u : List UInt8} {i : Nat} (hb : h[b]? = some (rdr u i)) (hi : i ≤ u.length) (hs : u.length ≤ 2 ^ 38) : ∃ r, Has envQ .shared 53 [.ptr b 0 2, .bm 54 [.ptr b 0 2]] h r ∧ rlM 61 5 fncM h b u (pLst (pFnc u) u i) r := by
 obtain ⟨r, hr, hR⟩ := ygf hb hi hs
 refine HasP.sharedX (d := fn53) rfl (jT rfl) ?_
 unfold rdX at hR
 have hnone : ∀ g, pLst (pFnc u) u i = none → KeepN h.length b h g → rlM 61 5 fncM h b u (pLst (pFnc u) u i) (.pan yby g) := fun g hp hk => by
  rw [hp]; exact ⟨g, rfl, hk⟩
 apply jA
 apply jB
 apply jA
 cases hd : pNat u i with
 | none =>
  rw [hd] at hR
  obtain ⟨k, rfl⟩ := hR
  refine RunP.regionP 1 (CallP.of hr ?_)
  exact ⟨rfl, hnone _ (by unfold pLst; rw [yku hd]; rfl) (KeepN.set _ _ _ _)⟩
 | some p =>
  have hle := yhf hd
  have hj := (ycx u [] i p hi hd).2.2
  rw [hd] at hR
  simp only at hR
  subst hR
  obtain ⟨n, j⟩ := p
  simp only at hle hr hj ⊢
  have hb1 : (h.set b (rdr u (j : Nat)))[b]? = some (rdr u (j : Nat)) := ybs hb
  apply jB
  refine CallK.of hr ?_
  apply jA
  have ew : IntKind.i64.wrap ((u.length : Int) - (j : Int)) = ((u.length - j : Nat) : Int) := by rw [wrapS (by omega) (by omega)]; omega
  by_cases hfit : n + j ≤ u.length
  case neg =>
   apply RunP.drawnP
   ·decide +kernel
   refine yab (yae (E := envQ) (t := 9) (n := 2) hb1 rfl) ?_
   refine yab (yae (E := envQ) (t := 3) (n := 2) hb1 rfl) ?_
   refine jI (fun h0 => by rw [ew] at h0; omega) (fun _ => ?_)
   refine drawZ (by decide +kernel) (by decide +kernel) ?_
   refine jI ⟨rfl, by decide +kernel⟩ (CallP.of (ydw _ _) ?_)
   exact ⟨rfl, hnone _ (by unfold pLst; rw [yfg hd, if_neg hfit]; rfl) (KeepN.set _ _ _ _)⟩
  have hpl : pLst (pFnc u) u i = (pRep (pFnc u) n j).map fun q => (optOf q.1, q.2) := by
   unfold pLst; rw [yfg hd, if_pos hfit]; rfl
  have hval : ∀ v g l es j2, pRep (pFnc u) n j = some (l, j2) → InRowB g 61 5 h.length v es → El (fncM g h.length) es l → KeepN h.length b h g → g[b]? = some (rdr u (j2 : Nat)) → rlM 61 5 fncM h b u (pLst (pFnc u) u i) (.val v g) := fun v g l es j2 hp hr he hk hb => by
   rw [hpl, hp]; exact ⟨v, g, l, es, rfl, rfl, hr, he, hk, hb⟩
  have hno2 : ∀ g, pRep (pFnc u) n j = none → KeepN h.length b h g → rlM 61 5 fncM h b u (pLst (pFnc u) u i) (.pan yby g) := fun g hp hk => hnone g (by rw [hpl, hp]; rfl) hk
  clear hnone
  generalize rlM 61 5 fncM h b u (pLst (pFnc u) u i) = PR at hval hno2 ⊢
  apply RunP.drawn
  ·decide +kernel
  refine yab (yae (E := envQ) (t := 9) (n := 2) hb1 rfl) ?_
  refine yab (yae (E := envQ) (t := 3) (n := 2) hb1 rfl) ?_
  refine jI (fun _ => ?_) (fun h0 => by rw [ew] at h0; omega)
  refine drawZ (by decide +kernel) (by decide +kernel) ?_
  refine CallK.of (ydi _ _) ?_
  refine drawW (by decide +kernel) (by kernel_rfl) ?_
  apply jA
  apply jB
  apply jA
  apply jA
  apply jB
  apply jF
  refine RunP.loop (rlfncI h b u (.bm 54 [.ptr b 0 2]) j n) ?_ n ⟨0, j, _, _, [], [], ⟨by omega, rfl, .inl ⟨rfl, rfl⟩, trivial, KeepN.set _ _ _ _, hb1, hj, rfl, by cases pRep (pFnc u) n j <;> rfl⟩, rfl, rfl, rfl, rfl, rfl, rfl, rfl, rfl, rfl⟩
  intro k st g hI
  obtain ⟨m, j2, z, o, es, l, x, ⟨hmk, hz, hrow, hel, hkp, hbg, hj2, hll, hpr⟩, rfl⟩ := yxu hI
  clear hI
  subst hz
  apply jA
  apply jB
  refine jI (fun hlt => ?_) (fun hge => ?_)
  case' refine_2 =>
   apply jA
   apply jD rfl
   apply jG
   apply jA
   apply jB
   apply jH
   obtain rfl : k = 0 := by omega
   exact ⟨rfl, hval _ _ l es j2 (by rw [hpr]; simp [pRep]) hrow hel hkp hbg⟩
  apply jA
  apply jC rfl
  apply jE
  apply jA
  apply jF
  apply jA
  obtain ⟨r1, hr1, hR1⟩ := fncM_ok g b u j2 hbg hj2 hs
  obtain ⟨k, rfl⟩ : ∃ k', k = k' + 1 := ⟨k - 1, by omega⟩
  unfold rdK at hR1
  cases hd1 : pFnc u j2 with
  | none =>
   rw [hd1] at hR1
   obtain ⟨g1, rfl, hk1⟩ := hR1
   refine RunP.regionP 1 (CallP.of hr1 ?_)
   exact ⟨rfl, hno2 _ (by rw [hpr]; unfold pRep; rw [hd1]; rfl) (hkp.trans (hk1.mono hkp.1))⟩
  | some q =>
   rw [hd1] at hR1
   obtain ⟨v1, g1, rfl, hv1, hk1, hb2⟩ := hR1
   obtain ⟨cs, rfl, hcl, hcc⟩ := fnc_val.cells hv1
   have hj3 := (yrl u [] j2 q hj2 hd1).2.2
   apply jB
   refine CallK.of hr1 ?_
   refine yab (ycw (E := envQ) (t := 61) (n := 5) (v := .agg cs) rfl rfl rfl hcl hcc) ?_
   apply jB
   refine yab (yns (E := envQ) (t := 61) (n := 5) (cs := cs) rfl rfl rfl hcl) ?_
   refine yep (ynt (E := envQ) (t := 23) (el := 61) (x := ty61) rfl rfl rfl rfl (by decide) (by decide) hcl hcc) ?_
   have hrow1 := hrow.keep hk1 (Nat.le_refl _) (ygh hbg (by decide))
   have hel1 : El (fncM g1 h.length) es l := hel.imp fun v x hv => fnc_val.keep hv hk1 (Nat.le_refl _) hbg
   have hv2 := fnc_val.mono hv1 hkp.1
   have hlen1 := hk1.1
   have hlen0 := hkp.1
   have hel2 := hel.len
   obtain ⟨v', g2, a1, a2, a3, a4, a5⟩ := ykt (E := envQ) (t := 23) (T := 61) (e := 5) (n := h.length) (h := Sb.push (Sb.push g1 (.cells 61 cs)) (.cells 61 cs)) (c := .agg cs) (x := .sl (Sb.push g1 (.cells 61 cs)).length 0 5 1 1 5) rfl rfl rfl rfl (by decide) (by simp [Sb.push]; omega) ((hrow1.push _).push _) (ykx fun v hv => by obtain ⟨ds, rfl, q, _⟩ := hel.all (q := fun v => ∃ cs, v = .agg cs ∧ cs.length = 5 ∧ cs.all V.isCell = true) (fun v x => fnc_val.cells) v hv; exact q) (yic (n := 5) _ _ cs hcl) (by simp [roomy, show ty61.bytes = 80 from rfl]; omega)
   refine ycn (congrArg valH a1) ?_
   apply jB
   have hblt := (List.getElem?_eq_some_iff.1 hb).1
   have hkt : KeepT 61 g1 g2 := ((yhg g1 _).trans (yhg _ _)).trans a5
   refine ⟨k, by omega, m + 1, q.2, _, v', es ++ [.agg cs], l ++ [q.1], ⟨by omega, ycp m (by omega), a2, (hel1.imp fun v x hv => fnc_val.keepT hv hkt).snoc (fnc_val.keepT hv2 hkt), (hkp.trans (hk1.mono hkp.1)).trans ⟨by simp [Sb.push] at a3 ⊢; omega, fun i k hi _ hk => a4 i k hi (yam (yam hk))⟩, a4 b _ hblt (yam (yam hb2)), hj3, by simp [hll], ?_⟩, rfl, rfl, rfl, rfl, rfl, rfl, rfl, rfl, rfl⟩
   rw [hpr]
   conv => lhs; unfold pRep
   rw [hd1]
   simp only [Option.bind_some, Option.map_map]
   congr 1
   funext w
   simp [Function.comp]
end Go.Proofs.YtekmafoicobphaaGreatDoor
