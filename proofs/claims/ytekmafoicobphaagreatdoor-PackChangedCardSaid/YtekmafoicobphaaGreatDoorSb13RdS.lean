/- Seat 13: the reader of an instruction. -/
import Derived.Test.YtekmafoicobphaaGreatDoorSb13RdG
import Derived.Test.YtekmafoicobphaaGreatDoorSb13RdL
set_option linter.unusedVariables false
set_option linter.unusedSimpArgs false
namespace Go.Proofs.YtekmafoicobphaaGreatDoor
open Go.Sb
set_option maxRecDepth 100000
def ips (c : Nat) : List V := [.ptr c 1 8, .ptr c 2 8, .ptr c 3 8]
def ykw (op : Nat) (l : List Int) : List V := .int .i64 op :: ((l.map fun (x : Int) => V.int .i64 x) ++ (List.replicate (3 - l.length) (.int .i64 0) ++ [.int .i64 0, .int .i64 0, .str [], .nils]))
def toIns (op : Nat) (r : List Int) (k : Nat) (n : Int) (s : List UInt8) (l : Option (List Int)) : Ins := match r with
 | [a, b, c] => ⟨op, a, b, c, k, n, s, l⟩
 | _ => ⟨op, 0, 0, 0, k, n, s, l⟩
theorem ygg (u : List UInt8) (i : Nat) : pIns u i = (pByte u i).bind fun op => (pRep (pInt u) 3 op.2).bind fun r => (pByte u r.2).bind fun k => (pInt u k.2).bind fun n => (pTxt u n.2).bind fun s => (pLst (pInt u) u s.2).map fun l => (toIns op.1 r.1 k.1 n.1 s.1 l.1, l.2) := by
 simp only [pIns, pRep]
 cases pByte u i with
 | none => rfl
 | some op =>
  simp only [Option.bind_some]
  cases pInt u op.2 with
  | none => rfl
  | some a =>
   simp only [Option.bind_some]
   cases pInt u a.2 with
   | none => rfl
   | some b =>
    simp only [Option.bind_some]
    cases pInt u b.2 with
    | none => rfl
    | some c => rfl
def insM (g : Heap) (n : Nat) (v : V) (x : Ins) : Prop := ∃ w l, v = .agg [.int .i64 x.op, .int .i64 x.a, .int .i64 x.b, .int .i64 x.c, .int .i64 x.k, .int .i64 x.n, .str x.s, w] ∧ x.l = optOf l ∧ InRowB g 3 1 n w (l.map intV)
theorem KeepT.setT {T : TypeId} {h : Heap} {c : Nat} {cs : List V} {x : Blk} (hc : h[c]? = some (.cells T cs)) : KeepT T h (h.set c x) := fun i k hi hne => by
 rw [yau (fun e => by subst e; rw [hc] at hi; cases hi; exact hne _ rfl)]; exact hi
theorem InRowB.keepT {h g : Heap} {T T2 : TypeId} {e n : Nat} {v : V} {es : List V} (hr : InRowB h T e n v es) (hk : KeepT T2 h g) (ht : T ≠ T2) : InRowB g T e n v es := by
 rcases hr with h0 | ⟨i, hi, h1, h2, h3⟩
 ·exact .inl h0
 ·exact .inr ⟨i, hi, h1, hk i _ h2 (fun cs q => by cases q; exact ht rfl), h3⟩
theorem InRowB.one {g : Heap} {T : TypeId} {e n : Nat} {v : V} {es : List V} (hr : InRowB g T e n v es) : v.cells = [v] ∧ v.isCell = true := by
 rcases hr with ⟨rfl, _⟩ | ⟨i, _, rfl, _⟩
 ·exact ⟨rfl, rfl⟩
 ·exact ⟨rfl, rfl⟩
theorem InRowB.set {g : Heap} {T : TypeId} {e n i : Nat} {v : V} {es : List V} {x : Blk} (hr : InRowB g T e n v es) (hi : i < n) : InRowB (g.set i x) T e n v es := by
 rcases hr with h0 | ⟨k, hk, h1, h2, h3⟩
 ·exact .inl h0
 ·exact .inr ⟨k, hk, h1, by rw [yau (by omega)]; exact h2, h3⟩
theorem KeepN.setN {n b c : Nat} (h : Heap) (x : Blk) (hc : n ≤ c) : KeepN n b h (h.set c x) := ⟨by simp, fun i k hi _ hk => by rw [yau (by omega)]; exact hk⟩
def zi : List V := ykw 0 []
def rsI (h0 : Heap) (b : Nat) (u : List UInt8) (c op j : Nat) (k : Nat) (s : List V) (h : Heap) : Prop :=
 ∃ (i j2 : Nat) (z : Int) (l : List Int), (i + k = 3 ∧ z = i ∧ l.length = i ∧ KeepN h0.length b h0 h ∧ h[b]? = some (rdr u (j2 : Nat)) ∧ j2 ≤ u.length ∧ h[h0.length]? = some (.cells 68 zi) ∧ h[c]? = some (.cells 68 (ykw op l)) ∧ h[c + 1]? = some (.cells 138 (ips c)) ∧ pRep (pInt u) 3 j = (pRep (pInt u) k j2).map fun q => (l ++ q.1, q.2)) ∧ s.length = 44 ∧ s.getD 0 und = und ∧ s.getD 1 und = .ptr b 0 2 ∧ s.getD 3 und = .ptr h0.length 0 8 ∧ s.getD 4 und = .ptr c 0 8 ∧ s.getD 14 und = .sl (c + 1) 0 1 3 3 3 ∧ s.getD 15 und = .int .i64 3 ∧ s.getD 16 und = .int .i64 z
theorem rsI_lit {h0 : Heap} {b : Nat} {u : List UInt8} {c op j : Nat} {k : Nat} {s : List V} {h : Heap} (hI : rsI h0 b u c op j k s h) : ∃ (i j2 : Nat) (z : Int) (l : List Int) (x : Nat → V), (i + k = 3 ∧ z = i ∧ l.length = i ∧ KeepN h0.length b h0 h ∧ h[b]? = some (rdr u (j2 : Nat)) ∧ j2 ≤ u.length ∧ h[h0.length]? = some (.cells 68 zi) ∧ h[c]? = some (.cells 68 (ykw op l)) ∧ h[c + 1]? = some (.cells 138 (ips c)) ∧ pRep (pInt u) 3 j = (pRep (pInt u) k j2).map fun q => (l ++ q.1, q.2)) ∧
  s = [und, .ptr b 0 2, x 2, .ptr h0.length 0 8, .ptr c 0 8, x 5, x 6, x 7, x 8, x 9, x 10, x 11, x 12, x 13, .sl (c + 1) 0 1 3 3 3, .int .i64 3, .int .i64 z, x 17, x 18, x 19, x 20, x 21, x 22, x 23, x 24, x 25, x 26, x 27, x 28, x 29, x 30, x 31, x 32, x 33, x 34, x 35, x 36, x 37, x 38, x 39, x 40, x 41, x 42, x 43] := by
 obtain ⟨i, j2, z, l, hF, hl, e0, e1, e3, e4, e14, e15, e16⟩ := hI
 refine ⟨i, j2, z, l, fun n => s.getD n und, hF, (ybd hl).trans ?_⟩
 simp only [List.range, List.range.loop, List.map_cons, List.map_nil]
 rw [e0, e1, e3, e4, e14, e15, e16]
set_option maxHeartbeats 8000000 in
theorem ins_ok : RdOK 85 pIns insM := fun h b u j hb hj hs => by
 have hblt := (List.getElem?_eq_some_iff.1 hb).1
 have hno : ∀ g, pIns u j = none → KeepN h.length b h g → rdK h b u (pIns u j) insM (.pan yby g) := fun g hp hk => by
  unfold rdK
  rw [hp]
  exact ⟨g, rfl, hk⟩
 have hval : ∀ g v q, pIns u j = some q → insM g h.length v q.1 → KeepN h.length b h g → g[b]? = some (rdr u (q.2 : Nat)) → rdK h b u (pIns u j) insM (.val v g) := fun g v q hp hv hk hb => by
  unfold rdK
  rw [hp]
  exact ⟨v, g, rfl, hv, hk, hb⟩
 refine HasP.sharedX (d := fn85) rfl (jT rfl) ?_
 generalize rdK h b u (pIns u j) insM = PR at hval hno ⊢
 have e1 : ∀ (h : Heap) (x : Blk), (Sb.push h x).length = h.length + 1 := fun h x => by simp [Sb.push]
 apply jA
 apply jB
 apply jA
 obtain ⟨r1, hr1, hR1⟩ := ysh (Sb.push h (.cells 68 zi)) b u j (yam hb) hj hs
 unfold rdK at hR1
 rw [e1] at hR1
 cases hd1 : pByte u j with
 | none =>
  rw [hd1] at hR1
  obtain ⟨g1, rfl, hk1⟩ := hR1
  refine RunP.regionP 1 (CallP.of hr1 ?_)
  exact ⟨rfl, hno _ (by rw [ygg, hd1]; rfl) (KeepN.trans ⟨by rw [e1]; omega, fun i k _ _ hk => yam hk⟩ (hk1.mono (by omega)))⟩
 | some op =>
 rw [hd1] at hR1
 obtain ⟨v1, g1, rfl, rfl, hk1, hb1⟩ := hR1
 have hj1 := (ykp u [] j op hj hd1).2.2
 have hK1 : KeepN h.length b h g1 := KeepN.trans ⟨by rw [e1]; omega, fun i k _ _ hk => yam hk⟩ (hk1.mono (by omega))
 have ha1 : g1[h.length]? = some (.cells 68 zi) := hk1.2 _ _ (by omega) (by omega) (ydh h _)
 have hlt1 : h.length < g1.length := (List.getElem?_eq_some_iff.1 ha1).1
 apply jB
 refine CallK.of hr1 ?_
 refine yab (ycw (E := envQ) (t := 68) (n := 8) (v := .agg (ykw op.1 [])) rfl rfl rfl rfl rfl) ?_
 apply jA
 apply jA
 apply jB
 apply jF
 simp only [e1]
 have hlen : h.length + 1 ≤ g1.length := by omega
 refine RunP.loop (rsI h b u g1.length op.1 op.2) ?_ 3 ⟨0, op.2, _, [], ⟨rfl, rfl, rfl, hK1.trans ⟨by simp only [e1]; omega, fun i k _ _ hk => yam (yam hk)⟩, yam (yam hb1), hj1, yam (yam ha1), yam (ydh g1 _), ykv (by simp only [e1]), by cases pRep (pInt u) 3 op.2 <;> rfl⟩, rfl, rfl, rfl, rfl, rfl, rfl, rfl, rfl⟩
 intro k st g hI
 obtain ⟨i, j2, z, l, x, ⟨hik, hz, hll, hkp, hbg, hj2, ha, hc, hd, hpr⟩, rfl⟩ := rsI_lit hI
 clear hI
 subst hz
 generalize hcc : g1.length = c at *
 have hcn : c ≠ b := fun e => by subst e; rw [hbg] at hc; simp [rdr] at hc
 apply jA
 apply jB
 refine jI (fun hlt => ?_) (fun hge => ?_)
 case' refine_2 =>
  apply jA
  apply jD rfl
  apply jG
  obtain rfl : k = 0 := by omega
  have hl4 : l.length = 3 := by omega
  obtain ⟨x0, x1, x2, rfl⟩ : ∃ x0 x1 x2, l = [x0, x1, x2] := by
   match l, hl4 with
   | [x0, x1, x2], _ => exact ⟨_, _, _, rfl⟩
  have hp3 : pRep (pInt u) 3 op.2 = some ([x0, x1, x2], j2) := hpr.trans (by simp [pRep])
  clear hpr hd
  apply jA
  have hcl := (List.getElem?_eq_some_iff.1 hc).1
  have hc0 : g[c]? = some (.cells 68 [.int .i64 op.1, .int .i64 x0, .int .i64 x1, .int .i64 x2, .int .i64 0, .int .i64 0, .str [], .nils]) := hc
  have hlc : h.length < c := by omega
  clear hc
  -- byte
  obtain ⟨r2, hr2, hR2⟩ := ysh g b u j2 hbg hj2 hs
  unfold rdK at hR2
  cases hkk : pByte u j2 with
  | none =>
   rw [hkk] at hR2
   obtain ⟨ge, rfl, hke⟩ := hR2
   refine RunP.regionP 1 (CallP.of hr2 ?_)
   exact ⟨rfl, hno _ (by rw [ygg, hd1]; simp only [Option.bind_some]; rw [hp3]; simp only [Option.bind_some]; rw [hkk]; rfl) (hkp.trans (hke.mono hkp.1))⟩
  | some kk =>
  rw [hkk] at hR2
  obtain ⟨v2, g1, rfl, rfl, hk1, hb1⟩ := hR2
  have hj1' := (ykp u [] j2 kk hj2 hkk).2.2
  have hlen1 := hk1.1
  have hc1 := hk1.2 _ _ hcl hcn hc0
  have ha1 := hk1.2 _ _ (by omega) (by omega) ha
  have hkp1 := (hkp.trans (hk1.mono hkp.1)).trans (KeepN.setN (b := b) g1 (.cells 68 [.int .i64 op.1, .int .i64 x0, .int .i64 x1, .int .i64 x2, .int .i64 kk.1, .int .i64 0, .str [], .nils]) (Nat.le_of_lt hlc))
  have hcl1 : c < (g1.set c (.cells 68 [.int .i64 op.1, .int .i64 x0, .int .i64 x1, .int .i64 x2, .int .i64 kk.1, .int .i64 0, .str [], .nils])).length := by simp; omega
  apply jB
  refine CallK.of hr2 ?_
  refine yab (ybw (E := envQ) (t := 3) (n := 8) hc1 rfl rfl rfl rfl (by decide)) ?_
  have hbs1 : (g1.set c (.cells 68 [.int .i64 op.1, .int .i64 x0, .int .i64 x1, .int .i64 x2, .int .i64 kk.1, .int .i64 0, .str [], .nils]))[b]? = _ := (yau (Ne.symm hcn)).trans hb1
  have has1 : (g1.set c (.cells 68 [.int .i64 op.1, .int .i64 x0, .int .i64 x1, .int .i64 x2, .int .i64 kk.1, .int .i64 0, .str [], .nils]))[h.length]? = _ := (yau (by omega)).trans ha1
  have hcs1 : (g1.set c (.cells 68 [.int .i64 op.1, .int .i64 x0, .int .i64 x1, .int .i64 x2, .int .i64 kk.1, .int .i64 0, .str [], .nils]))[c]? = _ := ybs hc1
  apply jA
  -- int
  obtain ⟨r3, hr3, hR3⟩ := int_ok (g1.set c (.cells 68 [.int .i64 op.1, .int .i64 x0, .int .i64 x1, .int .i64 x2, .int .i64 kk.1, .int .i64 0, .str [], .nils])) b u kk.2 hbs1 hj1' hs
  unfold rdK at hR3
  cases hnn : pInt u kk.2 with
  | none =>
   rw [hnn] at hR3
   obtain ⟨ge, rfl, hke⟩ := hR3
   refine RunP.regionP 1 (CallP.of hr3 ?_)
   exact ⟨rfl, hno _ (by rw [ygg, hd1]; simp only [Option.bind_some]; rw [hp3]; simp only [Option.bind_some]; rw [hkk]; simp only [Option.bind_some]; rw [hnn]; rfl) (hkp1.trans (hke.mono hkp1.1))⟩
  | some nn =>
  rw [hnn] at hR3
  obtain ⟨v3, g2, rfl, rfl, hk2, hb2⟩ := hR3
  have hj2' := (yfb u [] kk.2 nn hj1' hnn).2.2
  have hlen2 := hk2.1
  have hc2 := hk2.2 _ _ hcl1 hcn hcs1
  have ha2 := hk2.2 _ _ (by omega) (by omega) has1
  have hkp2 := (hkp1.trans (hk2.mono hkp1.1)).trans (KeepN.setN (b := b) g2 (.cells 68 [.int .i64 op.1, .int .i64 x0, .int .i64 x1, .int .i64 x2, .int .i64 kk.1, .int .i64 nn.1, .str [], .nils]) (Nat.le_of_lt hlc))
  have hcl2 : c < (g2.set c (.cells 68 [.int .i64 op.1, .int .i64 x0, .int .i64 x1, .int .i64 x2, .int .i64 kk.1, .int .i64 nn.1, .str [], .nils])).length := by simp; omega
  apply jB
  refine CallK.of hr3 ?_
  refine yab (ybw (E := envQ) (t := 3) (n := 8) hc2 rfl rfl rfl rfl (by decide)) ?_
  have hbs2 : (g2.set c (.cells 68 [.int .i64 op.1, .int .i64 x0, .int .i64 x1, .int .i64 x2, .int .i64 kk.1, .int .i64 nn.1, .str [], .nils]))[b]? = _ := (yau (Ne.symm hcn)).trans hb2
  have has2 : (g2.set c (.cells 68 [.int .i64 op.1, .int .i64 x0, .int .i64 x1, .int .i64 x2, .int .i64 kk.1, .int .i64 nn.1, .str [], .nils]))[h.length]? = _ := (yau (by omega)).trans ha2
  have hcs2 : (g2.set c (.cells 68 [.int .i64 op.1, .int .i64 x0, .int .i64 x1, .int .i64 x2, .int .i64 kk.1, .int .i64 nn.1, .str [], .nils]))[c]? = _ := ybs hc2
  apply jA
  -- txt
  obtain ⟨r4, hr4, hR4⟩ := txt_ok (g2.set c (.cells 68 [.int .i64 op.1, .int .i64 x0, .int .i64 x1, .int .i64 x2, .int .i64 kk.1, .int .i64 nn.1, .str [], .nils])) b u nn.2 hbs2 hj2' hs
  unfold rdK at hR4
  cases hss : pTxt u nn.2 with
  | none =>
   rw [hss] at hR4
   obtain ⟨ge, rfl, hke⟩ := hR4
   refine RunP.regionP 1 (CallP.of hr4 ?_)
   exact ⟨rfl, hno _ (by rw [ygg, hd1]; simp only [Option.bind_some]; rw [hp3]; simp only [Option.bind_some]; rw [hkk]; simp only [Option.bind_some]; rw [hnn]; simp only [Option.bind_some]; rw [hss]; rfl) (hkp2.trans (hke.mono hkp2.1))⟩
  | some ss =>
  rw [hss] at hR4
  obtain ⟨v4, g3, rfl, rfl, hk3, hb3⟩ := hR4
  have hj3' := (ykq u [] nn.2 ss hj2' hss).2.2
  have hlen3 := hk3.1
  have hc3 := hk3.2 _ _ hcl2 hcn hcs2
  have ha3 := hk3.2 _ _ (by omega) (by omega) has2
  have hkp3 := (hkp2.trans (hk3.mono hkp2.1)).trans (KeepN.setN (b := b) g3 (.cells 68 [.int .i64 op.1, .int .i64 x0, .int .i64 x1, .int .i64 x2, .int .i64 kk.1, .int .i64 nn.1, .str ss.1, .nils]) (Nat.le_of_lt hlc))
  have hcl3 : c < (g3.set c (.cells 68 [.int .i64 op.1, .int .i64 x0, .int .i64 x1, .int .i64 x2, .int .i64 kk.1, .int .i64 nn.1, .str ss.1, .nils])).length := by simp; omega
  apply jB
  refine CallK.of hr4 ?_
  refine yab (ybw (E := envQ) (t := 9) (n := 8) hc3 rfl rfl rfl rfl (by decide)) ?_
  have hbs3 : (g3.set c (.cells 68 [.int .i64 op.1, .int .i64 x0, .int .i64 x1, .int .i64 x2, .int .i64 kk.1, .int .i64 nn.1, .str ss.1, .nils]))[b]? = _ := (yau (Ne.symm hcn)).trans hb3
  have has3 : (g3.set c (.cells 68 [.int .i64 op.1, .int .i64 x0, .int .i64 x1, .int .i64 x2, .int .i64 kk.1, .int .i64 nn.1, .str ss.1, .nils]))[h.length]? = _ := (yau (by omega)).trans ha3
  have hcs3 : (g3.set c (.cells 68 [.int .i64 op.1, .int .i64 x0, .int .i64 x1, .int .i64 x2, .int .i64 kk.1, .int .i64 nn.1, .str ss.1, .nils]))[c]? = _ := ybs hc3
  apply jA
  -- list
  obtain ⟨r5, hr5, hR5⟩ := yxp hbs3 hj3' hs
  unfold rlR at hR5
  cases hll5 : pLst (pInt u) u ss.2 with
  | none =>
   rw [hll5] at hR5
   obtain ⟨ge, rfl, hke⟩ := hR5
   refine RunP.regionP 3 (CallP.of hr5 ?_)
   exact ⟨rfl, hno _ (by rw [ygg, hd1]; simp only [Option.bind_some]; rw [hp3]; simp only [Option.bind_some]; rw [hkk]; simp only [Option.bind_some]; rw [hnn]; simp only [Option.bind_some]; rw [hss]; simp only [Option.bind_some]; rw [hll5]; rfl) (hkp3.trans (hke.mono hkp3.1))⟩
  | some ll =>
  rw [hll5] at hR5
  obtain ⟨v5, g4, l5, es5, rfl, hl5, hrow5, rfl, hk4, hb4⟩ := hR5
  have hlen4 := hk4.1
  have hc4 := hk4.2 _ _ hcl3 hcn hcs3
  have ha4 := hk4.2 _ _ (by omega) (by omega) has3
  have hkp4 := hkp3.trans (hk4.mono hkp3.1)
  obtain ⟨hv5, hvc5⟩ := hrow5.one
  apply jB
  refine CallK.of hr5 ?_
  refine yab (ybw (E := envQ) (t := 66) (n := 8) (v := v5) hc4 rfl rfl (by rw [hv5]; rfl) (by rw [hv5]; simp [hvc5]) (by decide)) ?_
  rw [hv5]
  apply jA
  apply jB
  have hc5 : (g4.set c (.cells 68 [.int .i64 op.1, .int .i64 x0, .int .i64 x1, .int .i64 x2, .int .i64 kk.1, .int .i64 nn.1, .str ss.1, v5]))[c]? = _ := ybs hc4
  have ha5 : (g4.set c (.cells 68 [.int .i64 op.1, .int .i64 x0, .int .i64 x1, .int .i64 x2, .int .i64 kk.1, .int .i64 nn.1, .str ss.1, v5]))[h.length]? = _ := (yau (by omega)).trans ha4
  refine yab (yae (E := envQ) (t := 68) (n := 8) hc5 rfl) ?_
  refine yab (ybw (E := envQ) (t := 68) (n := 8) (v := .agg [.int .i64 op.1, .int .i64 x0, .int .i64 x1, .int .i64 x2, .int .i64 kk.1, .int .i64 nn.1, .str ss.1, v5]) ha5 rfl rfl rfl (by simp only [V.cells, List.all_cons, List.all_nil, hvc5, Bool.and_true]; rfl) (by decide)) ?_
  apply jH
  refine ⟨rfl, yab (res_c (yae (E := envQ) (t := 68) (n := 8) (ybs ha5) rfl)) ?_⟩
  refine hval _ _ (toIns op.1 [x0, x1, x2] kk.1 nn.1 ss.1 ll.1, ll.2) ?_ ⟨v5, l5, rfl, hl5, ?_⟩ (hkp4.trans ((KeepN.setN _ _ (Nat.le_of_lt hlc)).trans (KeepN.setN _ _ (Nat.le_refl _)))) ?_
  ·rw [ygg, hd1]; simp only [Option.bind_some]; rw [hp3]; simp only [Option.bind_some]; rw [hkk]; simp only [Option.bind_some]; rw [hnn]; simp only [Option.bind_some]; rw [hss]; simp only [Option.bind_some]; rw [hll5]; rfl
  ·have hm : h.length ≤ (g3.set c (.cells 68 [.int .i64 op.1, .int .i64 x0, .int .i64 x1, .int .i64 x2, .int .i64 kk.1, .int .i64 nn.1, .str ss.1, .nils])).length := by omega
   exact ((hrow5.set (by omega)).set (by omega)).mono hm
  ·rw [yau (by omega), yau (Ne.symm hcn)]; exact hb4
 -- a round
 apply jA
 apply jC rfl
 apply jE
 apply jA
 apply jF
 apply jA
 apply jB
 obtain ⟨k, rfl⟩ : ∃ k', k = k' + 1 := ⟨k - 1, by omega⟩
 have hcase : (i = 0 ∧ l = []) ∨ (∃ x0, i = 1 ∧ l = [x0]) ∨ (∃ x0 x1, i = 2 ∧ l = [x0, x1]) := by
  match l, hll with
  | [], q => exact .inl ⟨q.symm, rfl⟩
  | [x0], q => exact .inr (.inl ⟨x0, q.symm, rfl⟩)
  | [x0, x1], q => exact .inr (.inr ⟨x0, x1, q.symm, rfl⟩)
  | x0 :: x1 :: x2 :: l, q => simp at q; omega
 obtain ⟨r2, hr2, hR2⟩ := int_ok g b u j2 hbg hj2 hs
 unfold rdK at hR2
 have hnx : ∀ q, pInt u j2 = some q → pRep (pInt u) 3 op.2 = (pRep (pInt u) k q.2).map fun w => ((l ++ [q.1]) ++ w.1, w.2) := fun q hq => by
  rw [hpr]
  conv => lhs; unfold pRep
  rw [hq]
  simp only [Option.bind_some, Option.map_map]
  congr 1
  funext w
  simp [Function.comp]
 have hnn : pInt u j2 = none → pIns u j = none := fun hq => by rw [ygg, hd1]; simp only [Option.bind_some]; rw [hpr]; unfold pRep; rw [hq]; rfl
 clear hpr
 have hlc : h.length < c := by omega
 have hld := (List.getElem?_eq_some_iff.1 hd).1
 rcases hcase with ⟨rfl, rfl⟩ | ⟨x0, rfl, rfl⟩ | ⟨x0, x1, rfl, rfl⟩
 all_goals
  refine jI (by decide) (jI rfl ?_)
  refine yab (yae (E := envQ) (t := 138) (n := 3) hd rfl) ?_
  apply jA
  cases hd1' : pInt u j2 with
  | none =>
   rw [hd1'] at hR2
   obtain ⟨g2, rfl, hk2⟩ := hR2
   refine RunP.regionP 1 (CallP.of hr2 ?_)
   exact ⟨rfl, hno _ (hnn hd1') (hkp.trans (hk2.mono hkp.1))⟩
  | some q =>
   rw [hd1'] at hR2
   obtain ⟨v2, g2, rfl, rfl, hk2, hb2⟩ := hR2
   have hj3 := (yfb u [] j2 q hj2 hd1').2.2
   have ha2 := hk2.2 _ _ (by omega) (by omega) ha
   have hc2 := hk2.2 _ _ (by omega) hcn hc
   have hd2 := hk2.2 _ _ hld (fun e => by rw [e, hbg] at hd; simp [rdr] at hd) hd
   apply jB
   refine CallK.of hr2 ?_
   apply jB
   refine yab (ybw (E := envQ) (t := 3) (n := 8) hc2 rfl rfl rfl rfl (by decide)) ?_
   apply jB
   refine ⟨k, by omega, _, q.2, _, _, ⟨?_, rfl, rfl, (hkp.trans (hk2.mono hkp.1)).trans (KeepN.setN _ _ (Nat.le_of_lt hlc)), (yau (Ne.symm hcn)).trans hb2, hj3, (yau (by omega)).trans ha2, ybs hc2, (yau (by omega)).trans hd2, hnx q hd1'⟩, rfl, rfl, rfl, rfl, rfl, rfl, rfl, rfl⟩
   simp only [List.length_append, List.length_cons, List.length_nil]; omega
end Go.Proofs.YtekmafoicobphaaGreatDoor
