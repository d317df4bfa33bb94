/- Seat 13: opened. -/
import Derived.Test.YtekmafoicobphaaGreatDoorSb13RdP
import Derived.Test.YtekmafoicobphaaGreatDoorSbPk7
set_option linter.unusedVariables false
set_option linter.unusedSimpArgs false
namespace Go.Proofs.YtekmafoicobphaaGreatDoor
open Go.Sb
set_option maxRecDepth 100000
noncomputable def openP (s : List UInt8) : Option Cod := match pCod ((s.take (s.length - 4)).drop 3) 0 with
 | some (c, j) => if j = ((s.take (s.length - 4)).drop 3).length ∧ ycy c = true ∧ sealB (codPB c) = s then some c else none
 | none => none
def oH (s : List UInt8) : Heap := [.cells 9 [.str s], .cells 25 [.nils], .cells 25 [.nils], .cells 26 [.int .i64 0]]
def opR (s : List UInt8) (r : OpR) : Prop := ∃ v g c, ((r = .val und g ∧ openP s = some c) ∨ (r = .pan yby g ∧ openP s = none)) ∧ 3 < g.length ∧ g[1]? = some (.cells 25 [.nils]) ∧ g[2]? = some (.cells 25 [v]) ∧ g[3]? = some (.cells 26 [.int .i64 0]) ∧ codM g 5 v c
set_option maxHeartbeats 4000000 in
theorem yym {s : List UInt8} (h7 : 7 ≤ s.length) (hs : s.length ≤ 60000) : ∃ r, Has envQ .shared 52 [.ptr 0 0 1, .ptr 2 0 1] (oH s) r ∧ opR s r := by
 refine HasP.sharedX (d := fn52) rfl (jT rfl) ?_
 obtain ⟨u, hu⟩ : ∃ u, u = (s.take (s.length - 4)).drop 3 := ⟨_, rfl⟩
 have hul : u.length = s.length - 7 := by rw [hu]; simp; omega
 have hop : openP s = match pCod u 0 with
  | some (c, j) => if j = u.length ∧ ycy c = true ∧ sealB (codPB c) = s then some c else none
  | none => none := by unfold openP; rw [← hu]
 have ew : IntKind.i64.wrap ((s.length : Int) - 4) = ((s.length - 4 : Nat) : Int) := by rw [wrapS (by omega) (by omega)]; omega
 have hsl : V.str ((s.take (IntKind.i64.wrap ((s.length : Int) - 4)).toNat).drop (3 : Int).toNat) = .str u := by rw [ew, hu]; rfl
 refine jW ?_
 refine jR _ ?_
 iterate 2 (refine ybe (v := .str s) (g := oH s) (s' := [_,_,_,_,_,_,_,_,_,_,_,_,_,_,_,_,_,_,_,_,_,_,_,_,_,_,_,_,_,_,_,_,_,_,_,_,_,_,_]) rfl (fun _ => id) rfl ?_)
 iterate 2 (refine ybe (s' := [_,_,_,_,_,_,_,_,_,_,_,_,_,_,_,_,_,_,_,_,_,_,_,_,_,_,_,_,_,_,_,_,_,_,_,_,_,_,_]) rfl (fun _ => id) rfl ?_)
 refine ybe (v := .str u) (g := oH s) (s' := [_,_,_,_,_,_,_,_,_,_,_,_,_,_,_,_,_,_,_,_,_,_,_,_,_,_,_,_,_,_,_,_,_,_,_,_,_,_,_]) rfl (fun K hK => jI (by rw [ew]; omega) (jI (by decide) (jI (by rw [ew]; omega) (by rw [hsl]; exact hK)))) rfl ?_
 refine ybe (v := .agg [.str u, .int .i64 0]) (g := oH s) (s' := [_,_,_,_,_,_,_,_,_,_,_,_,_,_,_,_,_,_,_,_,_,_,_,_,_,_,_,_,_,_,_,_,_,_,_,_,_,_,_]) rfl (fun _ => id) rfl ?_
 refine ybe (v := .ptr 4 0 2) (g := (oH s ++ [rdr u 0])) (s' := [_,_,_,_,_,_,_,_,_,_,_,_,_,_,_,_,_,_,_,_,_,_,_,_,_,_,_,_,_,_,_,_,_,_,_,_,_,_,_]) rfl (fun _ => id) rfl ?_
 refine ybe (s' := [_,_,_,_,_,_,_,_,_,_,_,_,_,_,_,_,_,_,_,_,_,_,_,_,_,_,_,_,_,_,_,_,_,_,_,_,_,_,_]) rfl (fun _ => id) rfl ?_
 refine jW ?_
 obtain ⟨r, hr, hR⟩ := yxv (h := oH s ++ [rdr u 0]) (b := 4) (u := u) (i := 0) rfl (Nat.zero_le _) (by omega)
 unfold rlM at hR
 have hpc : pCod u 0 = pLst (pFnc u) u 0 := rfl
 cases hd : pLst (pFnc u) u 0 with
 | none =>
  rw [hd] at hR
  obtain ⟨g, rfl, hk⟩ := hR
  refine RunP.regionP 3 (CallP.of hr ?_)
  exact ⟨rfl, .nils, g, none, .inr ⟨rfl, by rw [hop, hpc, hd]⟩, Nat.lt_of_lt_of_le (by decide : 3 < 5) hk.1, hk.2 1 _ (by decide : 1 < 5) (by decide) rfl, hk.2 2 _ (by decide : 2 < 5) (by decide) rfl, hk.2 3 _ (by decide : 3 < 5) (by decide) rfl, codM.nil _ _⟩
 | some q =>
 rw [hd] at hR
 obtain ⟨v, g, l, es, rfl, hql, hrow, hel, hk, hb⟩ := hR
 have hM0 : codM g 5 v q.1 := ⟨l, es, hql, hrow, hel⟩
 obtain ⟨hv1, hvc⟩ := hM0.one
 have hlen : 5 ≤ g.length := hk.1
 have hg0 : g[0]? = some (.cells 9 [.str s]) := hk.2 0 _ (by decide : 0 < 5) (by decide) rfl
 have hg1 : g[1]? = some (.cells 25 [.nils]) := hk.2 1 _ (by decide : 1 < 5) (by decide) rfl
 have hg2 : g[2]? = some (.cells 25 [.nils]) := hk.2 2 _ (by decide : 2 < 5) (by decide) rfl
 have hg3 : g[3]? = some (.cells 26 [.int .i64 0]) := hk.2 3 _ (by decide : 3 < 5) (by decide) rfl
 obtain ⟨c, j⟩ := q
 simp only at hql hb hM0
 apply jB
 refine CallK.of hr ?_
 refine yab (ybw (E := envQ) (t := 23) (n := 1) (v := v) hg2 rfl rfl (by rw [hv1]; rfl) (by rw [hv1]; simp only [List.all_cons, List.all_nil, hvc, Bool.and_true]) (by decide)) ?_
 rw [hv1]
 have hM : codM (g.set 2 (.cells 25 [v])) 5 v c := hM0.keepG (KeepG.set (by decide) _ _)
 have k0 : (g.set 2 (.cells 25 [v]))[0]? = _ := (yau (by decide)).trans hg0
 have k1 : (g.set 2 (.cells 25 [v]))[1]? = _ := (yau (by decide)).trans hg1
 have k2 : (g.set 2 (.cells 25 [v]))[2]? = some (.cells 25 [v]) := ybs hg2
 have k3 : (g.set 2 (.cells 25 [v]))[3]? = _ := (yau (by decide)).trans hg3
 have k4 : (g.set 2 (.cells 25 [v]))[4]? = some (rdr u (j : Nat)) := (yau (by decide)).trans hb
 have kl : 3 < (g.set 2 (.cells 25 [v])).length := by simp; omega
 obtain ⟨G, hG⟩ : ∃ G, g.set 2 (.cells 25 [v]) = G := ⟨_, rfl⟩
 have hspl : g.set 2 (.cells 25 (splice [.nils] (0 + (23, 0).2) [v])) = G := hG
 rw [hG] at hM k0 k1 k2 k3 k4 kl
 rw [hspl]
 clear hG hspl hM0 hg0 hg1 hg2 hg3 hb hk hrow hel
 have hno : openP s = none → opR s (.pan yby G) := fun h => ⟨v, G, c, .inr ⟨rfl, h⟩, kl, k1, k2, k3, hM⟩
 apply jA
 by_cases hj : j = u.length
 case neg =>
  apply RunP.drawnP
  ·decide +kernel
  refine yab (yae (E := envQ) (t := 3) (n := 2) k4 rfl) ?_
  refine yab (yae (E := envQ) (t := 9) (n := 2) k4 rfl) ?_
  refine jI (fun h0 => absurd (by omega) hj) (fun _ => ?_)
  refine drawZ (by decide +kernel) (by decide +kernel) ?_
  refine jI ⟨rfl, by decide +kernel⟩ (CallP.of (ydw _ _) ?_)
  exact ⟨rfl, hno (by rw [hop, hpc, hd]; simp only; rw [if_neg (fun q => hj q.1)])⟩
 apply RunP.drawn
 ·decide +kernel
 refine yab (yae (E := envQ) (t := 3) (n := 2) k4 rfl) ?_
 refine yab (yae (E := envQ) (t := 9) (n := 2) k4 rfl) ?_
 refine jI (fun _ => ?_) (fun h0 => absurd (by rw [hj]) h0)
 refine drawZ (by decide +kernel) (by decide +kernel) ?_
 refine CallK.of (ydi _ _) ?_
 refine drawW (by decide +kernel) (by kernel_rfl) ?_
 have hsm := ysr (hpc.trans hd) (Nat.zero_le _)
 obtain ⟨hok, hpt⟩ := yss hsm (by omega)
 have hck : Has envQ .own 41 [.agg [v]] G (.val (.int .i64 (if ycy c = true then 0 else 30)) G) := Has.thaw (h0 := []) (yaf (ysv hM) yan) (yaf (fz_ag (ydx c)) yan) rfl (yrx [] c hok)
 by_cases hv : ycy c = true
 case neg =>
  rw [if_neg hv] at hck
  apply RunP.drawnP
  ·decide +kernel
  refine yab (yae (E := envQ) (t := 25) (n := 1) k2 rfl) ?_
  refine CallK.of hck ?_
  refine drawR (by decide +kernel) (by decide +kernel) ?_
  refine jI (fun q => absurd q (by decide)) (fun _ => ?_)
  refine drawZ (by decide +kernel) (by decide +kernel) ?_
  refine jI ⟨rfl, by decide +kernel⟩ (CallP.of (ydw _ _) ?_)
  exact ⟨rfl, hno (by rw [hop, hpc, hd]; simp only; rw [if_neg (fun q => hv q.2.1)])⟩
 rw [if_pos hv] at hck
 have hpl : (codPB c).length ≤ 2 ^ 38 := by
  have := ynr (yge hv) (fun f hf x hx => by have := yir hok f hf x hx; omega)
  omega
 have hpk : Has envQ .own 42 [.agg [v]] G (.val (.str (sealB (codPB c))) G) := Has.thaw (h0 := []) (yaf (ysv hM) yan) (yaf (fz_ag (ydx c)) yan) rfl (ysl [] c (yge hv) (yir hok) hpl)
 by_cases hse : sealB (codPB c) = s
 case neg =>
  apply RunP.drawnP
  ·decide +kernel
  refine yab (yae (E := envQ) (t := 25) (n := 1) k2 rfl) ?_
  refine CallK.of hck ?_
  refine drawR (by decide +kernel) (by decide +kernel) ?_
  refine jI (fun _ => ?_) (fun q => absurd rfl q)
  refine drawZ (by decide +kernel) (by decide +kernel) ?_
  refine yab (yae (E := envQ) (t := 25) (n := 1) k2 rfl) ?_
  refine drawR (by decide +kernel) (by decide +kernel) ?_
  refine CallK.of hpk ?_
  refine drawR (by decide +kernel) (by decide +kernel) ?_
  refine yab (yae (E := envQ) (t := 9) (n := 1) k0 rfl) ?_
  refine drawR (by decide +kernel) (by decide +kernel) ?_
  refine jI (fun q => absurd q hse) (fun _ => ?_)
  refine drawZ (by decide +kernel) (by decide +kernel) ?_
  refine jI ⟨rfl, by decide +kernel⟩ (CallP.of (ydw _ _) ?_)
  exact ⟨rfl, hno (by rw [hop, hpc, hd]; simp only; rw [if_neg (fun q => hse q.2.2)])⟩
 apply RunP.drawn
 ·decide +kernel
 refine yab (yae (E := envQ) (t := 25) (n := 1) k2 rfl) ?_
 refine CallK.of hck ?_
 refine drawR (by decide +kernel) (by decide +kernel) ?_
 refine jI (fun _ => ?_) (fun q => absurd rfl q)
 refine drawZ (by decide +kernel) (by decide +kernel) ?_
 refine yab (yae (E := envQ) (t := 25) (n := 1) k2 rfl) ?_
 refine drawR (by decide +kernel) (by decide +kernel) ?_
 refine CallK.of hpk ?_
 refine drawR (by decide +kernel) (by decide +kernel) ?_
 refine yab (yae (E := envQ) (t := 9) (n := 1) k0 rfl) ?_
 refine drawR (by decide +kernel) (by decide +kernel) ?_
 refine jI (fun _ => ?_) (fun q => absurd hse q)
 refine drawZ (by decide +kernel) (by decide +kernel) ?_
 refine CallK.of (ydi _ _) ?_
 refine drawW (by decide +kernel) (by kernel_rfl) ?_
 refine ⟨rfl, v, G, c, .inl ⟨rfl, by rw [hop, hpc, hd]; simp only; rw [if_pos ⟨hj, hv, hse⟩]⟩, kl, k1, k2, k3, hM⟩
def opQ (s : List UInt8) (w : V) (g : Heap) : Prop := ∃ v c, ((w = .int .i64 0 ∧ openP s = some c) ∨ (w = .int .i64 31 ∧ openP s = none)) ∧ g[1]? = some (.cells 25 [.nils]) ∧ g[2]? = some (.cells 25 [v]) ∧ codM g 5 v c
set_option maxHeartbeats 2000000 in
theorem yyn {s : List UInt8} (h7 : 7 ≤ s.length) (hs : s.length ≤ 60000) : ∃ w g, Has envQ .shared 38 [.fn (.func 52) [.ptr 0 0 1, .ptr 2 0 1]] [.cells 9 [.str s], .cells 25 [.nils], .cells 25 [.nils]] (.val w g) ∧ opQ s w g := by
 obtain ⟨r, hr, v, g, c, hrg, kl, k1, k2, k3, hM⟩ := yym h7 hs
 refine HasP.guard (G := g11) rfl gd_eq (jT rfl) ?_
 have j3 : g11.d.res = [.cell 2 26] := rfl
 rcases hrg with ⟨rfl, hop⟩ | ⟨rfl, hop⟩
 ·apply jB
  refine ⟨rfl, _, rfl, ?_⟩
  apply jA
  apply jB
  refine CallK.of hr ?_
  apply jA
  apply jB
  refine yab (ybw (E := envQ) (t := 26) (n := 1) k3 rfl rfl rfl rfl (by decide)) ?_
  have k3' : (g.set 3 (.cells 26 (splice [.int .i64 0] 0 (V.int .i64 0).cells)))[3]? = some (.cells 26 [.int .i64 0]) := ybs k3
  apply jH
  refine ⟨jT rfl, ?_⟩
  apply jF
  apply jA
  apply jB
  apply jC rfl
  apply jB
  refine ⟨.inl rfl, ?_⟩
  refine yab (v := und) rfl ?_
  refine yab (res_c (yae (E := envQ) (t := 26) (n := 1) k3' rfl)) ?_
  exact ⟨v, c, .inl ⟨rfl, hop⟩, (yau (by simp)).trans k1, (yau (by simp)).trans k2, hM.keepG (KeepG.set (by simp) _ _)⟩
 ·apply jB
  refine ⟨rfl, _, rfl, ?_⟩
  apply jA
  refine RunP.regionP 1 (CallP.of hr ?_)
  refine ⟨jT rfl, ?_⟩
  apply jF
  apply jA
  apply jB
  apply jD rfl
  apply jA
  apply jB
  apply jC rfl
  apply jA
  apply jB
  refine yab (ycw (E := envQ) (t := 92) (n := 0) (v := .agg []) rfl rfl rfl rfl rfl) ?_
  apply jB
  refine yab (ybw (E := envQ) (t := 26) (n := 1) (yam k3) rfl rfl rfl rfl (by decide)) ?_
  refine ⟨.inl rfl, ?_⟩
  refine yab (v := und) rfl ?_
  refine yab (res_c (yae (E := envQ) (t := 26) (n := 1) (ybs (yam k3)) rfl)) ?_
  exact ⟨v, c, .inr ⟨rfl, hop⟩, (yau (by simp)).trans (yam k1), (yau (by simp)).trans (yam k2), hM.keepG ((KeepG.push _ _ _).trans (KeepG.set (by simp) _ _))⟩
theorem res_ct {E : Env} {s : List V} {h : Heap} {a b t : Nat} {v : V} (hl : yde E t (getT s a) h = some v) : ybp E [.cell a t, .tmp b] s h = some (.tup [v, getT s b]) := by
 simp [ybp, yey, hl]
set_option maxHeartbeats 2000000 in
theorem ysw {s : List UInt8} (h7 : 7 ≤ s.length) (hs : s.length ≤ 60000) (h : Heap) : ∃ c, Has envQ .own 29 [.str s] h (.val (.tup [codV c, .int .i64 (if (openP s).isSome then 0 else 31)]) h) ∧ (∀ c', openP s = some c' → c = c') := by
 obtain ⟨w, g, hr, v, c, hw, k1, k2, hM⟩ := yyn h7 hs
 suffices hz : ∃ u, Has envQ .own 29 [.str s] h (.val u h) ∧ u = .tup [codV c, .int .i64 (if (openP s).isSome then 0 else 31)] by
  obtain ⟨u, h1, rfl⟩ := hz
  refine ⟨c, h1, fun c' hc => ?_⟩
  rcases hw with ⟨_, hw⟩ | ⟨_, hw⟩
  ·rw [hw] at hc; cases hc; rfl
  ·rw [hw] at hc; cases hc
 have hw2 : w = .int .i64 (if (openP s).isSome then 0 else 31) := by
  rcases hw with ⟨h1, h2⟩ | ⟨h1, h2⟩ <;> rw [h1, h2] <;> rfl
 refine HasP.ownE (a := [.str s]) (d := fn29) rfl rfl rfl (jT rfl) ?_
 apply jA
 apply jB
 apply jA
 apply jB
 apply jA
 apply jB
 refine CallK.of hr ?_
 apply jA
 apply jB
 refine yab (yae (E := envQ) (t := 25) (n := 1) k2 rfl) ?_
 refine yab (ybw (E := envQ) (t := 25) (n := 1) (v := .agg [v]) k1 rfl rfl rfl (by simp only [V.cells, List.all_cons, List.all_nil, hM.one.2, Bool.and_true]) (by decide)) ?_
 apply jH
 have hM2 : codM (g.set 1 (.cells 25 [v])) 5 v c := hM.keepG (KeepG.set (by decide) _ _)
 refine ⟨rfl, yab (res_ct (v := .agg [v]) (yae (E := envQ) (t := 25) (n := 1) (ybs k1) rfl)) ⟨_, ?_, rfl, rfl⟩⟩
 ·rw [← hw2]
  show (([.agg [v], w] : List V).mapM (Sb.fz envQ (g.set 1 (.cells 25 [v])) 11)).map V.tup = _
  have h1 : Sb.fz envQ (g.set 1 (.cells 25 [v])) 11 (.agg [v]) = some (codV c) := by
   show ([v].mapM (Sb.fz envQ (g.set 1 (.cells 25 [v])) 10)).map V.agg = _
   rw [yaf (ysu (k := 6) hM2) yan]; rfl
  rw [yaf h1 (yaf (yco (n := 10) (by rw [hw2]; rfl)) yan)]
  rfl
end Go.Proofs.YtekmafoicobphaaGreatDoor
