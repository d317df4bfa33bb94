/- Seat 13: the reader of a guard. -/
import Derived.Test.YtekmafoicobphaaGreatDoorSb13RdL
set_option linter.unusedVariables false
set_option linter.unusedSimpArgs false
namespace Go.Proofs.YtekmafoicobphaaGreatDoor
open Go.Sb
set_option maxRecDepth 100000
theorem res_c {E : Env} {s : List V} {h : Heap} {a t : Nat} {v : V} (hl : yde E t (getT s a) h = some v) : ybp E [.cell a t] s h = some v := by
 simp [ybp, yey, hl]
theorem ykv {h : Heap} {x : Blk} {m : Nat} (hm : m = h.length) : (Sb.push h x)[m]? = some x := by subst hm; exact ydh h x
def gz : List V := [.int .i64 0, .int .i64 0, .int .i64 0, .int .i64 0]
def gcells (l : List Nat) : List V := (l.map fun (x : Nat) => V.int .i64 x) ++ List.replicate (4 - l.length) (.int .i64 0)
def gps (c : Nat) : List V := [.ptr c 0 4, .ptr c 1 4, .ptr c 2 4, .ptr c 3 4]
def rgI (h0 : Heap) (b : Nat) (u : List UInt8) (j : Nat) (k : Nat) (s : List V) (h : Heap) : Prop :=
 ∃ (i j2 : Nat) (z : Int) (l : List Nat), (i + k = 4 ∧ z = i ∧ l.length = i ∧ KeepN h0.length b h0 h ∧ h[b]? = some (rdr u (j2 : Nat)) ∧ j2 ≤ u.length ∧ h[h0.length]? = some (.cells 70 gz) ∧ h[h0.length + 1]? = some (.cells 70 (gcells l)) ∧ h[h0.length + 2]? = some (.cells 138 (gps (h0.length + 1))) ∧ pRep (pNat u) 4 j = (pRep (pNat u) k j2).map fun q => (l ++ q.1, q.2)) ∧ s.length = 25 ∧ s.getD 0 und = und ∧ s.getD 1 und = .ptr b 0 2 ∧ s.getD 3 und = .ptr h0.length 0 4 ∧ s.getD 4 und = .ptr (h0.length + 1) 0 4 ∧ s.getD 12 und = .sl (h0.length + 2) 0 1 4 4 4 ∧ s.getD 13 und = .int .i64 4 ∧ s.getD 14 und = .int .i64 z
theorem rgI_lit {h0 : Heap} {b : Nat} {u : List UInt8} {j : Nat} {k : Nat} {s : List V} {h : Heap} (hI : rgI h0 b u j k s h) : ∃ (i j2 : Nat) (z : Int) (l : List Nat) (x : Nat → V), (i + k = 4 ∧ z = i ∧ l.length = i ∧ KeepN h0.length b h0 h ∧ h[b]? = some (rdr u (j2 : Nat)) ∧ j2 ≤ u.length ∧ h[h0.length]? = some (.cells 70 gz) ∧ h[h0.length + 1]? = some (.cells 70 (gcells l)) ∧ h[h0.length + 2]? = some (.cells 138 (gps (h0.length + 1))) ∧ pRep (pNat u) 4 j = (pRep (pNat u) k j2).map fun q => (l ++ q.1, q.2)) ∧
  s = [und, .ptr b 0 2, x 2, .ptr h0.length 0 4, .ptr (h0.length + 1) 0 4, x 5, x 6, x 7, x 8, x 9, x 10, x 11, .sl (h0.length + 2) 0 1 4 4 4, .int .i64 4, .int .i64 z, x 15, x 16, x 17, x 18, x 19, x 20, x 21, x 22, x 23, x 24] := by
 obtain ⟨i, j2, z, l, hF, hl, e0, e1, e3, e4, e12, e13, e14⟩ := hI
 refine ⟨i, j2, z, l, fun n => s.getD n und, hF, (ybd hl).trans ?_⟩
 simp only [List.range, List.range.loop, List.map_cons, List.map_nil]
 rw [e0, e1, e3, e4, e12, e13, e14]
def toGrd : List Nat → Grd
 | [a, b, c, d] => ⟨a, b, c, d⟩
 | _ => ⟨0, 0, 0, 0⟩
theorem ysi (u : List UInt8) (j : Nat) : pGrd u j = (pRep (pNat u) 4 j).map fun q => (toGrd q.1, q.2) := by
 simp only [pGrd, pRep]
 cases pNat u j with
 | none => rfl
 | some a =>
  simp only [Option.bind_some]
  cases pNat u a.2 with
  | none => rfl
  | some b =>
   simp only [Option.bind_some]
   cases pNat u b.2 with
   | none => rfl
   | some c =>
    simp only [Option.bind_some]
    cases pNat u c.2 with
    | none => rfl
    | some d => rfl
set_option maxHeartbeats 4000000 in
theorem grd_ok : RdOK 87 pGrd fun _ _ v x => v = grdV x := fun h b u j hb hj hs => by
 have hblt := (List.getElem?_eq_some_iff.1 hb).1
 have hval : ∀ g l j2, pRep (pNat u) 4 j = some (l, j2) → l.length = 4 → KeepN h.length b h g → g[b]? = some (rdr u (j2 : Nat)) → rdK h b u (pGrd u j) (fun _ _ v x => v = grdV x) (.val (.agg (gcells l)) g) := fun g l j2 hp hl hk hb => by
  obtain ⟨x0, x1, x2, x3, rfl⟩ : ∃ x0 x1 x2 x3, l = [x0, x1, x2, x3] := by
   match l, hl with
   | [x0, x1, x2, x3], _ => exact ⟨_, _, _, _, rfl⟩
  unfold rdK
  rw [ysi, hp]
  exact ⟨_, g, rfl, rfl, hk, hb⟩
 have hno : ∀ g, pRep (pNat u) 4 j = none → KeepN h.length b h g → rdK h b u (pGrd u j) (fun _ _ v x => v = grdV x) (.pan yby g) := fun g hp hk => by
  unfold rdK
  rw [ysi, hp]
  exact ⟨g, rfl, hk⟩
 refine HasP.sharedX (d := fn87) rfl (jT rfl) ?_
 generalize rdK h b u (pGrd u j) (fun _ _ v x => v = grdV x) = PR at hval hno ⊢
 apply jA
 apply jB
 apply jA
 apply jB
 apply jA
 apply jA
 apply jB
 apply jF
 have e1 : ∀ (h : Heap) (x : Blk), (Sb.push h x).length = h.length + 1 := fun h x => by simp [Sb.push]
 simp only [e1]
 refine RunP.loop (rgI h b u j) ?_ 4 ⟨0, j, _, [], ⟨rfl, rfl, rfl, ⟨by simp only [e1]; omega, fun i k hi _ hk => yam (yam (yam hk))⟩, yam (yam (yam hb)), hj, yam (yam (ydh h _)), yam (ykv (by simp only [e1])), ykv (by simp only [e1]), by cases pRep (pNat u) 4 j <;> rfl⟩, rfl, rfl, rfl, rfl, rfl, rfl, rfl, rfl⟩
 intro k st g hI
 obtain ⟨i, j2, z, l, x, ⟨hik, hz, hll, hkp, hbg, hj2, ha, hc, hd, hpr⟩, rfl⟩ := rgI_lit hI
 clear hI
 subst hz
 apply jA
 apply jB
 refine jI (fun hlt => ?_) (fun hge => ?_)
 case' refine_2 =>
  apply jA
  apply jD rfl
  apply jG
  obtain rfl : k = 0 := by omega
  have hl4 : l.length = 4 := by omega
  obtain ⟨x0, x1, x2, x3, rfl⟩ : ∃ x0 x1 x2 x3, l = [x0, x1, x2, x3] := by
   match l, hl4 with
   | [x0, x1, x2, x3], _ => exact ⟨_, _, _, _, rfl⟩
  apply jA
  apply jB
  refine yab (yae (E := envQ) (t := 70) (n := 4) hc rfl) ?_
  refine yab (ybw (E := envQ) (t := 70) (n := 4) ha rfl rfl rfl rfl (by decide)) ?_
  apply jH
  refine ⟨rfl, yab (res_c (yae (E := envQ) (t := 70) (n := 4) (ybs ha) rfl)) ?_⟩
  have hp4 := hpr
  simp only [pRep, Option.map_some, List.append_nil] at hp4
  refine hval _ _ j2 hp4 rfl (hkp.trans ⟨by simp, fun i k hi _ hk => by rw [yau (by omega)]; exact hk⟩) ?_
  rw [yau (by omega)]; exact hbg
 apply jA
 apply jC rfl
 apply jE
 apply jA
 apply jF
 apply jA
 apply jB
 obtain ⟨k, rfl⟩ : ∃ k', k = k' + 1 := ⟨k - 1, by omega⟩
 have hcase : (i = 0 ∧ l = []) ∨ (∃ x0, i = 1 ∧ l = [x0]) ∨ (∃ x0 x1, i = 2 ∧ l = [x0, x1]) ∨ (∃ x0 x1 x2, i = 3 ∧ l = [x0, x1, x2]) := by
  match l, hll with
  | [], q => exact .inl ⟨q.symm, rfl⟩
  | [x0], q => exact .inr (.inl ⟨x0, q.symm, rfl⟩)
  | [x0, x1], q => exact .inr (.inr (.inl ⟨x0, x1, q.symm, rfl⟩))
  | [x0, x1, x2], q => exact .inr (.inr (.inr ⟨x0, x1, x2, q.symm, rfl⟩))
  | x0 :: x1 :: x2 :: x3 :: l, q => simp at q; omega
 obtain ⟨r1, hr1, hR1⟩ := num_ok g b u j2 hbg hj2 hs
 unfold rdK at hR1
 have hnx : ∀ q, pNat u j2 = some q → pRep (pNat u) 4 j = (pRep (pNat u) k q.2).map fun w => ((l ++ [q.1]) ++ w.1, w.2) := fun q hq => by
  rw [hpr]
  conv => lhs; unfold pRep
  rw [hq]
  simp only [Option.bind_some, Option.map_map]
  congr 1
  funext w
  simp [Function.comp]
 have hnn : pNat u j2 = none → pRep (pNat u) 4 j = none := fun hq => by rw [hpr]; unfold pRep; rw [hq]; rfl
 clear hpr
 rcases hcase with ⟨rfl, rfl⟩ | ⟨x0, rfl, rfl⟩ | ⟨x0, x1, rfl, rfl⟩ | ⟨x0, x1, x2, rfl, rfl⟩
 all_goals
  refine jI (by decide) (jI rfl ?_)
  refine yab (yae (E := envQ) (t := 138) (n := 4) hd rfl) ?_
  apply jA
  cases hd1 : pNat u j2 with
  | none =>
   rw [hd1] at hR1
   obtain ⟨g1, rfl, hk1⟩ := hR1
   refine RunP.regionP 1 (CallP.of hr1 ?_)
   exact ⟨rfl, hno _ (hnn hd1) (hkp.trans (hk1.mono hkp.1))⟩
  | some q =>
   rw [hd1] at hR1
   obtain ⟨v1, g1, rfl, rfl, hk1, hb2⟩ := hR1
   have hj3 := (ycx u [] j2 q hj2 hd1).2.2
   have hlg : h.length + 2 < g.length := (List.getElem?_eq_some_iff.1 hd).1
   have ha1 := hk1.2 _ _ (by omega) (by omega) ha
   have hc1 := hk1.2 _ _ (by omega) (by omega) hc
   have hd1' := hk1.2 _ _ (by omega) (by omega) hd
   apply jB
   refine CallK.of hr1 ?_
   apply jB
   refine yab (ybw (E := envQ) (t := 3) (n := 4) hc1 rfl rfl rfl rfl (by decide)) ?_
   apply jB
   refine ⟨k, by omega, _, q.2, _, _, ⟨?_, rfl, rfl, (hkp.trans (hk1.mono hkp.1)).trans ⟨by simp, fun i k hi _ hk => by rw [yau (by omega)]; exact hk⟩, by rw [yau (by omega)]; exact hb2, hj3, by rw [yau (by omega)]; exact ha1, ybs hc1, by rw [yau (by omega)]; exact hd1', hnx q hd1⟩, rfl, rfl, rfl, rfl, rfl, rfl, rfl, rfl⟩
   simp only [List.length_append, List.length_cons, List.length_nil]; omega
end Go.Proofs.YtekmafoicobphaaGreatDoor
