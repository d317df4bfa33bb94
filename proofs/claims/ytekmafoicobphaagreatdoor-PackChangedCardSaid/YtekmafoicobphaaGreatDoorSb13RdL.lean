/- Seat 13: rows in new blocks: one element more, by the block's number. -/
import Derived.Test.YtekmafoicobphaaGreatDoorSb13RdI
set_option linter.unusedVariables false
set_option linter.unusedSimpArgs false
namespace Go.Proofs.YtekmafoicobphaaGreatDoor
open Go.Sb
set_option maxRecDepth 100000
def InRowB (h : Heap) (T : TypeId) (e n : Nat) (v : V) (es : List V) : Prop :=
 (v = .nils ∧ es = []) ∨ ∃ b, n ≤ b ∧ v = .sl b 0 e es.length es.length (es.length * e) ∧ h[b]? = some (.cells T (es.flatMap V.cells)) ∧ es ≠ []
theorem InRowB.row {h : Heap} {T : TypeId} {e n : Nat} {v : V} {es : List V} (hr : InRowB h T e n v es) : InRow h T e v es := by
 rcases hr with h0 | ⟨b, _, h1, h2, h3⟩
 ·exact .inl h0
 ·exact .inr ⟨b, h1, h2, h3⟩
theorem InRowB.mono {h : Heap} {T : TypeId} {e n m : Nat} {v : V} {es : List V} (hr : InRowB h T e n v es) (hm : m ≤ n) : InRowB h T e m v es := by
 rcases hr with h0 | ⟨b, hb, h1⟩
 ·exact .inl h0
 ·exact .inr ⟨b, by omega, h1⟩
def KeepN (n b : Nat) (h g : Heap) : Prop := h.length ≤ g.length ∧ ∀ (i : Nat) (k : Blk), i < n → i ≠ b → h[i]? = some k → g[i]? = some k
theorem KeepN.refl (n b : Nat) (h : Heap) : KeepN n b h h := ⟨Nat.le_refl _, fun _ _ _ _ hk => hk⟩
theorem KeepN.trans {n b : Nat} {h g f : Heap} (h1 : KeepN n b h g) (h2 : KeepN n b g f) : KeepN n b h f :=
 ⟨Nat.le_trans h1.1 h2.1, fun i k hi hb hk => h2.2 i k hi hb (h1.2 i k hi hb hk)⟩
theorem KeepN.mono {n m b : Nat} {h g : Heap} (h1 : KeepN n b h g) (hm : m ≤ n) : KeepN m b h g := ⟨h1.1, fun i k hi hb hk => h1.2 i k (by omega) hb hk⟩
theorem KeepN.set (n b : Nat) (h : Heap) (x : Blk) : KeepN n b h (h.set b x) := ⟨by simp, fun i k _ hb hk => by rw [yau hb]; exact hk⟩
theorem InRowB.keep {h g : Heap} {T : TypeId} {e n m b : Nat} {v : V} {es : List V} (hr : InRowB h T e n v es) (hk : KeepN m b h g) (hm : h.length ≤ m) (hb : ∀ cs, h[b]? ≠ some (.cells T cs)) : InRowB g T e n v es := by
 rcases hr with h0 | ⟨i, hi, h1, h2, h3⟩
 ·exact .inl h0
 ·have hlt := (List.getElem?_eq_some_iff.1 h2).1
  exact .inr ⟨i, hi, h1, hk.2 i _ (by omega) (fun q => by subst q; exact hb _ h2) h2, h3⟩
theorem ykt {E : Env} {h : Heap} {e n : Nat} {t T : TypeId} {dt d : TyD} {v x c : V} {es : List V} (ht : E.ty t = some dt) (hu : dt.u = .slice T) (hT : E.ty T = some d) (hd : d.size = e) (he : 0 < e) (hn : n ≤ h.length) (hr : InRowB h T e n v es) (hl : (es.flatMap V.cells).length = es.length * e)
  (hx : contents h e x = some (1, c.cells)) (hroom : roomy d.bytes (es.length + 1) = true) : ∃ v' h', ycz E t v x h = some (v', h') ∧ InRowB h' T e n v' (es ++ [c]) ∧ h.length ≤ h'.length ∧ (∀ (i : Nat) (k : Blk), i < n → h[i]? = some k → h'[i]? = some k) ∧ KeepT T h h' := by
 have hne : ¬ d.size = 0 := by omega
 rcases hr with ⟨rfl, rfl⟩ | ⟨b, hbn, rfl, hb, h0⟩
 ·refine ⟨.sl h.length 0 e 1 1 (1 * e), push h (.cells T c.cells), ?_, .inr ⟨h.length, hn, by simp, ?_, by simp⟩, by simp [push], fun i k _ hi => yam hi, fun i k hi _ => yam hi⟩
  ·unfold ycz
   simp only [ht, Option.bind_some, hu, hT]
   rw [if_neg hne, hd, hx]
   simp only [Option.bind_some]
   rw [if_neg (by omega), if_pos (by simpa using hroom)]
  ·simp [push]
 ·skip
  have hca : yaz h b (es.length * e) = some (T, es.flatMap V.cells) := by simp [yaz, hb, hl]
  have hblt := (List.getElem?_eq_some_iff.1 hb).1
  refine ⟨.sl b 0 e (es.length + 1) (es.length + 1) ((es.length + 1) * e), h.set b (.cells T (es.flatMap V.cells ++ c.cells)), ?_, .inr ⟨b, hbn, by simp, ?_, by simp⟩, by simp, fun i k hi hk => ?_, fun i k hi hk => ?_⟩
  ·unfold ycz
   simp only [ht, Option.bind_some, hu, hT]
   rw [if_neg hne, hd, hx]
   simp only [Option.bind_some]
   rw [if_neg (by simp), hca]
   simp only [Option.bind_some]
   rw [if_neg (by simp), if_neg (by omega), if_pos hroom]
   rw [List.take_of_length_le (by rw [hl]; exact Nat.le_refl _)]
   simp
  ·simp [hblt]
  ·rw [yau (fun q => by omega)]; exact hk
  ·rw [yau (fun q => by subst q; rw [hb] at hi; cases hi; exact hk _ rfl)]; exact hi
theorem InRowB.push {h : Heap} {T : TypeId} {e n : Nat} {v : V} {es : List V} (hr : InRowB h T e n v es) (x : Blk) : InRowB (Sb.push h x) T e n v es := by
 rcases hr with h0 | ⟨i, hi, h1, h2, h3⟩
 ·exact .inl h0
 ·exact .inr ⟨i, hi, h1, yam h2, h3⟩
theorem flat_one {es : List V} (h : ∀ v ∈ es, v.cells.length = 1) : (es.flatMap V.cells).length = es.length * 1 := by
 induction es with
 | nil => rfl
 | cons a l ih => rw [List.flatMap_cons, List.length_append, ih fun v hv => h v (List.mem_cons_of_mem _ hv), h a List.mem_cons_self, List.length_cons]; omega
theorem app_intB {h : Heap} {n : Nat} {v : V} {l : List Int} (hr : InRowB h 3 1 n v (l.map intV)) (hn : n ≤ h.length) (c : Int) (hl : l.length ≤ 2 ^ 40) :
  ∃ v' g, ycz envQ 66 v (.sl h.length 0 1 1 1 1) (Sb.push h (.cells 3 [intV c])) = some (v', g) ∧ InRowB g 3 1 n v' ((l ++ [c]).map intV) ∧ h.length ≤ g.length ∧ ∀ (i : Nat) (k : Blk), i < n → h[i]? = some k → g[i]? = some k := by
 obtain ⟨v', g, a1, a2, a3, a4, a5⟩ := ykt (E := envQ) (t := 66) (T := 3) (e := 1) (n := n) (c := intV c) rfl rfl rfl rfl (by omega) (by simp [Sb.push]; omega) (hr.push (.cells 3 [intV c])) (flat_one fun v hv => by obtain ⟨z, _, rfl⟩ := List.mem_map.1 hv; rfl) (yic (n := 1) h 3 [intV c] rfl) (by simp [roomy, show ty3.bytes = 8 from rfl]; omega)
 refine ⟨v', g, a1, by rw [List.map_append]; exact a2, ?_, fun i k hi hk => a4 i k hi (yam hk)⟩
 simp [Sb.push] at a3; omega
end Go.Proofs.YtekmafoicobphaaGreatDoor

/- Seat 13: what a reader of something does: its contract. -/

namespace Go.Proofs.YtekmafoicobphaaGreatDoor
open Go.Sb
set_option maxRecDepth 100000
def rdK {α : Type} (h : Heap) (b : Nat) (u : List UInt8) (p : Option (α × Nat)) (val : Heap → Nat → V → α → Prop) (r : OpR) : Prop := match p with
 | some q => ∃ v g, r = .val v g ∧ val g h.length v q.1 ∧ KeepN h.length b h g ∧ g[b]? = some (rdr u (q.2 : Nat))
 | none => ∃ g, r = .pan yby g ∧ KeepN h.length b h g
def RdOK {α : Type} (f : FuncId) (p : List UInt8 → Nat → Option (α × Nat)) (val : Heap → Nat → V → α → Prop) : Prop :=
 ∀ (h : Heap) (b : Nat) (u : List UInt8) (i : Nat), h[b]? = some (rdr u i) → i ≤ u.length → u.length ≤ 2 ^ 38 → ∃ r, Has envQ .shared f [.ptr b 0 2] h r ∧ rdK h b u (p u i) val r
theorem RdOK.flat {α : Type} {f : FuncId} {p : List UInt8 → Nat → Option (α × Nat)} {vf : α → V}
  (h1 : ∀ (h : Heap) (b : Nat) (u : List UInt8) (i : Nat), h[b]? = some (rdr u i) → i ≤ u.length → u.length ≤ 2 ^ 38 → ∃ r, Has envQ .shared f [.ptr b 0 2] h r ∧ rdX h b u (p u i) vf r) : RdOK f p fun _ _ v x => v = vf x := fun h b u i hb hi hs => by
 obtain ⟨r, k1, k2⟩ := h1 h b u i hb hi hs
 refine ⟨r, k1, ?_⟩
 unfold rdX at k2
 unfold rdK
 cases hq : p u i with
 | some q => rw [hq] at k2; exact ⟨_, _, k2, rfl, KeepN.set _ _ _ _, ybs hb⟩
 | none => rw [hq] at k2; obtain ⟨k, k2⟩ := k2; exact ⟨_, k2, KeepN.set _ _ _ _⟩
theorem num_ok : RdOK 40 pNat fun _ _ v x => v = .int .i64 x := .flat fun _ _ _ _ hb hi hs => ygf hb hi hs
theorem int_ok : RdOK 113 pInt fun _ _ v x => v = .int .i64 x := .flat fun _ _ _ _ hb hi hs => int_rd hb hi hs
theorem txt_ok : RdOK 83 pTxt fun _ _ v x => v = .str x := .flat fun _ _ _ _ hb hi hs => txt_rd hb hi hs
theorem ysh : RdOK 61 pByte fun _ _ v x => v = .int .i64 x := .flat fun h b u i hb hi hs => by
 unfold rdX pByte
 cases hc : u[i]? with
 | some c => exact ⟨_, yrf hb hc (by omega), rfl⟩
 | none =>
  refine ⟨_, yrg hb (List.getElem?_eq_none_iff.1 hc), i, ?_⟩
  show OpR.pan _ _ = _
  congr 1
  have hlt := (List.getElem?_eq_some_iff.1 hb).1
  apply List.ext_getElem?
  intro n
  by_cases e : b = n
  ·subst e; rw [hb, List.getElem?_set_self hlt]
  ·rw [List.getElem?_set_ne e]
theorem yku {u : List UInt8} {i : Nat} (h : pNat u i = none) : pLen u i = none := by unfold pLen; rw [h]; rfl
theorem yfg {u : List UInt8} {i n j : Nat} (h : pNat u i = some (n, j)) : pLen u i = if n + j ≤ u.length then some (n, j) else none := by unfold pLen; rw [h]; rfl
end Go.Proofs.YtekmafoicobphaaGreatDoor

/- Seat 13: the readers of lists. -/

namespace Go.Proofs.YtekmafoicobphaaGreatDoor
open Go.Sb
set_option maxRecDepth 100000
def rlR {α : Type} (T : TypeId) (e : Nat) (fs : Heap → List α → List V → Prop) (h : Heap) (b : Nat) (u : List UInt8) (p : Option (Option (List α) × Nat)) (r : OpR) : Prop := match p with
 | some q => ∃ v g l es, r = .val v g ∧ q.1 = optOf l ∧ InRowB g T e h.length v es ∧ fs g l es ∧ KeepN h.length b h g ∧ g[b]? = some (rdr u (q.2 : Nat))
 | none => ∃ g, r = .pan yby g ∧ KeepN h.length b h g
def rlintI (h0 : Heap) (b : Nat) (u : List UInt8) (F : V) (j n : Nat) (k : Nat) (s : List V) (h : Heap) : Prop :=
 ∃ (i j2 : Nat) (z : Int) (o : V) (l : List Int), (i + k = n ∧ z = i ∧ InRowB h 3 1 h0.length o (l.map intV) ∧ KeepN h0.length b h0 h ∧ h[b]? = some (rdr u (j2 : Nat)) ∧ j2 ≤ u.length ∧ l.length = i ∧ pRep (pInt u) n j = (pRep (pInt u) k j2).map fun q => (l ++ q.1, q.2)) ∧ s.length = 36 ∧ s.getD 0 und = und ∧ s.getD 1 und = .ptr b 0 2 ∧ s.getD 2 und = F ∧ s.getD 5 und = .nils ∧ s.getD 7 und = o ∧ s.getD 25 und = .int .i64 n ∧ s.getD 26 und = .int .i64 z
theorem yxo {h0 : Heap} {b : Nat} {u : List UInt8} {F : V} {j n : Nat} {k : Nat} {s : List V} {h : Heap} (hI : rlintI h0 b u F j n k s h) : ∃ (i j2 : Nat) (z : Int) (o : V) (l : List Int) (x : Nat → V), (i + k = n ∧ z = i ∧ InRowB h 3 1 h0.length o (l.map intV) ∧ KeepN h0.length b h0 h ∧ h[b]? = some (rdr u (j2 : Nat)) ∧ j2 ≤ u.length ∧ l.length = i ∧ pRep (pInt u) n j = (pRep (pInt u) k j2).map fun q => (l ++ q.1, q.2)) ∧
  s = [und, .ptr b 0 2, F, x 3, x 4, .nils, x 6, o, x 8, x 9, x 10, x 11, x 12, x 13, x 14, x 15, x 16, x 17, x 18, x 19, x 20, x 21, x 22, x 23, x 24, .int .i64 n, .int .i64 z, x 27, x 28, x 29, x 30, x 31, x 32, x 33, x 34, x 35] := by
 obtain ⟨i, j2, z, o, l, hF, hl, e0, e1, e2, e5, e7, e25, e26⟩ := hI
 refine ⟨i, j2, z, o, l, fun n => s.getD n und, hF, (ybd hl).trans ?_⟩
 simp only [List.range, List.range.loop, List.map_cons, List.map_nil]
 rw [e0, e1, e2, e5, e7, e25, e26]
set_option maxHeartbeats 4000000 in
theorem yxp {h : Heap} {b : Nat} {u : List UInt8} {i : Nat} (hb : h[b]? = some (rdr u i)) (hi : i ≤ u.length) (hs : u.length ≤ 2 ^ 38) : ∃ r, Has envQ .shared 114 [.ptr b 0 2, .bm 113 [.ptr b 0 2]] h r ∧ rlR 3 1 (fun _ l es => es = l.map intV) h b u (pLst (pInt u) u i) r := by
 obtain ⟨r, hr, hR⟩ := ygf hb hi hs
 refine HasP.sharedX (d := fn114) rfl (jT rfl) ?_
 unfold rdX at hR
 have hnone : ∀ g, pLst (pInt u) u i = none → KeepN h.length b h g → rlR 3 1 (fun _ l es => es = l.map intV) h b u (pLst (pInt u) u i) (.pan yby g) := fun g hp hk => by
  rw [hp]; exact ⟨g, rfl, hk⟩
 apply jA
 apply jB
 apply jA
 cases hd : pNat u i with
 | none =>
  rw [hd] at hR
  obtain ⟨k, rfl⟩ := hR
  refine RunP.regionP 1 (CallP.of hr ?_)
  exact ⟨rfl, hnone _ (by unfold pLst; rw [yku hd]; rfl) (KeepN.set _ _ _ _)⟩
 | some p =>
  have hle := yhf hd
  have hj := (ycx u [] i p hi hd).2.2
  rw [hd] at hR
  simp only at hR
  subst hR
  obtain ⟨n, j⟩ := p
  simp only at hle hr hj ⊢
  have hb1 : (h.set b (rdr u (j : Nat)))[b]? = some (rdr u (j : Nat)) := ybs hb
  apply jB
  refine CallK.of hr ?_
  apply jA
  have ew : IntKind.i64.wrap ((u.length : Int) - (j : Int)) = ((u.length - j : Nat) : Int) := by rw [wrapS (by omega) (by omega)]; omega
  by_cases hfit : n + j ≤ u.length
  case neg =>
   apply RunP.drawnP
   ·decide +kernel
   refine yab (yae (E := envQ) (t := 9) (n := 2) hb1 rfl) ?_
   refine yab (yae (E := envQ) (t := 3) (n := 2) hb1 rfl) ?_
   refine jI (fun h0 => by rw [ew] at h0; omega) (fun _ => ?_)
   refine drawZ (by decide +kernel) (by decide +kernel) ?_
   refine jI ⟨rfl, by decide +kernel⟩ (CallP.of (ydw _ _) ?_)
   exact ⟨rfl, hnone _ (by unfold pLst; rw [yfg hd, if_neg hfit]; rfl) (KeepN.set _ _ _ _)⟩
  have hpl : pLst (pInt u) u i = (pRep (pInt u) n j).map fun q => (optOf q.1, q.2) := by
   unfold pLst; rw [yfg hd, if_pos hfit]; rfl
  have hval : ∀ v g l j2, pRep (pInt u) n j = some (l, j2) → InRowB g 3 1 h.length v (l.map intV) → KeepN h.length b h g → g[b]? = some (rdr u (j2 : Nat)) → rlR 3 1 (fun _ l es => es = l.map intV) h b u (pLst (pInt u) u i) (.val v g) := fun v g l j2 hp hr hk hb => by
   rw [hpl, hp]; exact ⟨v, g, l, _, rfl, rfl, hr, rfl, hk, hb⟩
  have hno2 : ∀ g, pRep (pInt u) n j = none → KeepN h.length b h g → rlR 3 1 (fun _ l es => es = l.map intV) h b u (pLst (pInt u) u i) (.pan yby g) := fun g hp hk => hnone g (by rw [hpl, hp]; rfl) hk
  clear hnone
  generalize rlR 3 1 (fun _ l es => es = l.map intV) h b u (pLst (pInt u) u i) = PR at hval hno2 ⊢
  apply RunP.drawn
  ·decide +kernel
  refine yab (yae (E := envQ) (t := 9) (n := 2) hb1 rfl) ?_
  refine yab (yae (E := envQ) (t := 3) (n := 2) hb1 rfl) ?_
  refine jI (fun _ => ?_) (fun h0 => by rw [ew] at h0; omega)
  refine drawZ (by decide +kernel) (by decide +kernel) ?_
  refine CallK.of (ydi _ _) ?_
  refine drawW (by decide +kernel) (by kernel_rfl) ?_
  apply jA
  apply jB
  apply jA
  apply jA
  apply jB
  apply jF
  refine RunP.loop (rlintI h b u (.bm 113 [.ptr b 0 2]) j n) ?_ n ⟨0, j, _, _, [], ⟨by omega, rfl, .inl ⟨rfl, rfl⟩, KeepN.set _ _ _ _, hb1, hj, rfl, by cases pRep (pInt u) n j <;> rfl⟩, rfl, rfl, rfl, rfl, rfl, rfl, rfl, rfl⟩
  intro k st g hI
  obtain ⟨m, j2, z, o, l, x, ⟨hmk, hz, hrow, hkp, hbg, hj2, hll, hpr⟩, rfl⟩ := yxo hI
  clear hI
  subst hz
  apply jA
  apply jB
  refine jI (fun hlt => ?_) (fun hge => ?_)
  case' refine_2 =>
   apply jA
   apply jD rfl
   apply jG
   apply jA
   apply jB
   apply jH
   obtain rfl : k = 0 := by omega
   exact ⟨rfl, hval _ _ l j2 (by rw [hpr]; simp [pRep]) hrow hkp hbg⟩
  apply jA
  apply jC rfl
  apply jE
  apply jA
  apply jF
  apply jA
  obtain ⟨r1, hr1, hR1⟩ := int_ok g b u j2 hbg hj2 hs
  obtain ⟨k, rfl⟩ : ∃ k', k = k' + 1 := ⟨k - 1, by omega⟩
  unfold rdK at hR1
  cases hd1 : pInt u j2 with
  | none =>
   rw [hd1] at hR1
   obtain ⟨g1, rfl, hk1⟩ := hR1
   refine RunP.regionP 1 (CallP.of hr1 ?_)
   exact ⟨rfl, hno2 _ (by rw [hpr]; unfold pRep; rw [hd1]; rfl) (hkp.trans (hk1.mono hkp.1))⟩
  | some q =>
   rw [hd1] at hR1
   obtain ⟨v1, g1, rfl, rfl, hk1, hb2⟩ := hR1
   have hj3 := (yfb u [] j2 q hj2 hd1).2.2
   apply jB
   refine CallK.of hr1 ?_
   apply jB
   have hrow1 := hrow.keep hk1 (Nat.le_refl _) (fun cs e => by rw [hbg] at e; simp [rdr] at e)
   obtain ⟨v', g2, a1, a2, a3, a4⟩ := app_intB hrow1 (Nat.le_trans hkp.1 hk1.1) q.1 (by omega)
   refine ycn (congrArg valH a1) ?_
   apply jB
   have hblt := (List.getElem?_eq_some_iff.1 hb).1
   refine ⟨k, by omega, m + 1, q.2, _, v', l ++ [q.1], ⟨by omega, ycp m (by omega), a2, (hkp.trans (hk1.mono hkp.1)).trans ⟨by omega, fun i k hi _ hk => a4 i k hi hk⟩, a4 b _ hblt hb2, hj3, by simp [hll], ?_⟩, rfl, rfl, rfl, rfl, rfl, rfl, rfl, rfl⟩
   rw [hpr]
   conv => lhs; unfold pRep
   rw [hd1]
   simp only [Option.bind_some, Option.map_map]
   congr 1
   funext w
   simp [Function.comp]
end Go.Proofs.YtekmafoicobphaaGreatDoor
