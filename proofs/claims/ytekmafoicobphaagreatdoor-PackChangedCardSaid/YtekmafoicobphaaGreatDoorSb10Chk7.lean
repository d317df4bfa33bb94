/- Codes: Check. -/
import Derived.Test.YtekmafoicobphaaGreatDoorSb10Chk6
set_option linter.unusedVariables false
set_option linter.unusedSimpArgs false
namespace Go.Proofs.YtekmafoicobphaaGreatDoor
open Go.Sb
set_option maxRecDepth 100000
theorem yik {E : Env} {md : Go.FuncId → Sb.Mode} {o : ROp} {os : List ROp} {s : List V} {h : Heap} {K : List V → Heap → Prop} {a0 a1 a2 a3 a4 a5 a6 a7 a8 a9 a10 a11 a12 a13 a14 a15 a16 a17 a18 a19 a20 a21 a22 a23 a24 a25 a26 a27 a28 a29 a30 a31 a32 a33 a34 a35 a36 a37 a38 a39 a40 : V} {t : Go.Tmp} {w b : Bool} (hn : yag E md os [a0, a1, a2, a3, a4, a5, a6, a7, a8, a9, a10, a11, a12, a13, a14, a15, a16, a17, a18, a19, a20, a21, a22, a23, a24, a25, a26, a27, a28, a29, a30, a31, a32, a33, a34, a35, a36, a37, a38, a39, a40] h K) (hg : o.gd = some (t, w) := by rfl) (hb : getT s t = .bool b := by rfl) (hw : b = !w := by rfl) (hs : putT s o.dst und = [a0, a1, a2, a3, a4, a5, a6, a7, a8, a9, a10, a11, a12, a13, a14, a15, a16, a17, a18, a19, a20, a21, a22, a23, a24, a25, a26, a27, a28, a29, a30, a31, a32, a33, a34, a35, a36, a37, a38, a39, a40] := by rfl) : yag E md (o :: os) s h K := yet hg hb hw hs hn
theorem ybr {E : Env} {md : Go.FuncId → Sb.Mode} {o : ROp} {os : List ROp} {s : List V} {h g : Heap} {v : V} {K : List V → Heap → Prop} {a0 a1 a2 a3 a4 a5 a6 a7 a8 a9 a10 a11 a12 a13 a14 a15 a16 a17 a18 a19 a20 a21 a22 a23 a24 a25 a26 a27 a28 a29 a30 a31 a32 a33 a34 a35 a36 a37 a38 a39 a40 : V} (hn : yag E md os [a0, a1, a2, a3, a4, a5, a6, a7, a8, a9, a10, a11, a12, a13, a14, a15, a16, a17, a18, a19, a20, a21, a22, a23, a24, a25, a26, a27, a28, a29, a30, a31, a32, a33, a34, a35, a36, a37, a38, a39, a40] g K) (hop : ∀ K : V → Heap → Prop, K v g → runOp E md o.op s h K := by exact fun _ => id) (hg : o.gd = none := by rfl) (hs : putT s o.dst v = [a0, a1, a2, a3, a4, a5, a6, a7, a8, a9, a10, a11, a12, a13, a14, a15, a16, a17, a18, a19, a20, a21, a22, a23, a24, a25, a26, a27, a28, a29, a30, a31, a32, a33, a34, a35, a36, a37, a38, a39, a40] := by rfl) : yag E md (o :: os) s h K := ybe hg hop hs hn
theorem ydk {E : Env} {md : Go.FuncId → Sb.Mode} {o : ROp} {os : List ROp} {s : List V} {h g : Heap} {v : V} {K : List V → Heap → Prop} {a0 a1 a2 a3 a4 a5 a6 a7 a8 a9 a10 a11 a12 a13 a14 a15 a16 a17 a18 a19 a20 a21 a22 a23 a24 a25 a26 a27 a28 a29 a30 a31 a32 a33 a34 a35 a36 a37 a38 a39 a40 : V} {t : Go.Tmp} {w : Bool} (hn : yag E md os [a0, a1, a2, a3, a4, a5, a6, a7, a8, a9, a10, a11, a12, a13, a14, a15, a16, a17, a18, a19, a20, a21, a22, a23, a24, a25, a26, a27, a28, a29, a30, a31, a32, a33, a34, a35, a36, a37, a38, a39, a40] g K) (hop : ∀ K : V → Heap → Prop, K v g → runOp E md o.op s h K := by exact fun _ => id) (hg : o.gd = some (t, w) := by rfl) (hb : getT s t = .bool w := by rfl) (hs : putT s o.dst v = [a0, a1, a2, a3, a4, a5, a6, a7, a8, a9, a10, a11, a12, a13, a14, a15, a16, a17, a18, a19, a20, a21, a22, a23, a24, a25, a26, a27, a28, a29, a30, a31, a32, a33, a34, a35, a36, a37, a38, a39, a40] := by rfl) : yag E md (o :: os) s h K := yes hg hb hop hs hn
abbrev LFnc := List Fnc
def CodOk (c : Cod) : Prop := lenO c ≤ 2 ^ 50 ∧ ∀ f ∈ c.getD [], f.nm.length ≤ 2 ^ 50 ∧ lenO f.gd ≤ 2 ^ 50 ∧ ∀ x ∈ f.cd.getD [], lenO x.l ≤ 2 ^ 50 ∧ x.s.length ≤ 2 ^ 50
def codV (c : Cod) : V := .agg [optL 5 fncV c]
noncomputable def chkB (c : Cod) (L : List Fnc) : Nat → Bool
 | 0 => true
 | n + 1 => chkB c L n && match L[n]? with | some f => !(!((L.take n).all (fun x => (!decide (x.nm = f.nm))))) && fnB c f | none => true
theorem yrv {c : Cod} {L : List Fnc} {i : Nat} {f : Fnc} (hf : L[i]? = some f) (hr : (!(!((L.take i).all (fun x => (!decide (x.nm = f.nm))))) && fnB c f) = false) : ∀ n, i < n → chkB c L n = false
 | n + 1, h => by
  rw [chkB]
  by_cases e : i = n
  ·subst e; rw [hf]; simp only; rw [hr, Bool.and_false]
  ·rw [yrv hf hr n (by omega), Bool.false_and]
noncomputable def ycy (c : Cod) : Bool := decide (1 ≤ (lenO c : Int) ∧ (lenO c : Int) ≤ 16) && chkB c (c.getD []) (lenO c)
theorem yrw (c : Cod) (f : Fnc) : yiu envQ 97 [(0, .agg [optL 5 fncV c]), (1, .agg f.cells)] = some (.agg (ckC c f)) := by
 obtain ⟨nm, p, s, cd, gd⟩ := f
 cases c <;> cases cd <;> cases gd <;> rfl
def kzI (b : Bool) (k : Nat) (s : List V) (h : Heap) : Prop :=
 ∃ (u : Nat), (u = 0) ∧ s.length = 41 ∧ s.getD 0 und = und ∧ s.getD 2 und = .ptr 0 0 1 ∧ s.getD 3 und = .int .i64 0 ∧ s.getD 4 und = .bool b ∧ s.getD 13 und = .nils ∧ s.getD 14 und = .int .i64 0 ∧ s.getD 15 und = .int .i64 0
theorem kzI_lit {b : Bool} {k : Nat} {s : List V} {h : Heap} (hI : kzI b k s h) : ∃ (u : Nat) (x : Nat → V), (u = 0) ∧
  s = [und, x 1, .ptr 0 0 1, .int .i64 0, .bool b, x 5, x 6, x 7, x 8, x 9, x 10, x 11, x 12, .nils, .int .i64 0, .int .i64 0, x 16, x 17, x 18, x 19, x 20, x 21, x 22, x 23, x 24, x 25, x 26, x 27, x 28, x 29, x 30, x 31, x 32, x 33, x 34, x 35, x 36, x 37, x 38, x 39, x 40] := by
 obtain ⟨u, hF, hl, e0, e2, e3, e4, e13, e14, e15⟩ := hI
 refine ⟨u, fun n => s.getD n und, hF, (ybd hl).trans ?_⟩
 simp only [List.range, List.range.loop, List.map_cons, List.map_nil]
 rw [e0, e2, e3, e4, e13, e14, e15]
def kaI (L : LFnc) (b0 : Bool) (k : Nat) (s : List V) (h : Heap) : Prop :=
 ∃ (i : Nat) (z : Int), (i + k = L.length ∧ z = i ∧ chkB (some L) L i = true ∧ h[0]? = some (.cells 25 [optL 5 fncV (some L)])) ∧ s.length = 41 ∧ s.getD 0 und = und ∧ s.getD 2 und = .ptr 0 0 1 ∧ s.getD 3 und = .int .i64 0 ∧ s.getD 4 und = .bool b0 ∧ s.getD 13 und = .lst 5 (L.map fncV) ∧ s.getD 14 und = .int .i64 (L.map fncV).length ∧ s.getD 15 und = .int .i64 z
theorem kaI_lit {L : LFnc} {b0 : Bool} {k : Nat} {s : List V} {h : Heap} (hI : kaI L b0 k s h) : ∃ (i : Nat) (z : Int) (x : Nat → V), (i + k = L.length ∧ z = i ∧ chkB (some L) L i = true ∧ h[0]? = some (.cells 25 [optL 5 fncV (some L)])) ∧
  s = [und, x 1, .ptr 0 0 1, .int .i64 0, .bool b0, x 5, x 6, x 7, x 8, x 9, x 10, x 11, x 12, .lst 5 (L.map fncV), .int .i64 (L.map fncV).length, .int .i64 z, x 16, x 17, x 18, x 19, x 20, x 21, x 22, x 23, x 24, x 25, x 26, x 27, x 28, x 29, x 30, x 31, x 32, x 33, x 34, x 35, x 36, x 37, x 38, x 39, x 40] := by
 obtain ⟨i, z, hF, hl, e0, e2, e3, e4, e13, e14, e15⟩ := hI
 refine ⟨i, z, fun n => s.getD n und, hF, (ybd hl).trans ?_⟩
 simp only [List.range, List.range.loop, List.map_cons, List.map_nil]
 rw [e0, e2, e3, e4, e13, e14, e15]
set_option maxHeartbeats 16000000 in
theorem yrx (h : Heap) (c : Cod) (hok : CodOk c) : Has envQ .own 41 [codV c] h (.val (.int .i64 (if ycy c = true then 0 else 30)) h) := by
 suffices hz : ∃ v, Has envQ .own 41 [codV c] h (.val v h) ∧ v = .int .i64 (if ycy c = true then 0 else 30) by
  obtain ⟨v, h1, rfl⟩ := hz; exact h1
 refine HasP.ownE (a := [codV c]) (d := fn41) (yaf (fz_ag (by simp only [List.all_cons, List.all_nil, yck]; rfl)) yan) rfl rfl (jT rfl) ?_
 apply jA
 apply jB
 refine ydu (by simp only [List.all_cons, List.all_nil, yck]; rfl) ?_
 refine RunP.scope ?_
 apply jA
 apply jB
 refine ybh rfl rfl ?_
 obtain ⟨b0, e0⟩ : ∃ w, decide (1 ≤ (lenO c : Int) ∧ (lenO c : Int) ≤ 16) = w := ⟨_, rfl⟩
 have hW := ydd [.cells 25 [optL 5 fncV c]] (lenO c) 1 16
 rw [e0] at hW
 have hv : ycy c = (b0 && chkB c (c.getD []) (lenO c)) := by unfold ycy; rw [e0]
 rw [hv]
 refine CallK.of hW ?_
 clear hW hv
 cases c with
 | none =>
  have : b0 = false := by rw [← e0]; rfl
  subst this
  repeat first|apply jZ|apply jA|apply RunP.scope|apply RunP.label
  refine jR _ ?_
  iterate 4 (refine ybr ?_)
  repeat first|apply jZ|apply jA|apply RunP.scope|apply RunP.label
  refine RunP.loop (kzI false) ?_ 0 ⟨0, rfl, rfl, rfl, rfl, rfl, rfl, rfl, rfl, rfl⟩
  intro k st g hI
  obtain ⟨u, x, _, rfl⟩ := kzI_lit hI
  clear hI
  repeat first|apply jZ|apply jA|apply RunP.scope|apply RunP.label|apply jB|apply jH
  refine jI (fun q => absurd q (by decide)) (fun _ => ?_)
  repeat first|apply jZ|apply jA|apply RunP.scope|apply RunP.label|apply jB|apply jH
  exact ⟨rfl, _, rfl, jO _, rfl⟩
 | some L =>
  have hLl : lenO (some L) = L.length := rfl
  have hgd : Option.getD (some L) [] = L := rfl
  have hlm : ((L.map fncV).length : Int) = (L.length : Int) := by simp
  rw [hgd, hLl]
  have hL50 : L.length ≤ 2 ^ 50 := hok.1
  repeat first|apply jZ|apply jA|apply RunP.scope|apply RunP.label
  refine jR _ ?_
  iterate 4 (refine ybr ?_)
  repeat first|apply jZ|apply jA|apply RunP.scope|apply RunP.label
  refine RunP.loop (kaI L b0) ?_ L.length ⟨0, _, ⟨by omega, rfl, rfl, rfl⟩, rfl, rfl, rfl, rfl, rfl, rfl, rfl, rfl⟩
  intro k st g hJ
  obtain ⟨i, z, x, ⟨hik, hz, hall, h0⟩, rfl⟩ := kaI_lit hJ
  clear hJ
  subst hz
  repeat first|apply jZ|apply jA|apply RunP.scope|apply RunP.label|apply jB|apply jH
  refine jI (fun hlt => ?_) (fun hge => ?_)
  ·have hi : i < L.length := by omega
   obtain ⟨f0, hf0⟩ : ∃ f, L[i]? = some f := ⟨_, List.getElem?_eq_getElem hi⟩
   obtain ⟨hnm, hgl, hI⟩ := hok.2 f0 (by rw [hgd]; exact List.mem_of_getElem? hf0)
   obtain ⟨bS, hbS⟩ : ∃ w, (!((L.take i).all (fun x => (!decide (x.nm = f0.nm))))) = w := ⟨_, rfl⟩
   obtain ⟨bF, hbF⟩ : ∃ w, fnB (some L) f0 = w := ⟨_, rfl⟩
   have hno : b0 = false ∨ (!(!((L.take i).all (fun x => (!decide (x.nm = f0.nm))))) && fnB (some L) f0) = false → V.int .i64 30 = .int .i64 (if (b0 && chkB (some L) L L.length) = true then 0 else 30) := fun hr => by
    rcases hr with rfl | hr
    ·rfl
    ·rw [yrv hf0 hr L.length hi, Bool.and_false]; rfl
   have hget : (L.map fncV)[i]? = some (.agg f0.cells) := by rw [List.getElem?_map, hf0]; rfl
   repeat first|apply jZ|apply jA|apply RunP.scope|apply RunP.label|apply jB|apply jH
   refine jI (by omega) (jI rfl (Exists.intro _ (jI hget ?_)))
   refine yab (ycw (E := envQ) (t := 61) (n := 5) (v := .agg f0.cells) rfl rfl rfl rfl (yeu (ygc _))) ?_
   replace h0 := yam (k := .cells 61 (V.agg f0.cells).cells) h0
   generalize hb : g.length = M
   generalize hG : Sb.push g (.cells 61 (V.agg f0.cells).cells) = G at h0 ⊢
   have hcell : G[M]? = some (.cells 61 f0.cells) := by rw [← hG, ← hb]; exact ydh _ _
   clear hG hb
   have hCn : Has envQ .own 63 [.lst 5 (((L.map fncV).take i).drop 0), .fn (.func 64) [.ptr M 0 5]] G (.val (.bool bS) G) := by
    have e : V.lst 5 (((L.map fncV).take i).drop 0) = optL 5 fncV (some (L.take i)) := by simp [optL, List.map_take]
    rw [e]
    have hq := cnCf_has [] f0 (some (L.take i)) (by show (L.take i).length ≤ _; rw [List.length_take]; omega)
    have e2 : Option.getD (some (L.take i)) [] = L.take i := rfl
    rw [e2, hbS] at hq
    exact Has.thaw (a := [optL 5 fncV (some (L.take i)), .fn (.func 64) [.rop f0.cells]]) (yaf (fz_lf (yck _ _ _)) (yaf (ydv (yaf (ykj hcell rfl (ygc _)) yan)) yan)) (yaf (fz_lf (yck _ _ _)) (yaf (ydv (yaf rfl yan)) yan)) rfl hq
   have hFn : b0 = true → ∀ H : Heap, Has envQ .own 65 [.agg (ckC (some L) f0)] H (.val (.bool bF) H) := fun hb H => by
    have hc : lenO (some L) ≤ 1000 := by rw [hb] at e0; have := jT e0; omega
    have := yxl H (some L) f0 hc hnm hgl hI
    rw [hbF] at this; exact this
   repeat first|apply jZ|apply jA|apply RunP.scope|apply RunP.label
   refine jR _ ?_
   refine ybr ?_
   refine ybr ?_ (fun K hK => yab (yae (E := envQ) (t := 23) (n := 1) h0 rfl) hK)
   refine ybr ?_
   refine ybr ?_ (fun K hK => jI (by omega) (jI rfl (jI ⟨Nat.zero_le _, by rw [List.length_map]; omega⟩ hK)))
   refine ybr ?_
   refine ybr ?_ (fun K hK => CallK.of hCn hK)
   refine ybr ?_
   repeat first|apply jZ|apply jA|apply RunP.scope|apply RunP.label
   cases bS
   ·cases b0
    ·refine jR _ ?_
     iterate 2 (refine ybr ?_)
     iterate 2 (refine ydk ?_)
     iterate 2 (refine ybr ?_)
     iterate 5 (refine yik ?_)
     refine ybr ?_
     repeat first|apply jZ|apply jA|apply RunP.scope|apply RunP.label
     refine jR _ ?_
     refine ybr ?_
     repeat first|apply jZ|apply jA|apply RunP.scope|apply RunP.label|apply jB|apply jH
     exact ⟨rfl, _, rfl, jO _, hno (.inl rfl)⟩
    ·cases bF
     ·refine jR _ ?_
      iterate 2 (refine ybr ?_)
      iterate 2 (refine ydk ?_)
      iterate 2 (refine ybr ?_)
      refine ydk ?_ (fun K hK => yab (yae (E := envQ) (t := 25) (n := 1) h0 rfl) hK)
      refine ydk ?_ (fun K hK => yab (yae (E := envQ) (t := 61) (n := 5) hcell rfl) hK)
      refine ydk ?_ (fun K hK => yab (yrw (some L) f0) hK)
      refine ydk ?_ (fun K hK => CallK.of (hFn rfl _) hK)
      refine ydk ?_
      refine ybr ?_
      repeat first|apply jZ|apply jA|apply RunP.scope|apply RunP.label
      refine jR _ ?_
      refine ybr ?_
      repeat first|apply jZ|apply jA|apply RunP.scope|apply RunP.label|apply jB|apply jH
      exact ⟨rfl, _, rfl, jO _, hno (.inr (by rw [hbS, hbF]; rfl))⟩
     ·refine jR _ ?_
      iterate 2 (refine ybr ?_)
      iterate 2 (refine ydk ?_)
      iterate 2 (refine ybr ?_)
      refine ydk ?_ (fun K hK => yab (yae (E := envQ) (t := 25) (n := 1) h0 rfl) hK)
      refine ydk ?_ (fun K hK => yab (yae (E := envQ) (t := 61) (n := 5) hcell rfl) hK)
      refine ydk ?_ (fun K hK => yab (yrw (some L) f0) hK)
      refine ydk ?_ (fun K hK => CallK.of (hFn rfl _) hK)
      refine ydk ?_
      refine ybr ?_
      repeat first|apply jZ|apply jA|apply RunP.scope|apply RunP.label|apply jB|apply jH
      exact ⟨k - 1, by omega, i + 1, _, ⟨by omega, wrap1 (by omega), by rw [chkB, hall, hf0]; simp only; rw [hbS, hbF]; rfl, h0⟩, rfl, rfl, rfl, rfl, rfl, rfl, rfl, rfl⟩
   ·cases b0
    ·refine jR _ ?_
     iterate 2 (refine ybr ?_)
     iterate 2 (refine yik ?_)
     iterate 2 (refine ybr ?_)
     iterate 5 (refine yik ?_)
     refine ybr ?_
     repeat first|apply jZ|apply jA|apply RunP.scope|apply RunP.label
     refine jR _ ?_
     refine ybr ?_
     repeat first|apply jZ|apply jA|apply RunP.scope|apply RunP.label|apply jB|apply jH
     exact ⟨rfl, _, rfl, jO _, hno (.inl rfl)⟩
    ·refine jR _ ?_
     iterate 2 (refine ybr ?_)
     iterate 2 (refine yik ?_)
     iterate 2 (refine ybr ?_)
     iterate 5 (refine yik ?_)
     refine ybr ?_
     repeat first|apply jZ|apply jA|apply RunP.scope|apply RunP.label
     refine jR _ ?_
     refine ybr ?_
     repeat first|apply jZ|apply jA|apply RunP.scope|apply RunP.label|apply jB|apply jH
     exact ⟨rfl, _, rfl, jO _, hno (.inr (by rw [hbS]; rfl))⟩
  ·have hi : i = L.length := by omega
   subst hi
   rw [hall]
   cases b0
   ·repeat first|apply jZ|apply jA|apply RunP.scope|apply RunP.label|apply jB|apply jH
    exact ⟨rfl, _, rfl, jO _, rfl⟩
   ·repeat first|apply jZ|apply jA|apply RunP.scope|apply RunP.label|apply jB|apply jH
    exact ⟨rfl, _, rfl, jO _, rfl⟩
end Go.Proofs.YtekmafoicobphaaGreatDoor
