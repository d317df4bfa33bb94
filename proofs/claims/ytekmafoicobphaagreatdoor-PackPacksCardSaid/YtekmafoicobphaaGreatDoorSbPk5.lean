/- Packed codes: their bytes in plain words; what is valid has small numbers. -/
import Derived.Test.YtekmafoicobphaaGreatDoorSb10Chk7
import Derived.Test.YtekmafoicobphaaGreatDoorSb13ReadNum
import Derived.Test.YtekmafoicobphaaGreatDoorSbPk4
set_option linter.unusedVariables false
set_option linter.unusedSimpArgs false
namespace Go.Proofs.YtekmafoicobphaaGreatDoor
open Go.Sb
set_option maxRecDepth 100000
theorem yld {S len n w : Int} (h : yaz S len n w) (hw : w = 0 ∨ w = 1 ∨ w = 2 ∨ w = 3) (hS : S ≤ 200) (hl : len ≤ 4000) : BI n := by
 unfold yaz at h; unfold BI
 rcases hw with rfl | rfl | rfl | rfl <;> simp at h <;> omega
theorem yry {c : Cod} {fn n : Int} (hc : lenO c ≤ 16) (h : yfb c fn n) : BI fn := by
 obtain ⟨h0, g, hg, _⟩ := h
 have := (List.getElem?_eq_some_iff.1 hg).1
 unfold lenO at hc; unfold BI
 omega
theorem kC_le (b : Int) : kC b ≤ 2 := by
 unfold kC
 repeat' split
 all_goals omega
theorem yrz {c : Cod} {f : Fnc} {x : Ins} (hc : lenO c ≤ 16) (h : askB c f x = true) : BI x.b ∧ BI x.c := by
 unfold askB at h
 by_cases h5 : x.b = 5
 ·rw [if_pos h5] at h
  exact ⟨by unfold BI; omega, yry hc (jT h)⟩
 ·rw [if_neg h5] at h
  simp only [Bool.and_eq_true, decide_eq_true_eq] at h
  have := kC_le x.b
  exact ⟨by unfold BI; omega, by unfold BI; omega⟩
theorem ins_bnd {c : Cod} {f : Fnc} {x : Ins} (hc : lenO c ≤ 16) (hS : f.s ≤ 200) (hl : (lenO f.cd : Int) ≤ 4000) (h : insB c f x = true) : BndI x := by
 unfold insB flB at h
 simp only [Bool.and_eq_true, decide_eq_true_eq] at h
 obtain ⟨⟨⟨⟨⟨⟨⟨⟨hop, ha⟩, hb⟩, hcc⟩, _⟩, _⟩, hv⟩, hL⟩, hsp⟩ := h
 have hL' : ∀ n ∈ x.l.getD [], yaz f.s (lenO f.cd) n (if fPl x.op = true then 3 else 1) := by simpa using hL
 have key : BI x.a ∧ BI x.b ∧ BI x.c := by
  unfold spB at hsp
  have e : x.op = 1 ∨ x.op = 2 ∨ x.op = 3 ∨ x.op = 4 ∨ x.op = 5 ∨ x.op = 6 ∨ x.op = 7 ∨ x.op = 8 ∨ x.op = 9 ∨ x.op = 10 ∨ x.op = 11 ∨ x.op = 12 ∨ x.op = 13 ∨ x.op = 14 := by omega
  have fa : x.op ≠ 11 → fA x.op = 0 ∨ fA x.op = 1 ∨ fA x.op = 2 ∨ fA x.op = 3 := by
   intro hn; rcases e with e | e | e | e | e | e | e | e | e | e | e | e | e | e <;> rw [e] at hn ⊢ <;> first | exact absurd rfl hn | decide
  have fb : (x.op = 3 ∨ x.op = 4 ∨ x.op = 7 ∨ x.op = 10) ∨ fB x.op = 0 ∨ fB x.op = 1 ∨ fB x.op = 2 ∨ fB x.op = 3 := by
   rcases e with e | e | e | e | e | e | e | e | e | e | e | e | e | e <;> rw [e] <;> decide
  have fc : x.op = 10 ∨ fC x.op = 0 ∨ fC x.op = 1 ∨ fC x.op = 2 ∨ fC x.op = 3 := by
   rcases e with e | e | e | e | e | e | e | e | e | e | e | e | e | e <;> rw [e] <;> decide
  refine ⟨?_, ?_, ?_⟩
  ·by_cases h11 : x.op = 11
   ·rw [if_neg (by omega), if_neg (by omega), if_neg (by omega), if_neg (by omega), if_pos h11] at hsp
    have := jT hsp
    unfold BI; omega
   ·exact yld ha (fa h11) hS hl
  ·rcases fb with (h3 | h4 | h7 | h10) | fb
   ·rw [if_pos h3] at hsp
    have := jT hsp
    unfold BI; omega
   ·rw [if_neg (by omega), if_pos h4] at hsp
    have := jT hsp
    unfold BI; omega
   ·rw [if_neg (by omega), if_neg (by omega), if_pos h7] at hsp
    exact yry hc (jT hsp)
   ·rw [if_neg (by omega), if_neg (by omega), if_neg (by omega), if_pos h10] at hsp
    exact (yrz hc hsp).1
   ·exact yld hb fb hS hl
  ·rcases fc with h10 | fc
   ·rw [if_neg (by omega), if_neg (by omega), if_neg (by omega), if_pos h10] at hsp
    exact (yrz hc hsp).2
   ·exact yld hcc fc hS hl
 refine ⟨hop, key.1, key.2.1, key.2.2, hv, fun n hn => yld (hL' n hn) ?_ hS hl⟩
 split <;> simp
theorem ysa {c : Cod} {f : Fnc} {L : List Ins} : ∀ n, cdB c f L n = true → ∀ i x, i < n → L[i]? = some x → rowB c f L i x = true
 | n + 1, h, i, x, hi, hx => by
  rw [cdB, Bool.and_eq_true] at h
  by_cases e : i = n
  ·subst e; rw [hx] at h; exact h.2
  ·exact ysa n h.1 i x (by omega) hx
theorem ysb {c : Cod} {L : List Fnc} : ∀ n, chkB c L n = true → ∀ i f, i < n → L[i]? = some f → (!(!((L.take i).all (fun x => (!decide (x.nm = f.nm))))) && fnB c f) = true
 | n + 1, h, i, x, hi, hx => by
  rw [chkB, Bool.and_eq_true] at h
  by_cases e : i = n
  ·subst e; rw [hx] at h; exact h.2
  ·exact ysb n h.1 i x (by omega) hx
theorem name_len {s : List UInt8} (h : Lex.isName s = true) : s.length ≤ 12 := by
 unfold Lex.isName at h
 simp only [Bool.and_eq_true, decide_eq_true_eq] at h
 exact h.1.2
theorem fn_bnd {c : Cod} {f : Fnc} (hc : lenO c ≤ 16) (h : fnB c f = true) : BndF f := by
 unfold fnB at h
 simp only [Bool.and_eq_true, decide_eq_true_eq, Bool.not_eq_true', decide_eq_false_iff_not] at h
 obtain ⟨⟨⟨⟨⟨⟨hn, hp⟩, hs⟩, hl⟩, hg⟩, hcd⟩, _, hgs⟩ := h
 refine ⟨name_len hn, ⟨hp.1, by omega⟩, ⟨by omega, by omega⟩, fun x hx => ?_, fun g hg' => ?_, by omega, by omega⟩
 ·obtain ⟨i, hi⟩ := List.mem_iff_getElem?.1 hx
  have hr := ysa _ hcd i x (by have := (List.getElem?_eq_some_iff.1 hi).1; unfold lenO; omega) hi
  unfold rowB at hr
  rw [Bool.and_eq_true] at hr
  exact ins_bnd hc hs.2 hl.2 hr.1
 ·have hq := List.all_eq_true.1 hgs g hg'
  unfold grB at hq
  have e2 : IntKind.i64.wrap ((lenO f.cd : Int) - 1) = (lenO f.cd : Int) - 1 := wrapS (by omega) (by omega)
  rw [e2] at hq
  simp only [Bool.and_eq_true, decide_eq_true_eq] at hq
  obtain ⟨⟨⟨⟨h1, h2⟩, h3⟩, h4⟩, _⟩ := hq
  have e3 : IntKind.i64.wrap (g.f + 1) = g.f + 1 := wrapS (by omega) (by omega)
  rw [e3] at h2
  unfold yaz at h3 h4
  simp at h3 h4
  exact ⟨⟨h1.1, by omega⟩, ⟨by omega, by omega⟩, ⟨by omega, by omega⟩, by omega, by omega⟩
theorem ynm {c : Cod} (h : ydu c = true) : BndC c := by
 unfold ydu at h
 rw [Bool.and_eq_true, decide_eq_true_eq] at h
 have hc : lenO c ≤ 16 := by omega
 refine ⟨hc, fun f hf => ?_⟩
 obtain ⟨i, hi⟩ := List.mem_iff_getElem?.1 hf
 have := ysb _ h.2 i f (by have := (List.getElem?_eq_some_iff.1 hi).1; unfold lenO; omega) hi
 rw [Bool.and_eq_true] at this
 exact fn_bnd hc this.2
/-! How many bytes. -/
def partF (f : Fnc) : Nat := 1 + lenO f.cd + lenO f.gd + ((f.cd.getD []).map fun x => lenO x.l).sum
def partC (c : Cod) : Nat := ((c.getD []).map partF).sum
theorem yfy {n : Nat} (h : n < 2 ^ 63) : (numB n).length ≤ 10 := yla 9 n (by omega)
theorem yir {n : Int} (h : -1000000000000 ≤ n ∧ n ≤ 1000000000000) : (intB n).length ≤ 10 := by
 unfold intB
 refine yfy ?_
 split <;> omega
theorem yis {α : Type} (f : α → List UInt8) (w : α → Nat) : ∀ (l : List α), (∀ x ∈ l, (f x).length ≤ w x) → (l.flatMap f).length ≤ (l.map w).sum
 | [], _ => by simp
 | a :: l, h => by
  have := yis f w l (fun x hx => h x (by simp [hx]))
  have := h a (by simp)
  simp only [List.flatMap_cons, List.length_append, List.map_cons, List.sum_cons]
  omega
theorem ynn {α : Type} (w : α → Nat) (k : Nat) : ∀ l : List α, (l.map fun x => k * w x).sum = k * (l.map w).sum
 | [] => by simp
 | a :: l => by simp only [List.map_cons, List.sum_cons, ynn w k l, Nat.mul_add]
theorem ysc {α : Type} (w u : α → Nat) : ∀ l : List α, (l.map fun x => w x + u x).sum = (l.map w).sum + (l.map u).sum
 | [] => by simp
 | a :: l => by simp only [List.map_cons, List.sum_cons, ysc w u l]; omega
theorem yle {α : Type} (k : Nat) : ∀ l : List α, (l.map fun _ => k).sum = k * l.length
 | [] => by simp
 | a :: l => by simp only [List.map_cons, List.sum_cons, yle k l, List.length_cons, Nat.mul_add]; omega
theorem yxo {x : Ins} (h : BndI x) (hl : lenO x.l < 2 ^ 63) : (insPB x).length ≤ 130 + 10 * lenO x.l := by
 obtain ⟨_, ha, hb, hc, hv, hL⟩ := h
 obtain ⟨_, hn, hs⟩ := ynl hv
 unfold BI at ha hb hc
 have h1 := yir (n := x.a) (by omega)
 have h2 := yir (n := x.b) (by omega)
 have h3 := yir (n := x.c) (by omega)
 have h4 := yir hn
 have h5 := yfy (n := x.s.length) (by omega)
 have h6 := yfy hl
 have h7 := yis intB (fun _ => 10) (x.l.getD []) (fun n hn => yir (by have := hL n hn; unfold BI at this; omega))
 rw [yle] at h7
 unfold insPB txtB lstB
 simp only [List.length_cons, List.length_append]
 unfold lenO at *
 omega
theorem yhd {n : Int} (h : BN n) : (natB n).length ≤ 10 := by
 unfold BN at h
 exact yfy (by omega)
theorem yxp {f : Fnc} (h : BndF f) (hl : ∀ x ∈ f.cd.getD [], lenO x.l < 2 ^ 63) : (fncPB f).length ≤ 130 * partF f := by
 obtain ⟨hn, hp, hs, hI, hG, hcl, hgl⟩ := h
 have h1 := yhd hp
 have h2 := yhd hs
 have h3 := yfy (n := f.nm.length) (by omega)
 have h4 := yfy (n := lenO f.cd) (by omega)
 have h5 := yfy (n := lenO f.gd) (by omega)
 have h6 := yis insPB (fun x => 130 + 10 * lenO x.l) (f.cd.getD []) (fun x hx => yxo (hI x hx) (hl x hx))
 have h7 := yis grdPB (fun _ => 40) (f.gd.getD []) (fun g hg => by
  obtain ⟨q1, q2, q3, q4⟩ := hG g hg
  have := yhd q1
  have := yhd q2
  have := yhd q3
  have := yhd q4
  unfold grdPB
  simp only [List.length_append]
  omega)
 rw [ysc, yle, ynn (fun x : Ins => lenO x.l)] at h6
 rw [yle] at h7
 unfold fncPB txtB lstB partF
 simp only [List.length_append]
 unfold lenO at *
 omega
theorem yxq {c : Cod} (h : BndC c) (hl : ∀ f ∈ c.getD [], ∀ x ∈ f.cd.getD [], lenO x.l < 2 ^ 63) : (codPB c).length ≤ 13 + 130 * partC c := by
 have h1 := yfy (n := lenO c) (by have := h.1; omega)
 have h2 := yis fncPB (fun f => 130 * partF f) (c.getD []) (fun f hf => yxp (h.2 f hf) (hl f hf))
 rw [ynn partF] at h2
 unfold codPB lstB partC
 simp only [List.length_append, List.length_cons, List.length_nil]
 omega
end Go.Proofs.YtekmafoicobphaaGreatDoor

/- Packed codes: the program's Pack. -/

namespace Go.Proofs.YtekmafoicobphaaGreatDoor
open Go.Sb
set_option maxRecDepth 100000
theorem yxr {g : Heap} {v : V} {u : Bs8} (hr : InRow g 5 1 v (bv u)) (hne : u ≠ []) (hu : u.length ≤ 2 ^ 38) : Has envQ .own 31 [v] g (.val (.str (sealB u)) g) :=
 Has.thaw (h0 := []) (yaj (fz_bytes (n := 10) hr (rfl : envQ.ty 5 = some ty5) rfl rfl hne) yax) rfl rfl (yxn [] u hu)
theorem yhe (c : Cod) : [optL 5 fncV c].all V.leaf = true := by simp only [List.all_cons, List.all_nil, ycc]; rfl
set_option maxHeartbeats 4000000 in
theorem yxs (h : Heap) (c : Cod) (hb : BndC c) (hl : ∀ f ∈ c.getD [], ∀ x ∈ f.cd.getD [], lenO x.l < 2 ^ 62) (ht : (codPB c).length ≤ 2 ^ 38) : Has envQ .own 42 [codV c] h (.val (.str (sealB (codPB c))) h) := by
 refine HasP.own (a := [codV c]) (d := fn42) (yaj (fz_ag (yhe c)) yax) rfl rfl (jT rfl) ?_
 show ybc (initT _ [.agg [optL 5 fncV c]]) _
 refine jW ?_
 refine jR _ ?_
 refine ybl (v := .ptr 0 0 1) (g := [.cells 25 [optL 5 fncV c]]) (s' := [_,_,_,_,_,_,_,_,_,_]) rfl (fun K hK => yco (yhe c) hK) rfl ?_
 refine ybl (s' := [_,_,_,_,_,_,_,_,_,_]) rfl (fun _ => id) rfl ?_
 have hr0 : InRow [.cells 25 [optL 5 fncV c], .dead, .cells 5 [.int .u8 115, .int .u8 98, .int .u8 49]] 5 1 (.sl 2 0 1 3 3 3) (bv [115, 98, 49]) := .inr ⟨2, rfl, rfl, by simp [bv]⟩
 have hcl : (codPB c).length = 3 + (lstB fncPB c).length := by simp [codPB]; omega
 obtain ⟨w, g, c1, c2, c3⟩ := yxl c fncPB (fun f hf => yxm f (hb.2 f hf) (hl f hf)) (by have := hb.1; omega) _ _ _ hr0 (by simp; omega)
 have hs := yxr (u := codPB c) c2 (by simp [codPB]) ht
 refine jW ?_
 refine jR _ ?_
 refine ybl (v := .sl 1 0 1 3 3 3) (g := [.cells 25 [optL 5 fncV c], .cells 5 [.int .u8 115, .int .u8 98, .int .u8 49]]) (s' := [_,_,_,_,_,_,_,_,_,_]) rfl (fun _ => id) rfl ?_
 refine ybl (v := .sl 2 0 1 3 3 3) (g := [.cells 25 [optL 5 fncV c], .dead, .cells 5 [.int .u8 115, .int .u8 98, .int .u8 49]]) (s' := [_,_,_,_,_,_,_,_,_,_]) rfl (fun _ => id) rfl ?_
 refine ybl (s' := [_,_,_,_,_,_,_,_,_,_]) rfl (fun _ => id) rfl ?_
 refine ybl (v := optL 5 fncV c) (g := [.cells 25 [optL 5 fncV c], .dead, .cells 5 [.int .u8 115, .int .u8 98, .int .u8 49]]) (s' := [_,_,_,_,_,_,_,_,_,_]) rfl (fun _ => id) rfl ?_
 refine ybl (s' := [_,_,_,_,_,_,_,_,_,_]) rfl (fun K hK => CallK.of c1 hK) rfl ?_
 refine ybl (s' := [_,_,_,_,_,_,_,_,_,_]) rfl (fun K hK => CallK.of hs hK) rfl ?_
 refine ybl (s' := [_,_,_,_,_,_,_,_,_,_]) rfl (fun _ => id) rfl ?_
 refine jW ?_
 apply jH
 exact ⟨rfl, rfl, jO _⟩
noncomputable def packV (c : Cod) : V := if ydu c = true then (if 60000 < (sealB (codPB c)).length then .tup [.str [], .int .i64 5] else .tup [.str (sealB (codPB c)), .int .i64 0]) else .tup [.str [], .int .i64 30]
theorem ok_len {c : Cod} (hok : CodOk c) : ∀ f ∈ c.getD [], ∀ x ∈ f.cd.getD [], lenO x.l < 2 ^ 62 := fun f hf x hx => by
 have := ((hok.2 f hf).2.2 x hx).1
 omega
set_option maxHeartbeats 4000000 in
theorem Pack_has (h : Heap) (c : Cod) (hok : CodOk c) (ht : ydu c = true → (codPB c).length ≤ 2 ^ 38) : Has envQ .own 23 [codV c] h (.val (packV c) h) := by
 suffices hz : ∃ v, Has envQ .own 23 [codV c] h (.val v h) ∧ v = packV c by
  obtain ⟨v, h1, rfl⟩ := hz; exact h1
 refine HasP.ownE (a := [codV c]) (d := fn23) (yaj (fz_ag (yhe c)) yax) rfl rfl (jT rfl) ?_
 show ybc (initT _ [.agg [optL 5 fncV c]]) _
 have hck := ywu [.cells 25 [optL 5 fncV c]] c hok
 unfold packV
 refine jW ?_
 refine jR _ ?_
 refine ybl (v := .ptr 0 0 1) (g := [.cells 25 [optL 5 fncV c]]) (s' := [_,_,_,_,_,_,_,_,_,_,_,_,_,_,_,_,_,_]) rfl (fun K hK => yco (yhe c) hK) rfl ?_
 iterate 2 (refine ybl (s' := [_,_,_,_,_,_,_,_,_,_,_,_,_,_,_,_,_,_]) rfl (fun _ => id) rfl ?_)
 refine jW ?_
 refine jR _ ?_
 refine ybl (v := codV c) (g := [.cells 25 [optL 5 fncV c]]) (s' := [_,_,_,_,_,_,_,_,_,_,_,_,_,_,_,_,_,_]) rfl (fun _ => id) rfl ?_
 refine ybl (s' := [_,_,_,_,_,_,_,_,_,_,_,_,_,_,_,_,_,_]) rfl (fun K hK => CallK.of hck hK) rfl ?_
 refine ybl (s' := [_,_,_,_,_,_,_,_,_,_,_,_,_,_,_,_,_,_]) rfl (fun _ => id) rfl ?_
 refine jW ?_
 apply jB
 by_cases hv : ydu c = true
 ·rw [if_pos hv, if_pos hv]
  have hp := yxs [.cells 25 [optL 5 fncV c]] c (ynm hv) (ok_len hok) (ht hv)
  refine jI (fun q => ?_) (fun q => absurd rfl q)
  refine jW ?_
  refine jR _ ?_
  refine ybl (v := codV c) (g := [.cells 25 [optL 5 fncV c]]) (s' := [_,_,_,_,_,_,_,_,_,_,_,_,_,_,_,_,_,_]) rfl (fun _ => id) rfl ?_
  refine ybl (s' := [_,_,_,_,_,_,_,_,_,_,_,_,_,_,_,_,_,_]) rfl (fun K hK => CallK.of hp hK) rfl ?_
  refine ybl (s' := [_,_,_,_,_,_,_,_,_,_,_,_,_,_,_,_,_,_]) rfl (fun _ => id) rfl ?_
  refine jW ?_
  apply jB
  by_cases hL : 60000 < (sealB (codPB c)).length
  ·rw [if_pos hL]
   refine jI (fun q => ?_) (fun q => absurd q (by omega))
   refine jV ?_
   exact ⟨rfl, _, rfl, jO _, rfl⟩
  ·rw [if_neg hL]
   refine jI (fun q => absurd q (by omega)) (fun q => ?_)
   refine jV ?_
   exact ⟨rfl, _, rfl, jO _, rfl⟩
 ·rw [if_neg hv, if_neg hv]
  refine jI (fun q => absurd q (by decide)) (fun q => ?_)
  refine jV ?_
  exact ⟨rfl, _, rfl, jO _, rfl⟩
end Go.Proofs.YtekmafoicobphaaGreatDoor
