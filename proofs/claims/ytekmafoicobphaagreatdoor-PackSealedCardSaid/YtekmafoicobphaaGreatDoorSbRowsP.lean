/- Packed codes: their bytes in plain words; what is valid has small numbers. -/
import Derived.Test.YtekmafoicobphaaGreatDoorSb10Chk7
import Derived.Test.YtekmafoicobphaaGreatDoorSb13Next
import Derived.Test.YtekmafoicobphaaGreatDoorSbShaped
import Derived.Test.YtekmafoicobphaaGreatDoorSbArgL
import Derived.Lay
import Derived.LaidMore
import Derived.Test.YtekmafoicobphaaGreatDoorCards
import Derived.Test.YtekmafoicobphaaGreatDoorTie
set_option linter.unusedVariables false
set_option linter.unusedSimpArgs false
namespace Go.Proofs.YtekmafoicobphaaGreatDoor
open Go.Sb
set_option maxRecDepth 100000
theorem yka {S len n w : Int} (h : ybe S len n w) (hw : w = 0 ∨ w = 1 ∨ w = 2 ∨ w = 3) (hS : S ≤ 200) (hl : len ≤ 4000) : BI n := by
 unfold ybe at h; unfold BI
 rcases hw with rfl | rfl | rfl | rfl <;> simp at h <;> omega
theorem yrk {c : Cod} {fn n : Int} (hc : lenO c ≤ 16) (h : ygu c fn n) : BI fn := by
 obtain ⟨h0, g, hg, _⟩ := h
 have := (List.getElem?_eq_some_iff.1 hg).1
 unfold lenO at hc; unfold BI
 omega
theorem kC_le (b : Int) : kC b ≤ 2 := by
 unfold kC
 repeat' split
 all_goals omega
theorem yrl {c : Cod} {f : Fnc} {x : Ins} (hc : lenO c ≤ 16) (h : askB c f x = true) : BI x.b ∧ BI x.c := by
 unfold askB at h
 by_cases h5 : x.b = 5
 ·rw [if_pos h5] at h
  exact ⟨by unfold BI; omega, yrk hc (jT h)⟩
 ·rw [if_neg h5] at h
  simp only [Bool.and_eq_true, decide_eq_true_eq] at h
  have := kC_le x.b
  exact ⟨by unfold BI; omega, by unfold BI; omega⟩
theorem ins_bnd {c : Cod} {f : Fnc} {x : Ins} (hc : lenO c ≤ 16) (hS : f.s ≤ 200) (hl : (lenO f.cd : Int) ≤ 4000) (h : insB c f x = true) : BndI x := by
 unfold insB flB at h
 simp only [Bool.and_eq_true, decide_eq_true_eq] at h
 obtain ⟨⟨⟨⟨⟨⟨⟨⟨hop, ha⟩, hb⟩, hcc⟩, _⟩, _⟩, hv⟩, hL⟩, hsp⟩ := h
 have hL' : ∀ n ∈ x.l.getD [], ybe f.s (lenO f.cd) n (if fPl x.op = true then 3 else 1) := by simpa using hL
 have key : BI x.a ∧ BI x.b ∧ BI x.c := by
  unfold spB at hsp
  have e : x.op = 1 ∨ x.op = 2 ∨ x.op = 3 ∨ x.op = 4 ∨ x.op = 5 ∨ x.op = 6 ∨ x.op = 7 ∨ x.op = 8 ∨ x.op = 9 ∨ x.op = 10 ∨ x.op = 11 ∨ x.op = 12 ∨ x.op = 13 ∨ x.op = 14 := by omega
  have fa : x.op ≠ 11 → fA x.op = 0 ∨ fA x.op = 1 ∨ fA x.op = 2 ∨ fA x.op = 3 := by
   intro hn; rcases e with e | e | e | e | e | e | e | e | e | e | e | e | e | e <;> rw [e] at hn ⊢ <;> first | exact absurd rfl hn | decide
  have fb : (x.op = 3 ∨ x.op = 4 ∨ x.op = 7 ∨ x.op = 10) ∨ fB x.op = 0 ∨ fB x.op = 1 ∨ fB x.op = 2 ∨ fB x.op = 3 := by
   rcases e with e | e | e | e | e | e | e | e | e | e | e | e | e | e <;> rw [e] <;> decide
  have fc : x.op = 10 ∨ fC x.op = 0 ∨ fC x.op = 1 ∨ fC x.op = 2 ∨ fC x.op = 3 := by
   rcases e with e | e | e | e | e | e | e | e | e | e | e | e | e | e <;> rw [e] <;> decide
  refine ⟨?_, ?_, ?_⟩
  ·by_cases h11 : x.op = 11
   ·rw [if_neg (by omega), if_neg (by omega), if_neg (by omega), if_neg (by omega), if_pos h11] at hsp
    have := jT hsp
    unfold BI; omega
   ·exact yka ha (fa h11) hS hl
  ·rcases fb with (h3 | h4 | h7 | h10) | fb
   ·rw [if_pos h3] at hsp
    have := jT hsp
    unfold BI; omega
   ·rw [if_neg (by omega), if_pos h4] at hsp
    have := jT hsp
    unfold BI; omega
   ·rw [if_neg (by omega), if_neg (by omega), if_pos h7] at hsp
    exact yrk hc (jT hsp)
   ·rw [if_neg (by omega), if_neg (by omega), if_neg (by omega), if_pos h10] at hsp
    exact (yrl hc hsp).1
   ·exact yka hb fb hS hl
  ·rcases fc with h10 | fc
   ·rw [if_neg (by omega), if_neg (by omega), if_neg (by omega), if_pos h10] at hsp
    exact (yrl hc hsp).2
   ·exact yka hcc fc hS hl
 refine ⟨hop, key.1, key.2.1, key.2.2, hv, fun n hn => yka (hL' n hn) ?_ hS hl⟩
 split <;> simp
theorem yrm {c : Cod} {f : Fnc} {L : List Ins} : ∀ n, cdB c f L n = true → ∀ i x, i < n → L[i]? = some x → rowB c f L i x = true
 | n + 1, h, i, x, hi, hx => by
  rw [cdB, Bool.and_eq_true] at h
  by_cases e : i = n
  ·subst e; rw [hx] at h; exact h.2
  ·exact yrm n h.1 i x (by omega) hx
theorem yrn {c : Cod} {L : List Fnc} : ∀ n, chkB c L n = true → ∀ i f, i < n → L[i]? = some f → (!(!((L.take i).all (fun x => (!decide (x.nm = f.nm))))) && fnB c f) = true
 | n + 1, h, i, x, hi, hx => by
  rw [chkB, Bool.and_eq_true] at h
  by_cases e : i = n
  ·subst e; rw [hx] at h; exact h.2
  ·exact yrn n h.1 i x (by omega) hx
theorem name_len {s : List UInt8} (h : Lex.isName s = true) : s.length ≤ 12 := by
 unfold Lex.isName at h
 simp only [Bool.and_eq_true, decide_eq_true_eq] at h
 exact h.1.2
theorem fn_bnd {c : Cod} {f : Fnc} (hc : lenO c ≤ 16) (h : fnB c f = true) : BndF f := by
 unfold fnB at h
 simp only [Bool.and_eq_true, decide_eq_true_eq, Bool.not_eq_true', decide_eq_false_iff_not] at h
 obtain ⟨⟨⟨⟨⟨⟨hn, hp⟩, hs⟩, hl⟩, hg⟩, hcd⟩, _, hgs⟩ := h
 refine ⟨name_len hn, ⟨hp.1, by omega⟩, ⟨by omega, by omega⟩, fun x hx => ?_, fun g hg' => ?_, by omega, by omega⟩
 ·obtain ⟨i, hi⟩ := List.mem_iff_getElem?.1 hx
  have hr := yrm _ hcd i x (by have := (List.getElem?_eq_some_iff.1 hi).1; unfold lenO; omega) hi
  unfold rowB at hr
  rw [Bool.and_eq_true] at hr
  exact ins_bnd hc hs.2 hl.2 hr.1
 ·have hq := List.all_eq_true.1 hgs g hg'
  unfold grB at hq
  have e2 : IntKind.i64.wrap ((lenO f.cd : Int) - 1) = (lenO f.cd : Int) - 1 := wrapS (by omega) (by omega)
  rw [e2] at hq
  simp only [Bool.and_eq_true, decide_eq_true_eq] at hq
  obtain ⟨⟨⟨⟨h1, h2⟩, h3⟩, h4⟩, _⟩ := hq
  have e3 : IntKind.i64.wrap (g.f + 1) = g.f + 1 := wrapS (by omega) (by omega)
  rw [e3] at h2
  unfold ybe at h3 h4
  simp at h3 h4
  exact ⟨⟨h1.1, by omega⟩, ⟨by omega, by omega⟩, ⟨by omega, by omega⟩, by omega, by omega⟩
theorem ykb {c : Cod} (h : ydc c = true) : BndC c := by
 unfold ydc at h
 rw [Bool.and_eq_true, decide_eq_true_eq] at h
 have hc : lenO c ≤ 16 := by omega
 refine ⟨hc, fun f hf => ?_⟩
 obtain ⟨i, hi⟩ := List.mem_iff_getElem?.1 hf
 have := yrn _ h.2 i f (by have := (List.getElem?_eq_some_iff.1 hi).1; unfold lenO; omega) hi
 rw [Bool.and_eq_true] at this
 exact fn_bnd hc this.2
/-! How many bytes. -/
def partF (f : Fnc) : Nat := 1 + lenO f.cd + lenO f.gd + ((f.cd.getD []).map fun x => lenO x.l).sum
def partC (c : Cod) : Nat := ((c.getD []).map partF).sum
theorem yfc {n : Nat} (h : n < 2 ^ 63) : (numB n).length ≤ 10 := ymi 9 n (by omega)
theorem yhu {n : Int} (h : -1000000000000 ≤ n ∧ n ≤ 1000000000000) : (intB n).length ≤ 10 := by
 unfold intB
 refine yfc ?_
 split <;> omega
theorem yhv {α : Type} (f : α → List UInt8) (w : α → Nat) : ∀ (l : List α), (∀ x ∈ l, (f x).length ≤ w x) → (l.flatMap f).length ≤ (l.map w).sum
 | [], _ => by simp
 | a :: l, h => by
  have := yhv f w l (fun x hx => h x (by simp [hx]))
  have := h a (by simp)
  simp only [List.flatMap_cons, List.length_append, List.map_cons, List.sum_cons]
  omega
theorem ymq {α : Type} (w : α → Nat) (k : Nat) : ∀ l : List α, (l.map fun x => k * w x).sum = k * (l.map w).sum
 | [] => by simp
 | a :: l => by simp only [List.map_cons, List.sum_cons, ymq w k l, Nat.mul_add]
theorem yro {α : Type} (w u : α → Nat) : ∀ l : List α, (l.map fun x => w x + u x).sum = (l.map w).sum + (l.map u).sum
 | [] => by simp
 | a :: l => by simp only [List.map_cons, List.sum_cons, yro w u l]; omega
theorem yhw {α : Type} (k : Nat) : ∀ l : List α, (l.map fun _ => k).sum = k * l.length
 | [] => by simp
 | a :: l => by simp only [List.map_cons, List.sum_cons, yhw k l, List.length_cons, Nat.mul_add]; omega
theorem yws {x : Ins} (h : BndI x) (hl : lenO x.l < 2 ^ 63) : (insPB x).length ≤ 130 + 10 * lenO x.l := by
 obtain ⟨_, ha, hb, hc, hv, hL⟩ := h
 obtain ⟨_, hn, hs⟩ := yqm hv
 unfold BI at ha hb hc
 have h1 := yhu (n := x.a) (by omega)
 have h2 := yhu (n := x.b) (by omega)
 have h3 := yhu (n := x.c) (by omega)
 have h4 := yhu hn
 have h5 := yfc (n := x.s.length) (by omega)
 have h6 := yfc hl
 have h7 := yhv intB (fun _ => 10) (x.l.getD []) (fun n hn => yhu (by have := hL n hn; unfold BI at this; omega))
 rw [yhw] at h7
 unfold insPB txtB lstB
 simp only [List.length_cons, List.length_append]
 unfold lenO at *
 omega
theorem ygv {n : Int} (h : BN n) : (natB n).length ≤ 10 := by
 unfold BN at h
 exact yfc (by omega)
theorem ywt {f : Fnc} (h : BndF f) (hl : ∀ x ∈ f.cd.getD [], lenO x.l < 2 ^ 63) : (fncPB f).length ≤ 130 * partF f := by
 obtain ⟨hn, hp, hs, hI, hG, hcl, hgl⟩ := h
 have h1 := ygv hp
 have h2 := ygv hs
 have h3 := yfc (n := f.nm.length) (by omega)
 have h4 := yfc (n := lenO f.cd) (by omega)
 have h5 := yfc (n := lenO f.gd) (by omega)
 have h6 := yhv insPB (fun x => 130 + 10 * lenO x.l) (f.cd.getD []) (fun x hx => yws (hI x hx) (hl x hx))
 have h7 := yhv grdPB (fun _ => 40) (f.gd.getD []) (fun g hg => by
  obtain ⟨q1, q2, q3, q4⟩ := hG g hg
  have := ygv q1
  have := ygv q2
  have := ygv q3
  have := ygv q4
  unfold grdPB
  simp only [List.length_append]
  omega)
 rw [yro, yhw, ymq (fun x : Ins => lenO x.l)] at h6
 rw [yhw] at h7
 unfold fncPB txtB lstB partF
 simp only [List.length_append]
 unfold lenO at *
 omega
theorem yrp {c : Cod} (h : BndC c) (hl : ∀ f ∈ c.getD [], ∀ x ∈ f.cd.getD [], lenO x.l < 2 ^ 63) : (codPB c).length ≤ 13 + 130 * partC c := by
 have h1 := yfc (n := lenO c) (by have := h.1; omega)
 have h2 := yhv fncPB (fun f => 130 * partF f) (c.getD []) (fun f hf => ywt (h.2 f hf) (hl f hf))
 rw [ymq partF] at h2
 unfold codPB lstB partC
 simp only [List.length_append, List.length_cons, List.length_nil]
 omega
end Go.Proofs.YtekmafoicobphaaGreatDoor

/- Chapter 13: what the rows give to the evaluator; codes ars a row hands them in. -/

namespace Go.Proofs.YtekmafoicobphaaGreatDoor
open Go.Sb Go.ChangeShapes Go.WideShapes Go.ChangeAt Go.WideMaps Go.WideElems Go.RowKit
set_option maxRecDepth 100000
theorem own : ownKnob Tryz.prog.godebug = none := by kernel_rfl
theorem laidOut : laidOutB Tryz.prog = true := by kernel_rfl
theorem yxt {H : Type} : (Rows.laid_strings_asciiSpace : DataW H) = .agg (Lib.asciiSpaceTab.map fun n => .lit (.int .u8 n)) := by rfl
theorem gl_of {W : World} {laid : List (String × DataW Unit)} {ps : List MemPlace} (hsh : W.ShapedOpen Tryz.prog) (h : DataW.LaidVars Tryz.prog W laid ps)
  (hm : ("strings.asciiSpace", Rows.laid_strings_asciiSpace) ∈ laid) :
  ∀ g cs, envQ.gl g = some cs → GlOk (fun r => r < W.heap.size) W g cs := by
 intro g cs hg
 have hg' : (bif Nat.beq g 0 then some spaceV else bif Nat.beq g 2 then some [.ub .i64] else none) = some cs := hg
 simp only [cond_eq_ite] at hg'
 split at hg'
 ·rename_i e; have e := Nat.eq_of_beq_eq_true e; subst e; cases hg'
  rw [yxt] at hm
  exact laid_rop (ns := Lib.asciiSpaceTab) h hm (g := 0) (by kernel_rfl) (t := 170) (by kernel_rfl) Tryz.underlying170 Tryz.underlying5 (by kernel_rfl) (by kernel_rfl)
 split at hg'
 ·rename_i e; have e := Nat.eq_of_beq_eq_true e; subst e; cases hg'
  exact ub_gl (zero := #[.int .i64 0]) (t := 3) hsh (jT (by kernel_rfl)) (by kernel_rfl) rfl (by kernel_rfl) (by kernel_rfl) Tryz.underlying3
 ·cases hg'
theorem shpL_str {L n : Nat} {vs : List V} (h : ShpL L envQ (n + 1) 9 vs) : ∃ s, vs = [.str s] ∧ s.length ≤ L := by
 obtain ⟨d, hd, _, h⟩ := h
 cases (show some ty9 = some d from hd)
 exact h
theorem yxu {L n : Nat} {u : V} (h : ShpAL L envQ (n + 1) 9 u) : ∃ s, u = .str s ∧ s.length ≤ L := by
 obtain ⟨s, h1, h2⟩ := shpL_str h.1
 rw [(h.2 ty9 rfl).2 rfl] at h1
 exact ⟨s, by simpa using h1, h2⟩
def InsL (L : Nat) (x : Ins) : Prop := lenO x.l ≤ L ∧ x.s.length ≤ L
def FncL (L : Nat) (f : Fnc) : Prop := f.nm.length ≤ L ∧ lenO f.cd ≤ L ∧ lenO f.gd ≤ L ∧ ∀ x ∈ f.cd.getD [], InsL L x
def CodL (L : Nat) (c : Cod) : Prop := lenO c ≤ L ∧ ∀ f ∈ c.getD [], FncL L f
theorem CodL.ok {c : Cod} (h : CodL reachBytes c) : CodOk c ∧ ∀ f ∈ c.getD [], lenO f.cd ≤ 2 ^ 50 := by
 have hr : reachBytes ≤ 2 ^ 50 := by decide
 refine ⟨⟨Nat.le_trans h.1 hr, fun f hf => ?_⟩, fun f hf => Nat.le_trans (h.2 f hf).2.1 hr⟩
 obtain ⟨h1, h2, h3, h4⟩ := h.2 f hf
 exact ⟨Nat.le_trans h1 hr, Nat.le_trans h3 hr, fun x hx => ⟨Nat.le_trans (h4 x hx).1 hr, Nat.le_trans (h4 x hx).2 hr⟩⟩
end Go.Proofs.YtekmafoicobphaaGreatDoor
