/- Packed codes: their bytes in plain words; what is valid has small numbers. -/
import Derived.Test.YtekmafoicobphaaGreatDoorSb10Chk7
import Derived.Test.YtekmafoicobphaaGreatDoorSb13Next
import Derived.Test.YtekmafoicobphaaGreatDoorSb13RdI
set_option linter.unusedVariables false
set_option linter.unusedSimpArgs false
namespace Go.Proofs.YtekmafoicobphaaGreatDoor
open Go.Sb
set_option maxRecDepth 100000
theorem ykr {S len n w : Int} (h : ybi S len n w) (hw : w = 0 ∨ w = 1 ∨ w = 2 ∨ w = 3) (hS : S ≤ 200) (hl : len ≤ 4000) : BI n := by
 unfold ybi at h; unfold BI
 rcases hw with rfl | rfl | rfl | rfl <;> simp at h <;> omega
theorem yry {c : Cod} {fn n : Int} (hc : lenO c ≤ 16) (h : yhc c fn n) : BI fn := by
 obtain ⟨h0, g, hg, _⟩ := h
 have := (List.getElem?_eq_some_iff.1 hg).1
 unfold lenO at hc; unfold BI
 omega
theorem kC_le (b : Int) : kC b ≤ 2 := by
 unfold kC
 repeat' split
 all_goals omega
theorem yrz {c : Cod} {f : Fnc} {x : Ins} (hc : lenO c ≤ 16) (h : askB c f x = true) : BI x.b ∧ BI x.c := by
 unfold askB at h
 by_cases h5 : x.b = 5
 ·rw [if_pos h5] at h
  exact ⟨by unfold BI; omega, yry hc (jT h)⟩
 ·rw [if_neg h5] at h
  simp only [Bool.and_eq_true, decide_eq_true_eq] at h
  have := kC_le x.b
  exact ⟨by unfold BI; omega, by unfold BI; omega⟩
theorem ins_bnd {c : Cod} {f : Fnc} {x : Ins} (hc : lenO c ≤ 16) (hS : f.s ≤ 200) (hl : (lenO f.cd : Int) ≤ 4000) (h : insB c f x = true) : BndI x := by
 unfold insB flB at h
 simp only [Bool.and_eq_true, decide_eq_true_eq] at h
 obtain ⟨⟨⟨⟨⟨⟨⟨⟨hop, ha⟩, hb⟩, hcc⟩, _⟩, _⟩, hv⟩, hL⟩, hsp⟩ := h
 have hL' : ∀ n ∈ x.l.getD [], ybi f.s (lenO f.cd) n (if fPl x.op = true then 3 else 1) := by simpa using hL
 have key : BI x.a ∧ BI x.b ∧ BI x.c := by
  unfold spB at hsp
  have e : x.op = 1 ∨ x.op = 2 ∨ x.op = 3 ∨ x.op = 4 ∨ x.op = 5 ∨ x.op = 6 ∨ x.op = 7 ∨ x.op = 8 ∨ x.op = 9 ∨ x.op = 10 ∨ x.op = 11 ∨ x.op = 12 ∨ x.op = 13 ∨ x.op = 14 := by omega
  have fa : x.op ≠ 11 → fA x.op = 0 ∨ fA x.op = 1 ∨ fA x.op = 2 ∨ fA x.op = 3 := by
   intro hn; rcases e with e | e | e | e | e | e | e | e | e | e | e | e | e | e <;> rw [e] at hn ⊢ <;> first | exact absurd rfl hn | decide
  have fb : (x.op = 3 ∨ x.op = 4 ∨ x.op = 7 ∨ x.op = 10) ∨ fB x.op = 0 ∨ fB x.op = 1 ∨ fB x.op = 2 ∨ fB x.op = 3 := by
   rcases e with e | e | e | e | e | e | e | e | e | e | e | e | e | e <;> rw [e] <;> decide
  have fc : x.op = 10 ∨ fC x.op = 0 ∨ fC x.op = 1 ∨ fC x.op = 2 ∨ fC x.op = 3 := by
   rcases e with e | e | e | e | e | e | e | e | e | e | e | e | e | e <;> rw [e] <;> decide
  refine ⟨?_, ?_, ?_⟩
  ·by_cases h11 : x.op = 11
   ·rw [if_neg (by omega), if_neg (by omega), if_neg (by omega), if_neg (by omega), if_pos h11] at hsp
    have := jT hsp
    unfold BI; omega
   ·exact ykr ha (fa h11) hS hl
  ·rcases fb with (h3 | h4 | h7 | h10) | fb
   ·rw [if_pos h3] at hsp
    have := jT hsp
    unfold BI; omega
   ·rw [if_neg (by omega), if_pos h4] at hsp
    have := jT hsp
    unfold BI; omega
   ·rw [if_neg (by omega), if_neg (by omega), if_pos h7] at hsp
    exact yry hc (jT hsp)
   ·rw [if_neg (by omega), if_neg (by omega), if_neg (by omega), if_pos h10] at hsp
    exact (yrz hc hsp).1
   ·exact ykr hb fb hS hl
  ·rcases fc with h10 | fc
   ·rw [if_neg (by omega), if_neg (by omega), if_neg (by omega), if_pos h10] at hsp
    exact (yrz hc hsp).2
   ·exact ykr hcc fc hS hl
 refine ⟨hop, key.1, key.2.1, key.2.2, hv, fun n hn => ykr (hL' n hn) ?_ hS hl⟩
 split <;> simp
theorem ysa {c : Cod} {f : Fnc} {L : List Ins} : ∀ n, cdB c f L n = true → ∀ i x, i < n → L[i]? = some x → rowB c f L i x = true
 | n + 1, h, i, x, hi, hx => by
  rw [cdB, Bool.and_eq_true] at h
  by_cases e : i = n
  ·subst e; rw [hx] at h; exact h.2
  ·exact ysa n h.1 i x (by omega) hx
theorem ysb {c : Cod} {L : List Fnc} : ∀ n, chkB c L n = true → ∀ i f, i < n → L[i]? = some f → (!(!((L.take i).all (fun x => (!decide (x.nm = f.nm))))) && fnB c f) = true
 | n + 1, h, i, x, hi, hx => by
  rw [chkB, Bool.and_eq_true] at h
  by_cases e : i = n
  ·subst e; rw [hx] at h; exact h.2
  ·exact ysb n h.1 i x (by omega) hx
theorem name_len {s : List UInt8} (h : Lex.isName s = true) : s.length ≤ 12 := by
 unfold Lex.isName at h
 simp only [Bool.and_eq_true, decide_eq_true_eq] at h
 exact h.1.2
theorem fn_bnd {c : Cod} {f : Fnc} (hc : lenO c ≤ 16) (h : fnB c f = true) : BndF f := by
 unfold fnB at h
 simp only [Bool.and_eq_true, decide_eq_true_eq, Bool.not_eq_true', decide_eq_false_iff_not] at h
 obtain ⟨⟨⟨⟨⟨⟨hn, hp⟩, hs⟩, hl⟩, hg⟩, hcd⟩, _, hgs⟩ := h
 refine ⟨name_len hn, ⟨hp.1, by omega⟩, ⟨by omega, by omega⟩, fun x hx => ?_, fun g hg' => ?_, by omega, by omega⟩
 ·obtain ⟨i, hi⟩ := List.mem_iff_getElem?.1 hx
  have hr := ysa _ hcd i x (by have := (List.getElem?_eq_some_iff.1 hi).1; unfold lenO; omega) hi
  unfold rowB at hr
  rw [Bool.and_eq_true] at hr
  exact ins_bnd hc hs.2 hl.2 hr.1
 ·have hq := List.all_eq_true.1 hgs g hg'
  unfold grB at hq
  have e2 : IntKind.i64.wrap ((lenO f.cd : Int) - 1) = (lenO f.cd : Int) - 1 := wrapS (by omega) (by omega)
  rw [e2] at hq
  simp only [Bool.and_eq_true, decide_eq_true_eq] at hq
  obtain ⟨⟨⟨⟨h1, h2⟩, h3⟩, h4⟩, _⟩ := hq
  have e3 : IntKind.i64.wrap (g.f + 1) = g.f + 1 := wrapS (by omega) (by omega)
  rw [e3] at h2
  unfold ybi at h3 h4
  simp at h3 h4
  exact ⟨⟨h1.1, by omega⟩, ⟨by omega, by omega⟩, ⟨by omega, by omega⟩, by omega, by omega⟩
theorem yge {c : Cod} (h : ycy c = true) : BndC c := by
 unfold ycy at h
 rw [Bool.and_eq_true, decide_eq_true_eq] at h
 have hc : lenO c ≤ 16 := by omega
 refine ⟨hc, fun f hf => ?_⟩
 obtain ⟨i, hi⟩ := List.mem_iff_getElem?.1 hf
 have := ysb _ h.2 i f (by have := (List.getElem?_eq_some_iff.1 hi).1; unfold lenO; omega) hi
 rw [Bool.and_eq_true] at this
 exact fn_bnd hc this.2
/-! How many bytes. -/
def partF (f : Fnc) : Nat := 1 + lenO f.cd + lenO f.gd + ((f.cd.getD []).map fun x => lenO x.l).sum
def partC (c : Cod) : Nat := ((c.getD []).map partF).sum
theorem yff {n : Nat} (h : n < 2 ^ 63) : (numB n).length ≤ 10 := ynh 9 n (by omega)
theorem yil {n : Int} (h : -1000000000000 ≤ n ∧ n ≤ 1000000000000) : (intB n).length ≤ 10 := by
 unfold intB
 refine yff ?_
 split <;> omega
theorem yim {α : Type} (f : α → List UInt8) (w : α → Nat) : ∀ (l : List α), (∀ x ∈ l, (f x).length ≤ w x) → (l.flatMap f).length ≤ (l.map w).sum
 | [], _ => by simp
 | a :: l, h => by
  have := yim f w l (fun x hx => h x (by simp [hx]))
  have := h a (by simp)
  simp only [List.flatMap_cons, List.length_append, List.map_cons, List.sum_cons]
  omega
theorem ynq {α : Type} (w : α → Nat) (k : Nat) : ∀ l : List α, (l.map fun x => k * w x).sum = k * (l.map w).sum
 | [] => by simp
 | a :: l => by simp only [List.map_cons, List.sum_cons, ynq w k l, Nat.mul_add]
theorem ysc {α : Type} (w u : α → Nat) : ∀ l : List α, (l.map fun x => w x + u x).sum = (l.map w).sum + (l.map u).sum
 | [] => by simp
 | a :: l => by simp only [List.map_cons, List.sum_cons, ysc w u l]; omega
theorem yin {α : Type} (k : Nat) : ∀ l : List α, (l.map fun _ => k).sum = k * l.length
 | [] => by simp
 | a :: l => by simp only [List.map_cons, List.sum_cons, yin k l, List.length_cons, Nat.mul_add]; omega
theorem yxm {x : Ins} (h : BndI x) (hl : lenO x.l < 2 ^ 63) : (insPB x).length ≤ 130 + 10 * lenO x.l := by
 obtain ⟨_, ha, hb, hc, hv, hL⟩ := h
 obtain ⟨_, hn, hs⟩ := ynk hv
 unfold BI at ha hb hc
 have h1 := yil (n := x.a) (by omega)
 have h2 := yil (n := x.b) (by omega)
 have h3 := yil (n := x.c) (by omega)
 have h4 := yil hn
 have h5 := yff (n := x.s.length) (by omega)
 have h6 := yff hl
 have h7 := yim intB (fun _ => 10) (x.l.getD []) (fun n hn => yil (by have := hL n hn; unfold BI at this; omega))
 rw [yin] at h7
 unfold insPB txtB lstB
 simp only [List.length_cons, List.length_append]
 unfold lenO at *
 omega
theorem yhd {n : Int} (h : BN n) : (natB n).length ≤ 10 := by
 unfold BN at h
 exact yff (by omega)
theorem yxn {f : Fnc} (h : BndF f) (hl : ∀ x ∈ f.cd.getD [], lenO x.l < 2 ^ 63) : (fncPB f).length ≤ 130 * partF f := by
 obtain ⟨hn, hp, hs, hI, hG, hcl, hgl⟩ := h
 have h1 := yhd hp
 have h2 := yhd hs
 have h3 := yff (n := f.nm.length) (by omega)
 have h4 := yff (n := lenO f.cd) (by omega)
 have h5 := yff (n := lenO f.gd) (by omega)
 have h6 := yim insPB (fun x => 130 + 10 * lenO x.l) (f.cd.getD []) (fun x hx => yxm (hI x hx) (hl x hx))
 have h7 := yim grdPB (fun _ => 40) (f.gd.getD []) (fun g hg => by
  obtain ⟨q1, q2, q3, q4⟩ := hG g hg
  have := yhd q1
  have := yhd q2
  have := yhd q3
  have := yhd q4
  unfold grdPB
  simp only [List.length_append]
  omega)
 rw [ysc, yin, ynq (fun x : Ins => lenO x.l)] at h6
 rw [yin] at h7
 unfold fncPB txtB lstB partF
 simp only [List.length_append]
 unfold lenO at *
 omega
theorem ynr {c : Cod} (h : BndC c) (hl : ∀ f ∈ c.getD [], ∀ x ∈ f.cd.getD [], lenO x.l < 2 ^ 63) : (codPB c).length ≤ 13 + 130 * partC c := by
 have h1 := yff (n := lenO c) (by have := h.1; omega)
 have h2 := yim fncPB (fun f => 130 * partF f) (c.getD []) (fun f hf => yxn (h.2 f hf) (hl f hf))
 rw [ynq partF] at h2
 unfold codPB lstB partC
 simp only [List.length_append, List.length_cons, List.length_nil]
 omega
end Go.Proofs.YtekmafoicobphaaGreatDoor

/- Packed codes: they are read back. -/

namespace Go.Proofs.YtekmafoicobphaaGreatDoor
open Go.Sb
set_option maxRecDepth 100000
theorem byte_lo {n : Nat} (h : n ≤ 127) : (UInt8.ofNat n).toNat = n := by simp; omega
theorem byte_hi (n : Nat) : (UInt8.ofNat (128 + n % 128)).toNat = 128 + n % 128 := by simp; omega
theorem rd_numB (t : List UInt8) : ∀ (n out place : Nat), (0 < n ∨ place = 1) → 1 ≤ place → out + n * place ≤ 2 ^ 60 → rdN (numB n ++ t) out place = some (out + n * place, (numB n).length) := by
 intro n
 induction n using Nat.strongRecOn with
 | _ n ih =>
  intro out place h0 h1 h2
  by_cases hn : n ≤ 127
  ·rw [yih hn]
   show rdN (UInt8.ofNat n :: t) out place = _
   simp only [rdN, byte_lo hn]
   have hm : n % 128 = n := by omega
   have hpl : n = 0 ∨ place ≤ n * place := by
    rcases Nat.eq_zero_or_pos n with h | h
    ·exact .inl h
    ·exact .inr (Nat.le_mul_of_pos_left place h)
   rw [hm, if_pos (by
    rcases hpl with h | h
    ·exact .inl h
    ·exact .inr ⟨by omega, (Nat.le_div_iff_mul_le (by omega)).2 (by omega)⟩), if_pos (by omega), if_pos h0]
   rfl
  ·rw [ykl (by omega), List.cons_append]
   simp only [rdN, byte_hi]
   have hdm : n = 128 * (n / 128) + n % 128 := by omega
   have hmul : n * place = n / 128 * (place * 128) + n % 128 * place := by
    calc n * place = (128 * (n / 128) + n % 128) * place := by rw [← hdm]
     _ = n / 128 * (place * 128) + n % 128 * place := by rw [Nat.add_mul]; congr 1; rw [Nat.mul_comm 128, Nat.mul_assoc, Nat.mul_comm 128 place]
   have hge : 128 * place ≤ n * place := Nat.mul_le_mul_right place (by omega)
   have hm : (128 + n % 128) % 128 = n % 128 := by omega
   rw [hm, if_pos (.inr ⟨by omega, (Nat.le_div_iff_mul_le (by omega)).2 (by omega)⟩), if_neg (by omega), if_pos (by omega)]
   rw [ih (n / 128) (by omega) _ _ (.inl (by omega)) (by omega) (by omega)]
   simp only [Option.map_some, List.length_cons, Option.some.injEq, Prod.mk.injEq, and_true]
   omega
def RdB {α : Type} (f : List UInt8 → Nat → Option (α × Nat)) (bs : List UInt8) (x : α) : Prop := ∀ (u : List UInt8) (i : Nat) (w : List UInt8), u.drop i = bs ++ w → f u i = some (x, i + bs.length)
theorem ycs {u a w : List UInt8} {i : Nat} (h : u.drop i = a ++ w) : u.drop (i + a.length) = w := by
 rw [← List.drop_drop, h, List.drop_append_of_le_length (Nat.le_refl _), List.drop_length, List.nil_append]
theorem ysd {u a w : List UInt8} {i : Nat} (h : u.drop i = a ++ w) (ha : a ≠ []) : i + a.length + w.length = u.length := by
 have := congrArg List.length h
 rw [List.length_drop, List.length_append] at this
 have : 0 < a.length := List.length_pos_iff.2 ha
 omega
theorem yew {n : Nat} (h : n ≤ 2 ^ 60) : RdB pNat (numB n) n := fun u i w hd => by
 unfold pNat
 rw [hd, rd_numB w n 0 1 (.inr rfl) (Nat.le_refl _) (by omega)]
 simp
theorem yse (c : UInt8) : RdB pByte [c] c.toNat := fun u i w hd => by
 unfold pByte
 have : u[i]? = some c := by
  have := congrArg (fun l => l[0]?) hd
  simpa using this
 rw [this]; rfl
theorem yio {n : Int} (h : -1000000000000 ≤ n ∧ n ≤ 1000000000000) : RdB pInt (intB n) n := fun u i w hd => by
 unfold pInt
 unfold intB at hd ⊢
 rw [yew (by split <;> omega) u i w hd]
 simp only [Option.map_some, sgnI, Option.some.injEq, Prod.mk.injEq, and_true]
 split <;> split <;> omega
theorem yip (n : Nat) : numB n ≠ [] := fun h => by have := yni n; rw [h] at this; simp at this
theorem rb_txt {s : List UInt8} (h : s.length ≤ 2 ^ 60) : RdB pTxt (txtB s) s := fun u i w hd => by
 unfold txtB at hd ⊢
 rw [List.append_assoc] at hd
 have hr := ysd hd (yip _)
 unfold pTxt pLen
 rw [yew h u i _ hd]
 simp only [Option.bind_some]
 rw [List.length_append] at hr
 rw [if_pos (by omega)]
 simp only [Option.map_some]
 rw [ycs hd, List.take_append_of_le_length (Nat.le_refl _), List.take_length, List.length_append]
 congr 2; omega
theorem rb_rep {α β : Type} {f : List UInt8 → Nat → Option (β × Nat)} {g : α → List UInt8} {n : α → β} : ∀ (l : List α), (∀ x ∈ l, RdB f (g x) (n x)) → RdB (fun u i => pRep (f u) l.length i) (l.flatMap g) (l.map n)
 | [], _ => fun u i w hd => by simp [pRep]
 | a :: l, h => fun u i w hd => by
  rw [List.flatMap_cons, List.append_assoc] at hd
  simp only [List.length_cons, pRep]
  rw [h a (by simp) u i _ hd]
  simp only [Option.bind_some]
  have := rb_rep l (fun x hx => h x (by simp [hx])) u _ w (ycs hd)
  simp only at this
  rw [this]
  simp only [Option.map_some, List.map_cons, List.flatMap_cons, List.length_append]
  congr 2; omega
theorem ysf {α : Type} {g : α → List UInt8} (hg : ∀ x, g x ≠ []) : ∀ l : List α, l.length ≤ (l.flatMap g).length
 | [] => by simp
 | a :: l => by
  have := ysf hg l
  have h0 : 0 < (g a).length := List.length_pos_iff.2 (hg a)
  rw [List.flatMap_cons, List.length_append, List.length_cons]; omega
theorem yks {α β : Type} {f : List UInt8 → Nat → Option (β × Nat)} {g : α → List UInt8} {n : α → β} (hg : ∀ x, g x ≠ []) (l : Option (List α)) (hl : lenO l ≤ 2 ^ 60) (h : ∀ x ∈ l.getD [], RdB f (g x) (n x)) : RdB (fun u i => pLst (f u) u i) (lstB g l) (optOf ((l.getD []).map n)) := fun u i w hd => by
 unfold lstB at hd ⊢
 rw [List.append_assoc] at hd
 have hr := ysd hd (yip _)
 have hf := ysf hg (l.getD [])
 rw [List.length_append] at hr
 simp only [pLst, pLen]
 rw [yew hl u i _ hd]
 simp only [Option.bind_some]
 rw [if_pos (by unfold lenO at *; omega)]
 simp only [Option.bind_some]
 have := rb_rep (l.getD []) h u _ w (ycs hd)
 have this' : pRep (f u) (lenO l) (i + (numB (lenO l)).length) = _ := this
 rw [this']
 simp only [Option.map_some, List.length_append]
 congr 2; omega
def nIns (x : Ins) : Ins := ⟨x.op, x.a, x.b, x.c, x.k, x.n, x.s, optOf ((x.l.getD []).map id)⟩
def nFnc (f : Fnc) : Fnc := ⟨f.nm, f.p, f.s, optOf ((f.cd.getD []).map nIns), optOf ((f.gd.getD []).map id)⟩
def nCod (c : Cod) : Cod := optOf ((c.getD []).map nFnc)
theorem ysg {n : Int} (h : 0 ≤ n ∧ n ≤ 14) : ((byB n).toNat : Int) = n := by
 unfold byB; simp; omega
theorem yhe {n : Int} (h : 0 ≤ n) : ((n.toNat : Nat) : Int) = n := by omega
theorem txtB_ne (s : List UInt8) : txtB s ≠ [] := fun h => yip s.length (List.append_eq_nil_iff.1 h).1
theorem rb_ins {x : Ins} (hb : BndI x) (hl : lenO x.l ≤ 2 ^ 60) : RdB pIns (insPB x) (nIns x) := fun u i w hd => by
 obtain ⟨hop, ha, hbb, hc, hv, hL⟩ := hb
 obtain ⟨hk, hn, hs⟩ := ynk hv
 unfold BI at ha hbb hc
 unfold insPB at hd ⊢
 replace hd : u.drop i = [byB x.op] ++ (intB x.a ++ (intB x.b ++ (intB x.c ++ (byB x.k :: (intB x.n ++ (txtB x.s ++ lstB intB x.l)) ++ w)))) := hd.trans (by simp)
 have e0 := yse _ u i _ hd
 have d0 := ycs hd
 have e1 := yio (n := x.a) (by omega) u _ _ d0
 have d1 := ycs d0
 have e2 := yio (n := x.b) (by omega) u _ _ d1
 have d2 := ycs d1
 have e3 := yio (n := x.c) (by omega) u _ _ d2
 have d3 := ycs d2
 have d3' : u.drop _ = [byB x.k] ++ (intB x.n ++ (txtB x.s ++ (lstB intB x.l ++ w))) := d3.trans (by simp)
 have e4 := yse _ u _ _ d3'
 have d4 := ycs d3'
 have e5 := yio hn u _ _ d4
 have d5 := ycs d4
 have e6 := rb_txt (s := x.s) (by omega) u _ _ d5
 have d6 := ycs d5
 have e7 := yks (f := pInt) (g := intB) (n := id) (fun x => by unfold intB; exact yip _) x.l hl (fun n hn => yio (by have := hL n hn; unfold BI at this; omega)) u _ _ d6
 unfold pIns
 simp only [e0, e1, e2, e3, e4, e5, e6, e7, Option.bind_some, Option.map_some, nIns, ysg (n := x.op) (by omega), ysg (n := x.k) (by omega)]
 refine congrArg some (Prod.ext rfl ?_)
 simp only [List.length_cons, List.length_append, List.length_nil]
 omega
theorem rb_grd {x : Grd} (hb : BndG x) : RdB pGrd (grdPB x) x := fun u i w hd => by
 obtain ⟨h1, h2, h3, h4⟩ := hb
 unfold BN at h1 h2 h3 h4
 unfold grdPB natB at hd ⊢
 simp only [List.append_assoc] at hd
 have e0 := yew (n := x.f.toNat) (by omega) u i _ hd
 have d0 := ycs hd
 have e1 := yew (n := x.t.toNat) (by omega) u _ _ d0
 have d1 := ycs d0
 have e2 := yew (n := x.p.toNat) (by omega) u _ _ d1
 have d2 := ycs d1
 have e3 := yew (n := x.s.toNat) (by omega) u _ _ d2
 unfold pGrd
 simp only [e0, e1, e2, e3, Option.bind_some, Option.map_some, yhe h1.1, yhe h2.1, yhe h3.1, yhe h4.1]
 simp only [Option.some.injEq, Prod.mk.injEq]
 refine ⟨trivial, ?_⟩
 simp only [List.length_append]
 omega
theorem insPB_ne (x : Ins) : insPB x ≠ [] := by unfold insPB; simp
theorem grdPB_ne (x : Grd) : grdPB x ≠ [] := fun h => yip x.f.toNat (List.append_eq_nil_iff.1 h).1
theorem fncPB_ne (x : Fnc) : fncPB x ≠ [] := fun h => txtB_ne x.nm (List.append_eq_nil_iff.1 h).1
theorem rb_fnc {x : Fnc} (hb : BndF x) (hl : ∀ i ∈ x.cd.getD [], lenO i.l ≤ 2 ^ 60) : RdB pFnc (fncPB x) (nFnc x) := fun u i w hd => by
 obtain ⟨hn, hp, hs, hI, hG, hcl, hgl⟩ := hb
 unfold BN at hp hs
 unfold fncPB natB at hd ⊢
 simp only [List.append_assoc] at hd
 have e0 := rb_txt (s := x.nm) (by omega) u i _ hd
 have d0 := ycs hd
 have e1 := yew (n := x.p.toNat) (by omega) u _ _ d0
 have d1 := ycs d0
 have e2 := yew (n := x.s.toNat) (by omega) u _ _ d1
 have d2 := ycs d1
 have e3 := yks (f := pIns) (g := insPB) (n := nIns) insPB_ne x.cd (by omega) (fun y hy => rb_ins (hI y hy) (hl y hy)) u _ _ d2
 have d3 := ycs d2
 have e4 := yks (f := pGrd) (g := grdPB) (n := id) grdPB_ne x.gd (by omega) (fun y hy => rb_grd (hG y hy)) u _ _ d3
 simp only at e3 e4
 unfold pFnc
 simp only [e0, e1, e2, e3, e4, Option.bind_some, Option.map_some, yhe hp.1, yhe hs.1, nFnc]
 simp only [Option.some.injEq, Prod.mk.injEq]
 refine ⟨trivial, ?_⟩
 simp only [List.length_append]
 omega
theorem rb_cod {c : Cod} (hb : BndC c) (hl : ∀ f ∈ c.getD [], ∀ i ∈ f.cd.getD [], lenO i.l ≤ 2 ^ 60) : RdB pCod (lstB fncPB c) (nCod c) :=
 yks (f := pFnc) (g := fncPB) (n := nFnc) fncPB_ne c (by have := hb.1; omega) (fun f hf => rb_fnc (hb.2 f hf) (hl f hf))
end Go.Proofs.YtekmafoicobphaaGreatDoor
