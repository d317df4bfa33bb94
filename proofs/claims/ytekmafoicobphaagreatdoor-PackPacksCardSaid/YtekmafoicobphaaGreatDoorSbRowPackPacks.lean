/- Chapter 13: what the rows give to the evaluator; codes as a row hands them in. -/
import Derived.Test.YtekmafoicobphaaGreatDoorSbPk5
import Derived.Test.YtekmafoicobphaaGreatDoorSbShaped
import Derived.Test.YtekmafoicobphaaGreatDoorSbArgL
import Derived.Lay
import Derived.LaidMore
import Derived.Test.YtekmafoicobphaaGreatDoorCards
import Derived.Test.YtekmafoicobphaaGreatDoorTie
import Derived.Test.YtekmafoicobphaaGreatDoorSbRv4
import Derived.Test.YtekmafoicobphaaGreatDoorSbRvQ
import Derived.Test.YtekmafoicobphaaGreatDoorSbPk7
import Derived.Test.YtekmafoicobphaaGreatDoorSbSm
set_option linter.unusedVariables false
set_option linter.unusedSimpArgs false
namespace Go.Proofs.YtekmafoicobphaaGreatDoor
open Go.Sb Go.ChangeShapes Go.WideShapes Go.ChangeAt Go.WideMaps Go.WideElems Go.RowKit
set_option maxRecDepth 100000
theorem own : ownKnob Tryz.prog.godebug = none := by kernel_rfl
theorem laidOut : laidOutB Tryz.prog = true := by kernel_rfl
theorem yya {H : Type} : (Rows.laid_strings_asciiSpace : DataW H) = .agg (Lib.asciiSpaceTab.map fun n => .lit (.int .u8 n)) := by rfl
theorem gl_of {W : World} {laid : List (String × DataW Unit)} {ps : List MemPlace} (hsh : W.ShapedOpen Tryz.prog) (h : DataW.LaidVars Tryz.prog W laid ps)
  (hm : ("strings.asciiSpace", Rows.laid_strings_asciiSpace) ∈ laid) :
  ∀ g cs, envQ.gl g = some cs → GlOk (fun r => r < W.heap.size) W g cs := by
 intro g cs hg
 have hg' : (bif Nat.beq g 0 then some spaceV else bif Nat.beq g 2 then some [.ub .i64] else none) = some cs := hg
 simp only [cond_eq_ite] at hg'
 split at hg'
 ·rename_i e; have e := Nat.eq_of_beq_eq_true e; subst e; cases hg'
  rw [yya] at hm
  exact laid_rop (ns := Lib.asciiSpaceTab) h hm (g := 0) (by kernel_rfl) (t := 170) (by kernel_rfl) Tryz.underlying170 Tryz.underlying5 (by kernel_rfl) (by kernel_rfl)
 split at hg'
 ·rename_i e; have e := Nat.eq_of_beq_eq_true e; subst e; cases hg'
  exact ub_gl (zero := #[.int .i64 0]) (t := 3) hsh (jT (by kernel_rfl)) (by kernel_rfl) rfl (by kernel_rfl) (by kernel_rfl) Tryz.underlying3
 ·cases hg'
theorem ydy {L n : Nat} {vs : List V} (h : ShpL L envQ (n + 1) 3 vs) : ∃ z, vs = [.int .i64 z] ∧ (Lit.int .i64 z).wf = true := by
 obtain ⟨d, hd, _, h⟩ := h
 cases (show some ty3 = some d from hd)
 exact h
theorem ysg {L n : Nat} {vs : List V} (h : ShpL L envQ (n + 1) 9 vs) : ∃ s, vs = [.str s] ∧ s.length ≤ L := by
 obtain ⟨d, hd, _, h⟩ := h
 cases (show some ty9 = some d from hd)
 exact h
theorem els_of {α : Type} {L n : Nat} {e : TypeId} {y : TyD} {f : α → V} {P : α → Prop} (hel : ∀ v, ShpL L envQ n e v.cells → ((y.agg = true → ∃ cs, v = .agg cs) ∧ (y.agg = false → v.isCell = true)) → ∃ a, v = f a ∧ P a) : ∀ {es : List V}, (∀ v ∈ es, ShpL L envQ n e v.cells ∧ ((y.agg = true → ∃ cs, v = .agg cs) ∧ (y.agg = false → v.isCell = true))) → ∃ l : List α, es = l.map f ∧ ∀ a ∈ l, P a
 | [], _ => ⟨[], rfl, fun t ht => by cases ht⟩
 | v :: es, h => by
  obtain ⟨T, rfl, hT⟩ := els_of hel (es := es) fun w hw => h w (by simp [hw])
  obtain ⟨h1, h2⟩ := h v (by simp)
  obtain ⟨t, rfl, ht⟩ := hel v h1 h2
  exact ⟨t :: T, rfl, fun a ha => by
   rcases List.mem_cons.1 ha with rfl | ha
   ·exact ht
   ·exact hT a ha⟩
theorem ylf {α : Type} {L n : Nat} {t e : TypeId} {d y : TyD} {f : α → V} {P : α → Prop} {vs : List V} (ht : envQ.ty t = some d) (hu : d.u = .slice e) (hy : envQ.ty e = some y) (hb : 1 ≤ y.bytes)
  (hel : ∀ v, ShpL L envQ n e v.cells → ((y.agg = true → ∃ cs, v = .agg cs) ∧ (y.agg = false → v.isCell = true)) → ∃ a, v = f a ∧ P a) (h : ShpL L envQ (n + 1) t vs) : ∃ l : Option (List α), vs = [optL y.size f l] ∧ lenO l ≤ L ∧ ∀ a ∈ l.getD [], P a := by
 obtain ⟨d', hd, _, h⟩ := h
 rw [ht] at hd; cases hd
 rw [hu] at h
 obtain ⟨y', hy', h⟩ := h
 rw [hy] at hy'; cases hy'
 rcases h with rfl | ⟨es, rfl, ⟨_, hw⟩, hes⟩
 ·exact ⟨none, rfl, by simp [lenO], fun a ha => by cases ha⟩
 ·obtain ⟨l, rfl, hl⟩ := els_of hel hes
  refine ⟨some l, rfl, ?_, hl⟩
  rw [List.length_map] at hw
  exact Nat.le_trans (Nat.le_mul_of_pos_right _ hb) hw
theorem opn_int {L n : Nat} (v : V) (h : ShpL L envQ (n + 1) 3 v.cells) (hv : ((ty3).agg = true → ∃ cs, v = .agg cs) ∧ ((ty3).agg = false → v.isCell = true)) : ∃ a : Int, v = intV a ∧ True := by
 obtain ⟨z, h1, _⟩ := ydy h
 have hc := hv.2 rfl
 refine ⟨z, ?_, trivial⟩
 cases v with
 | agg cs => cases hc
 | _ => simp [V.cells, intV] at h1 <;> (obtain ⟨rfl, rfl⟩ := h1; rfl)
theorem yyb {L n : Nat} {vs : List V} (h : ShpL L envQ (n + 2) 65 vs) : ∃ k m s, vs = [.int .i64 k, .int .i64 m, .str s] ∧ s.length ≤ L := by
 obtain ⟨d, hd, _, h⟩ := h
 cases (show some ty65 = some d from hd)
 obtain ⟨_, _, e, g1, _, _, rfl, g2, _, _, rfl, g3, rfl⟩ := h
 obtain ⟨y1, rfl, _⟩ := ydy g1
 obtain ⟨y2, rfl, _⟩ := ydy g2
 obtain ⟨y3, rfl, w3⟩ := ysg g3
 exact ⟨y1, y2, y3, e, w3⟩
theorem yyc {L n : Nat} {vs : List V} (h : ShpL L envQ (n + 2) 66 vs) : ∃ l : Option (List Int), vs = [optL 1 intV l] ∧ lenO l ≤ L := by
 obtain ⟨l, h1, h2, _⟩ := ylf (t := 66) (e := 3) (d := ty66) (y := ty3) (f := intV) (P := fun _ => True) rfl rfl rfl (by decide) (fun v => opn_int v) h
 exact ⟨l, h1, h2⟩
def InsL (L : Nat) (x : Ins) : Prop := lenO x.l ≤ L ∧ x.s.length ≤ L
theorem opn_ins {L n : Nat} (v : V) (h : ShpL L envQ (n + 3) 68 v.cells) (hv : ((ty68).agg = true → ∃ cs, v = .agg cs) ∧ ((ty68).agg = false → v.isCell = true)) : ∃ x : Ins, v = insV x ∧ InsL L x := by
 obtain ⟨cs, rfl⟩ := hv.1 rfl
 obtain ⟨d, hd, _, h⟩ := h
 cases (show some ty68 = some d from hd)
 obtain ⟨_, _, e, g1, _, _, rfl, g2, _, _, rfl, g3, _, _, rfl, g4, _, _, rfl, g5, _, _, rfl, g6, rfl⟩ := h
 obtain ⟨y1, rfl, _⟩ := ydy g1
 obtain ⟨y2, rfl, _⟩ := ydy g2
 obtain ⟨y3, rfl, _⟩ := ydy g3
 obtain ⟨y4, rfl, _⟩ := ydy g4
 obtain ⟨k, m, s, rfl, w⟩ := yyb g5
 obtain ⟨l, rfl, wl⟩ := yyc g6
 have e : cs = (⟨y1, y2, y3, y4, k, m, s, l⟩ : Ins).cells := e
 subst e
 exact ⟨⟨y1, y2, y3, y4, k, m, s, l⟩, rfl, wl, w⟩
theorem opn_grd {L n : Nat} (v : V) (h : ShpL L envQ (n + 2) 70 v.cells) (hv : ((ty70).agg = true → ∃ cs, v = .agg cs) ∧ ((ty70).agg = false → v.isCell = true)) : ∃ x : Grd, v = grdV x ∧ True := by
 obtain ⟨cs, rfl⟩ := hv.1 rfl
 obtain ⟨d, hd, _, h⟩ := h
 cases (show some ty70 = some d from hd)
 obtain ⟨_, _, e, g1, _, _, rfl, g2, _, _, rfl, g3, _, _, rfl, g4, rfl⟩ := h
 obtain ⟨y1, rfl, _⟩ := ydy g1
 obtain ⟨y2, rfl, _⟩ := ydy g2
 obtain ⟨y3, rfl, _⟩ := ydy g3
 obtain ⟨y4, rfl, _⟩ := ydy g4
 have e : cs = (⟨y1, y2, y3, y4⟩ : Grd).cells := e
 subst e
 exact ⟨⟨y1, y2, y3, y4⟩, rfl, trivial⟩
def FncL (L : Nat) (f : Fnc) : Prop := f.nm.length ≤ L ∧ lenO f.cd ≤ L ∧ lenO f.gd ≤ L ∧ ∀ x ∈ f.cd.getD [], InsL L x
theorem opn_fnc {L n : Nat} (v : V) (h : ShpL L envQ (n + 5) 61 v.cells) (hv : ((ty61).agg = true → ∃ cs, v = .agg cs) ∧ ((ty61).agg = false → v.isCell = true)) : ∃ x : Fnc, v = fncV x ∧ FncL L x := by
 obtain ⟨cs, rfl⟩ := hv.1 rfl
 obtain ⟨d, hd, _, h⟩ := h
 cases (show some ty61 = some d from hd)
 obtain ⟨_, _, e, g1, _, _, rfl, g2, _, _, rfl, g3, _, _, rfl, g4, _, _, rfl, g5, rfl⟩ := h
 obtain ⟨y1, rfl, w1⟩ := ysg g1
 obtain ⟨y2, rfl, _⟩ := ydy g2
 obtain ⟨y3, rfl, _⟩ := ydy g3
 obtain ⟨cd, rfl, wc, hc⟩ := ylf (t := 58) (e := 68) (d := ty58) (y := ty68) (f := insV) (P := InsL L) rfl rfl rfl (by decide) (fun v => opn_ins v) g4
 obtain ⟨gd, rfl, wg, _⟩ := ylf (t := 59) (e := 70) (d := ty59) (y := ty70) (f := grdV) (P := fun _ => True) rfl rfl rfl (by decide) (fun v => opn_grd v) g5
 have e : cs = (⟨y1, y2, y3, cd, gd⟩ : Fnc).cells := e
 subst e
 exact ⟨⟨y1, y2, y3, cd, gd⟩, rfl, w1, wc, wg, hc⟩
def CodL (L : Nat) (c : Cod) : Prop := lenO c ≤ L ∧ ∀ f ∈ c.getD [], FncL L f
theorem shpA_cod {L n : Nat} {u : V} (h : ShpAL L envQ (n + 7) 25 u) : ∃ c : Cod, u = codV c ∧ CodL L c := by
 obtain ⟨h1, h2⟩ := h
 obtain ⟨cs, rfl⟩ := (h2 ty25 rfl).1 rfl
 obtain ⟨d, hd, _, h⟩ := h1
 cases (show some ty25 = some d from hd)
 obtain ⟨_, _, e, g1, rfl⟩ := h
 obtain ⟨c, rfl, wc, hc⟩ := ylf (t := 23) (e := 61) (d := ty23) (y := ty61) (f := fncV) (P := FncL L) rfl rfl rfl (by decide) (fun v => opn_fnc v) g1
 have e : cs = [optL 5 fncV c] := e
 subst e
 exact ⟨c, rfl, wc, hc⟩
theorem CodL.ok {c : Cod} (h : CodL reachBytes c) : CodOk c ∧ ∀ f ∈ c.getD [], lenO f.cd ≤ 2 ^ 50 := by
 have hr : reachBytes ≤ 2 ^ 50 := by decide
 refine ⟨⟨Nat.le_trans h.1 hr, fun f hf => ?_⟩, fun f hf => Nat.le_trans (h.2 f hf).2.1 hr⟩
 obtain ⟨h1, h2, h3, h4⟩ := h.2 f hf
 exact ⟨Nat.le_trans h1 hr, Nat.le_trans h3 hr, fun x hx => ⟨Nat.le_trans (h4 x hx).1 hr, Nat.le_trans (h4 x hx).2 hr⟩⟩
end Go.Proofs.YtekmafoicobphaaGreatDoor

/- The law PackPacks. -/

namespace Go.Proofs.YtekmafoicobphaaGreatDoor
open Go.Sb
set_option maxRecDepth 100000
theorem ybe {E : Env} {md : Go.FuncId → Sb.Mode} {o : ROp} {os : List ROp} {s : List V} {h g : Heap} {v : V} {K : List V → Heap → Prop} {a0 a1 a2 a3 a4 a5 a6 a7 a8 a9 a10 a11 a12 a13 a14 a15 a16 a17 a18 a19 a20 a21 a22 a23 a24 a25 a26 a27 a28 a29 a30 a31 a32 a33 a34 a35 a36 a37 a38 a39 a40 a41 a42 a43 a44 a45 a46 a47 a48 a49 a50 a51 : V} (hn : yai E md os [a0, a1, a2, a3, a4, a5, a6, a7, a8, a9, a10, a11, a12, a13, a14, a15, a16, a17, a18, a19, a20, a21, a22, a23, a24, a25, a26, a27, a28, a29, a30, a31, a32, a33, a34, a35, a36, a37, a38, a39, a40, a41, a42, a43, a44, a45, a46, a47, a48, a49, a50, a51] g K) (hop : ∀ K : V → Heap → Prop, K v g → runOp E md o.op s h K := by exact fun _ => id) (hg : o.gd = none := by rfl) (hs : putT s o.dst v = [a0, a1, a2, a3, a4, a5, a6, a7, a8, a9, a10, a11, a12, a13, a14, a15, a16, a17, a18, a19, a20, a21, a22, a23, a24, a25, a26, a27, a28, a29, a30, a31, a32, a33, a34, a35, a36, a37, a38, a39, a40, a41, a42, a43, a44, a45, a46, a47, a48, a49, a50, a51] := by rfl) : yai E md (o :: os) s h K := ybl hg hop hs hn
theorem yfp {E : Env} {md : Go.FuncId → Sb.Mode} {o : ROp} {os : List ROp} {s : List V} {h g : Heap} {v : V} {K : List V → Heap → Prop} {a0 a1 a2 a3 a4 a5 a6 a7 a8 a9 a10 a11 a12 a13 a14 a15 a16 a17 a18 a19 a20 a21 a22 a23 a24 a25 a26 a27 a28 a29 a30 a31 a32 a33 a34 a35 a36 a37 a38 a39 a40 a41 a42 a43 a44 a45 a46 a47 a48 a49 a50 a51 : V} {t : Go.Tmp} {w : Bool} (hn : yai E md os [a0, a1, a2, a3, a4, a5, a6, a7, a8, a9, a10, a11, a12, a13, a14, a15, a16, a17, a18, a19, a20, a21, a22, a23, a24, a25, a26, a27, a28, a29, a30, a31, a32, a33, a34, a35, a36, a37, a38, a39, a40, a41, a42, a43, a44, a45, a46, a47, a48, a49, a50, a51] g K) (hop : ∀ K : V → Heap → Prop, K v g → runOp E md o.op s h K := by exact fun _ => id) (hg : o.gd = some (t, w) := by rfl) (hb : getT s t = .bool w := by rfl) (hs : putT s o.dst v = [a0, a1, a2, a3, a4, a5, a6, a7, a8, a9, a10, a11, a12, a13, a14, a15, a16, a17, a18, a19, a20, a21, a22, a23, a24, a25, a26, a27, a28, a29, a30, a31, a32, a33, a34, a35, a36, a37, a38, a39, a40, a41, a42, a43, a44, a45, a46, a47, a48, a49, a50, a51] := by rfl) : yai E md (o :: os) s h K := yez hg hb hop hs hn
theorem ysh {c : Cod} (hok : CodOk c) (hv : ydu c = true) (hp : partC c ≤ 20000) : (codPB c).length ≤ 2 ^ 38 := by
 have := yxq (ynm hv) (fun f hf x hx => by have := ok_len hok f hf x hx; omega)
 omega
set_option maxHeartbeats 8000000 in
theorem yyd (u : V) (hu : ∃ c, u = codV c ∧ CodL reachBytes c) : Has envQ .own 5 [u] [] (.val (.bool true) []) := by
 obtain ⟨c, rfl, hL⟩ := hu
 obtain ⟨hok, hcd⟩ := hL.ok
 obtain ⟨b, hsm, hb⟩ := yxz [.cells 25 [optL 5 fncV c]] c ⟨hok, hcd⟩
 refine HasP.own (a := [codV c]) (d := fn5) (yaj (fz_ag (yhe c)) yax) rfl rfl (jT rfl) ?_
 show ybc (initT _ [.agg [optL 5 fncV c]]) _
 refine jW ?_
 refine jR _ ?_
 refine ybe (v := .ptr 0 0 1) (g := [.cells 25 [optL 5 fncV c]]) ?_ (fun K hK => yco (yhe c) hK)
 refine ybe ?_
 refine jW ?_
 refine jR _ ?_
 refine ybe (v := codV c) (g := [.cells 25 [optL 5 fncV c]]) ?_
 refine ybe ?_ (fun K hK => CallK.of hsm hK)
 cases b with
 | false =>
  refine ybe ?_
  refine jW ?_
  refine jR _ ?_
  refine ybe ?_ (fun K hK => CallK.of (ykg _) hK)
  refine ybe ?_
  refine jW ?_
  apply jH
  exact ⟨rfl, rfl, jO _⟩
 | true =>
  have hp := hb rfl
  have hpk := Pack_has [.cells 25 [optL 5 fncV c]] c hok (fun hv => ysh hok hv hp)
  have hval := ywx [.cells 25 [optL 5 fncV c]] c hok
  have hiff := ywy hok
  refine ybe ?_
  refine jW ?_
  refine jR _ ?_
  refine ybe (v := codV c) (g := [.cells 25 [optL 5 fncV c]]) ?_
  refine ybe ?_ (fun K hK => CallK.of hpk hK)
  refine ybe ?_
  by_cases hv : ydu c = true
  ·have hrp := yxy [.cells 25 [optL 5 fncV c]] c (ynm hv) (ok_len hok) (ysh hok hv hp)
   rw [decide_eq_true (hiff.1 hv)] at hval
   unfold packV
   rw [if_pos hv]
   by_cases hlen : 60000 < (sealB (codPB c)).length
   ·rw [if_pos hlen]
    iterate 2 (refine ybe ?_)
    refine jW ?_
    refine jR _ ?_
    refine ybe (v := codV c) (g := [.cells 25 [optL 5 fncV c]]) ?_
    refine ybe ?_ (fun K hK => CallK.of hval hK)
    refine ybe ?_
    refine jW ?_
    refine jR _ ?_
    refine ybe (v := codV c) (g := [.cells 25 [optL 5 fncV c]]) ?_
    refine ybe ?_ (fun K hK => CallK.of hrp hK)
    refine ybe ?_
    refine jW ?_
    refine jR _ ?_
    iterate 2 (refine ybe ?_)
    refine ybe ?_ (fun K hK => jI (fun _ => hK) (fun q => absurd q (by omega)))
    refine jW ?_
    refine jR _ ?_
    refine ybe ?_
    refine ybe ?_ (fun K hK => jI (fun _ => hK) (fun q => absurd rfl q))
    refine ybe ?_
    refine yfp ?_
    refine yfp ?_ (fun K hK => jI (fun _ => hK) (fun q => absurd rfl q))
    iterate 2 (refine ybe ?_)
    refine yfp ?_ (fun K hK => CallK.of (ykg _) hK)
    iterate 2 (refine ybe ?_)
    refine jW ?_
    apply jH
    exact ⟨rfl, rfl, jO _⟩
   ·rw [if_neg hlen]
    iterate 2 (refine ybe ?_)
    refine jW ?_
    refine jR _ ?_
    refine ybe (v := codV c) (g := [.cells 25 [optL 5 fncV c]]) ?_
    refine ybe ?_ (fun K hK => CallK.of hval hK)
    refine ybe ?_
    refine jW ?_
    refine jR _ ?_
    refine ybe (v := codV c) (g := [.cells 25 [optL 5 fncV c]]) ?_
    refine ybe ?_ (fun K hK => CallK.of hrp hK)
    refine ybe ?_
    refine jW ?_
    refine jR _ ?_
    iterate 2 (refine ybe ?_)
    refine ybe ?_ (fun K hK => jI (fun q => absurd q (by omega)) (fun _ => hK))
    refine jW ?_
    refine jR _ ?_
    iterate 2 (refine ybe ?_)
    refine ybe ?_ (fun K hK => jI (fun _ => hK) (fun q => absurd rfl q))
    refine ybe ?_
    refine yfp ?_
    refine yfp ?_ (fun K hK => jI (fun _ => hK) (fun q => absurd rfl q))
    iterate 2 (refine ybe ?_)
    refine yfp ?_ (fun K hK => CallK.of (ykg _) hK)
    iterate 2 (refine ybe ?_)
    refine jW ?_
    apply jH
    exact ⟨rfl, rfl, jO _⟩
  ·rw [decide_eq_false (fun q => hv (hiff.2 q))] at hval
   unfold packV
   rw [if_neg hv]
   iterate 2 (refine ybe ?_)
   refine jW ?_
   refine jR _ ?_
   refine ybe (v := codV c) (g := [.cells 25 [optL 5 fncV c]]) ?_
   refine ybe ?_ (fun K hK => CallK.of hval hK)
   refine ybe ?_
   refine jW ?_
   refine jR _ ?_
   refine ybe ?_
   refine ybe ?_ (fun K hK => jI (fun _ => hK) (fun q => absurd rfl q))
   refine ybe ?_
   refine yfp ?_
   refine yfp ?_ (fun K hK => jI (fun _ => hK) (fun q => absurd rfl q))
   iterate 2 (refine ybe ?_)
   refine yfp ?_ (fun K hK => CallK.of (ykg _) hK)
   iterate 2 (refine ybe ?_)
   refine jW ?_
   apply jH
   exact ⟨rfl, rfl, jO _⟩
end Go.Proofs.YtekmafoicobphaaGreatDoor

/- PROVED: for whatever arguments, seedbedlaw13.PackPacks returns true without a panic, and the arguments read afterwards as they read before. CONDITIONS: those of the given card alone (the listed tables of the library read at the call as the program's text lays them: tied by the given tie). -/

namespace Go.Proofs.YtekmafoicobphaaGreatDoor
open Go Go.Sb Go.ChangeShapes Go.WideShapes Go.ChangeAt Go.WideMaps Go.WideElems Go.RowKit
set_option maxRecDepth 100000
theorem yye (us : List V) (h : yic reachBytes envQ 8 [25] us) : Has envQ .own 5 us [] (.val (.bool true) []) := by
 rcases us with _ | ⟨u0, _ | ⟨x, us⟩⟩
 ·exact (show False from h).elim
 ·have h0 : ShpAL reachBytes envQ (8) 25 u0 := h.1
  exact yyd u0 (shpA_cod h0)
 ·exact (show False from h.2).elim
theorem yyf (os : Os) (args : Array Value) : laidMetH Tryz.prog Rows.packPacksRow.laid ((World.laidAll Tryz.prog os Rows.packPacksRow.laid).forCall (fun _ _ => 0) ⟨#[], args, []⟩).memory := by
 rw [MakeChecks.laidMetH_plain _ _ _ (by kernel_rfl)]
 exact laidMet_laidAll _ (by kernel_rfl) (by kernel_rfl)
theorem yyg (os : Os) (started : os.Started) (H : Type) (enc : TypeId × Value → H) :
  ReturnsInHanded {} Tryz.checked os 5 .any (fun w args => (Rows.packPacksSpec.pre enc Tryz.prog Tryz.f5 [] false w args ∧ laidMetH Tryz.prog Rows.packPacksRow.laid w) ∧ sizedMet enc Tryz.prog Tryz.f5 (OpenSpec.ofChange Rows.packPacksSpec) false w args)
   (Rows.packPacksSpec.post enc Tryz.prog Tryz.f5 false true false false) := by
 refine yux (C := Tryz.checked) (X := fun w _ => laidMetH Tryz.prog Rows.packPacksRow.laid w) (fun _ _ _ hh h => h.of_heap hh) own started (by kernel_rfl) Tryz.func5
  (ChangeSpec.witness_shaped (enc := enc) (C := Tryz.checked) (os := os) (X := fun w _ => laidMetH Tryz.prog Rows.packPacksRow.laid w) false (World.laidAll Tryz.prog os Rows.packPacksRow.laid) #[.agg #[.slice none 0 0]] 8 (World.laidAll_os _ _ _) (World.shaped_of_ZipB (by kernel_rfl) (by kernel_rfl)) (by kernel_rfl) (by kernel_rfl) (by kernel_rfl) (yyf os _)) ?_
 intro W base args ds gs before hval hW hwt hsh hL
 rw [MakeChecks.laidMetH_plain _ _ _ (by kernel_rfl)] at hL
 obtain ⟨ps, hL, _, _⟩ := hL
 refine yuw (fn := Tryz.f5) (n := 8) (rt := 4) envQ_ok laidOut (by kernel_rfl) (by kernel_rfl) (by kernel_rfl) Tryz.underlying4 rfl ?_ ?_ (gl_of hsh hL (by simp [Rows.packPacksRow])) hval hW hwt
 ·intro ds hd
  rw [Tryz.params5] at hd
  match ds, hd with
  | [d0], _ => exact ⟨rfl, rfl, rfl⟩
 ·rw [Tryz.params5]
  exact yye
theorem yyh : Rows.PackPacksSaid :=
 OpenClaim.holds_of_wide 5 Tryz.f5 rfl rfl rfl rfl rfl rfl rfl ⟨rfl, rfl, rfl, rfl, rfl⟩ rfl rfl rfl rfl rfl (by kernel_rfl) Tryz.func5 (by kernel_rfl)
  (jT (by kernel_rfl)) (by unfold Func.isWrapper; first | (rw [if_pos (by decide +kernel)]; kernel_rfl) | (rw [if_neg (by decide +kernel)]; exact ⟨rfl, rfl⟩))
  (fun os started H enc _ => yyg os started H enc)
theorem packPacks_card : Rows.PackPacksCardSaid :=
 Claim7.holds_tied_plain_at .later [] [.data, .listed, .data, .pinned] true (true, "d8eb96f3ccea2aeb7fd989a42a9802fd4731d57f4d8e1844e4711a23ec0d74dc") true
  yyh (fun _ h => by cases h) (by kernel_rfl) (fun _ h => by cases h) packPacks_row_tie rfl ⟨rfl, rfl⟩ (by kernel_rfl) rfl
  (fun f fn hf hfn => by
   obtain rfl : f = 5 := Option.some.inj ((show Tryz.prog.funcNamed "seedbed/seedbedlaw13.PackPacks" = some 5 by kernel_rfl).symm.trans hf) |>.symm
   obtain rfl : fn = Tryz.f5 := (Option.some.inj (Tryz.func5.symm.trans hfn)).symm
   exact ⟨by kernel_rfl, fun j t ht => by
    rw [Tryz.params5] at ht
    have hm : t ∈ [25] := by simpa using Array.mem_of_getElem? ht
    have hall : ([25].all fun u => !Tryz.prog.wantsStandIn u) = true := by kernel_rfl
    exact (show Tryz.prog.wantsStandIn t = false by simpa using List.all_eq_true.1 hall t hm)⟩)
  (by kernel_rfl)
#print axioms packPacks_card
end Go.Proofs.YtekmafoicobphaaGreatDoor
