/- Chapter 13: what the rows give to the evaluator; codes ars a row hands them in. -/
import Derived.Test.YtekmafoicobphaaGreatDoorSbRt
import Derived.Test.YtekmafoicobphaaGreatDoorSbShaped
import Derived.Test.YtekmafoicobphaaGreatDoorSbArgL
import Derived.Lay
import Derived.LaidMore
import Derived.Test.YtekmafoicobphaaGreatDoorCards
import Derived.Test.YtekmafoicobphaaGreatDoorTie
import Derived.Test.YtekmafoicobphaaGreatDoorSb13Dmg
import Derived.Test.YtekmafoicobphaaGreatDoorSbPk7
set_option linter.unusedVariables false
set_option linter.unusedSimpArgs false
namespace Go.Proofs.YtekmafoicobphaaGreatDoor
open Go.Sb Go.ChangeShapes Go.WideShapes Go.ChangeAt Go.WideMaps Go.WideElems Go.RowKit
set_option maxRecDepth 100000
theorem own : ownKnob Tryz.prog.godebug = none := by kernel_rfl
theorem laidOut : laidOutB Tryz.prog = true := by kernel_rfl
theorem yys {H : Type} : (Rows.laid_strings_asciiSpace : DataW H) = .agg (Lib.asciiSpaceTab.map fun n => .lit (.int .u8 n)) := by rfl
theorem gl_of {W : World} {laid : List (String × DataW Unit)} {ps : List MemPlace} (hsh : W.ShapedOpen Tryz.prog) (h : DataW.LaidVars Tryz.prog W laid ps)
  (hm : ("strings.asciiSpace", Rows.laid_strings_asciiSpace) ∈ laid) :
  ∀ g cs, envQ.gl g = some cs → GlOk (fun r => r < W.heap.size) W g cs := by
 intro g cs hg
 have hg' : (bif Nat.beq g 0 then some spaceV else bif Nat.beq g 2 then some [.ub .i64] else none) = some cs := hg
 simp only [cond_eq_ite] at hg'
 split at hg'
 ·rename_i e; have e := Nat.eq_of_beq_eq_true e; subst e; cases hg'
  rw [yys] at hm
  exact laid_rop (ns := Lib.asciiSpaceTab) h hm (g := 0) (by kernel_rfl) (t := 170) (by kernel_rfl) Tryz.underlying170 Tryz.underlying5 (by kernel_rfl) (by kernel_rfl)
 split at hg'
 ·rename_i e; have e := Nat.eq_of_beq_eq_true e; subst e; cases hg'
  exact ub_gl (zero := #[.int .i64 0]) (t := 3) hsh (jT (by kernel_rfl)) (by kernel_rfl) rfl (by kernel_rfl) (by kernel_rfl) Tryz.underlying3
 ·cases hg'
theorem wf_i64 {n : Int} (h : (Lit.int .i64 n).wf = true) : -9223372036854775808 ≤ n ∧ n ≤ 9223372036854775807 := by
 simp [Lit.wf, IntKind.min, IntKind.max, IntKind.signed, IntKind.bits] at h
 omega
theorem ydg {L n : Nat} {vs : List V} (h : ShpL L envQ (n + 1) 3 vs) : ∃ z, vs = [.int .i64 z] ∧ (Lit.int .i64 z).wf = true := by
 obtain ⟨d, hd, _, h⟩ := h
 cases (show some ty3 = some d from hd)
 exact h
theorem ysz {L n : Nat} {vs : List V} (h : ShpL L envQ (n + 1) 9 vs) : ∃ s, vs = [.str s] ∧ s.length ≤ L := by
 obtain ⟨d, hd, _, h⟩ := h
 cases (show some ty9 = some d from hd)
 exact h
theorem yta {L n : Nat} {u : V} (h : ShpAL L envQ (n + 1) 3 u) : ∃ z, u = .int .i64 z ∧ (Lit.int .i64 z).wf = true := by
 obtain ⟨z, h1, h2⟩ := ydg h.1
 rw [(h.2 ty3 rfl).2 rfl] at h1
 exact ⟨z, by simpa using h1, h2⟩
theorem els_of {α : Type} {L n : Nat} {e : TypeId} {y : TyD} {f : α → V} {P : α → Prop} (hel : ∀ v, ShpL L envQ n e v.cells → ((y.agg = true → ∃ cs, v = .agg cs) ∧ (y.agg = false → v.isCell = true)) → ∃ a, v = f a ∧ P a) : ∀ {es : List V}, (∀ v ∈ es, ShpL L envQ n e v.cells ∧ ((y.agg = true → ∃ cs, v = .agg cs) ∧ (y.agg = false → v.isCell = true))) → ∃ l : List α, es = l.map f ∧ ∀ a ∈ l, P a
 | [], _ => ⟨[], rfl, fun t ht => by cases ht⟩
 | v :: es, h => by
  obtain ⟨T, rfl, hT⟩ := els_of hel (es := es) fun w hw => h w (by simp [hw])
  obtain ⟨h1, h2⟩ := h v (by simp)
  obtain ⟨t, rfl, ht⟩ := hel v h1 h2
  exact ⟨t :: T, rfl, fun a ha => by
   rcases List.mem_cons.1 ha with rfl | ha
   ·exact ht
   ·exact hT a ha⟩
theorem ylb {α : Type} {L n : Nat} {t e : TypeId} {d y : TyD} {f : α → V} {P : α → Prop} {vs : List V} (ht : envQ.ty t = some d) (hu : d.u = .slice e) (hy : envQ.ty e = some y) (hb : 1 ≤ y.bytes)
  (hel : ∀ v, ShpL L envQ n e v.cells → ((y.agg = true → ∃ cs, v = .agg cs) ∧ (y.agg = false → v.isCell = true)) → ∃ a, v = f a ∧ P a) (h : ShpL L envQ (n + 1) t vs) : ∃ l : Option (List α), vs = [optL y.size f l] ∧ lenO l ≤ L ∧ ∀ a ∈ l.getD [], P a := by
 obtain ⟨d', hd, _, h⟩ := h
 rw [ht] at hd; cases hd
 rw [hu] at h
 obtain ⟨y', hy', h⟩ := h
 rw [hy] at hy'; cases hy'
 rcases h with rfl | ⟨es, rfl, ⟨_, hw⟩, hes⟩
 ·exact ⟨none, rfl, by simp [lenO], fun a ha => by cases ha⟩
 ·obtain ⟨l, rfl, hl⟩ := els_of hel hes
  refine ⟨some l, rfl, ?_, hl⟩
  rw [List.length_map] at hw
  exact Nat.le_trans (Nat.le_mul_of_pos_right _ hb) hw
theorem opn_int {L n : Nat} (v : V) (h : ShpL L envQ (n + 1) 3 v.cells) (hv : ((ty3).agg = true → ∃ cs, v = .agg cs) ∧ ((ty3).agg = false → v.isCell = true)) : ∃ a : Int, v = intV a ∧ True := by
 obtain ⟨z, h1, _⟩ := ydg h
 have hc := hv.2 rfl
 refine ⟨z, ?_, trivial⟩
 cases v with
 | agg cs => cases hc
 | _ => simp [V.cells, intV] at h1 <;> (obtain ⟨rfl, rfl⟩ := h1; rfl)
theorem yyt {L n : Nat} {vs : List V} (h : ShpL L envQ (n + 2) 65 vs) : ∃ k m s, vs = [.int .i64 k, .int .i64 m, .str s] ∧ s.length ≤ L := by
 obtain ⟨d, hd, _, h⟩ := h
 cases (show some ty65 = some d from hd)
 obtain ⟨_, _, e, g1, _, _, rfl, g2, _, _, rfl, g3, rfl⟩ := h
 obtain ⟨y1, rfl, _⟩ := ydg g1
 obtain ⟨y2, rfl, _⟩ := ydg g2
 obtain ⟨y3, rfl, w3⟩ := ysz g3
 exact ⟨y1, y2, y3, e, w3⟩
theorem yyu {L n : Nat} {vs : List V} (h : ShpL L envQ (n + 2) 66 vs) : ∃ l : Option (List Int), vs = [optL 1 intV l] ∧ lenO l ≤ L := by
 obtain ⟨l, h1, h2, _⟩ := ylb (t := 66) (e := 3) (d := ty66) (y := ty3) (f := intV) (P := fun _ => True) rfl rfl rfl (by decide) (fun v => opn_int v) h
 exact ⟨l, h1, h2⟩
def InsL (L : Nat) (x : Ins) : Prop := lenO x.l ≤ L ∧ x.s.length ≤ L
theorem opn_ins {L n : Nat} (v : V) (h : ShpL L envQ (n + 3) 68 v.cells) (hv : ((ty68).agg = true → ∃ cs, v = .agg cs) ∧ ((ty68).agg = false → v.isCell = true)) : ∃ x : Ins, v = insV x ∧ InsL L x := by
 obtain ⟨cs, rfl⟩ := hv.1 rfl
 obtain ⟨d, hd, _, h⟩ := h
 cases (show some ty68 = some d from hd)
 obtain ⟨_, _, e, g1, _, _, rfl, g2, _, _, rfl, g3, _, _, rfl, g4, _, _, rfl, g5, _, _, rfl, g6, rfl⟩ := h
 obtain ⟨y1, rfl, _⟩ := ydg g1
 obtain ⟨y2, rfl, _⟩ := ydg g2
 obtain ⟨y3, rfl, _⟩ := ydg g3
 obtain ⟨y4, rfl, _⟩ := ydg g4
 obtain ⟨k, m, s, rfl, w⟩ := yyt g5
 obtain ⟨l, rfl, wl⟩ := yyu g6
 have e : cs = (⟨y1, y2, y3, y4, k, m, s, l⟩ : Ins).cells := e
 subst e
 exact ⟨⟨y1, y2, y3, y4, k, m, s, l⟩, rfl, wl, w⟩
theorem opn_grd {L n : Nat} (v : V) (h : ShpL L envQ (n + 2) 70 v.cells) (hv : ((ty70).agg = true → ∃ cs, v = .agg cs) ∧ ((ty70).agg = false → v.isCell = true)) : ∃ x : Grd, v = grdV x ∧ True := by
 obtain ⟨cs, rfl⟩ := hv.1 rfl
 obtain ⟨d, hd, _, h⟩ := h
 cases (show some ty70 = some d from hd)
 obtain ⟨_, _, e, g1, _, _, rfl, g2, _, _, rfl, g3, _, _, rfl, g4, rfl⟩ := h
 obtain ⟨y1, rfl, _⟩ := ydg g1
 obtain ⟨y2, rfl, _⟩ := ydg g2
 obtain ⟨y3, rfl, _⟩ := ydg g3
 obtain ⟨y4, rfl, _⟩ := ydg g4
 have e : cs = (⟨y1, y2, y3, y4⟩ : Grd).cells := e
 subst e
 exact ⟨⟨y1, y2, y3, y4⟩, rfl, trivial⟩
def FncL (L : Nat) (f : Fnc) : Prop := f.nm.length ≤ L ∧ lenO f.cd ≤ L ∧ lenO f.gd ≤ L ∧ ∀ x ∈ f.cd.getD [], InsL L x
theorem opn_fnc {L n : Nat} (v : V) (h : ShpL L envQ (n + 5) 61 v.cells) (hv : ((ty61).agg = true → ∃ cs, v = .agg cs) ∧ ((ty61).agg = false → v.isCell = true)) : ∃ x : Fnc, v = fncV x ∧ FncL L x := by
 obtain ⟨cs, rfl⟩ := hv.1 rfl
 obtain ⟨d, hd, _, h⟩ := h
 cases (show some ty61 = some d from hd)
 obtain ⟨_, _, e, g1, _, _, rfl, g2, _, _, rfl, g3, _, _, rfl, g4, _, _, rfl, g5, rfl⟩ := h
 obtain ⟨y1, rfl, w1⟩ := ysz g1
 obtain ⟨y2, rfl, _⟩ := ydg g2
 obtain ⟨y3, rfl, _⟩ := ydg g3
 obtain ⟨cd, rfl, wc, hc⟩ := ylb (t := 58) (e := 68) (d := ty58) (y := ty68) (f := insV) (P := InsL L) rfl rfl rfl (by decide) (fun v => opn_ins v) g4
 obtain ⟨gd, rfl, wg, _⟩ := ylb (t := 59) (e := 70) (d := ty59) (y := ty70) (f := grdV) (P := fun _ => True) rfl rfl rfl (by decide) (fun v => opn_grd v) g5
 have e : cs = (⟨y1, y2, y3, cd, gd⟩ : Fnc).cells := e
 subst e
 exact ⟨⟨y1, y2, y3, cd, gd⟩, rfl, w1, wc, wg, hc⟩
def CodL (L : Nat) (c : Cod) : Prop := lenO c ≤ L ∧ ∀ f ∈ c.getD [], FncL L f
theorem shpA_cod {L n : Nat} {u : V} (h : ShpAL L envQ (n + 7) 25 u) : ∃ c : Cod, u = codV c ∧ CodL L c := by
 obtain ⟨h1, h2⟩ := h
 obtain ⟨cs, rfl⟩ := (h2 ty25 rfl).1 rfl
 obtain ⟨d, hd, _, h⟩ := h1
 cases (show some ty25 = some d from hd)
 obtain ⟨_, _, e, g1, rfl⟩ := h
 obtain ⟨c, rfl, wc, hc⟩ := ylb (t := 23) (e := 61) (d := ty23) (y := ty61) (f := fncV) (P := FncL L) rfl rfl rfl (by decide) (fun v => opn_fnc v) g1
 have e : cs = [optL 5 fncV c] := e
 subst e
 exact ⟨c, rfl, wc, hc⟩
theorem CodL.ok {c : Cod} (h : CodL reachBytes c) : CodOk c ∧ ∀ f ∈ c.getD [], lenO f.cd ≤ 2 ^ 50 := by
 have hr : reachBytes ≤ 2 ^ 50 := by decide
 refine ⟨⟨Nat.le_trans h.1 hr, fun f hf => ?_⟩, fun f hf => Nat.le_trans (h.2 f hf).2.1 hr⟩
 obtain ⟨h1, h2, h3, h4⟩ := h.2 f hf
 exact ⟨Nat.le_trans h1 hr, Nat.le_trans h3 hr, fun x hx => ⟨Nat.le_trans (h4 x hx).1 hr, Nat.le_trans (h4 x hx).2 hr⟩⟩
end Go.Proofs.YtekmafoicobphaaGreatDoor

/- The law PackSealed. -/

namespace Go.Proofs.YtekmafoicobphaaGreatDoor
open Go.Sb
set_option maxRecDepth 100000
theorem ytb {s : Bs8} {c : Cod} (h : openP s = some c) : (∃ j, pCod ((s.take (s.length - 4)).drop 3) 0 = some (c, j) ∧ j = ((s.take (s.length - 4)).drop 3).length) ∧ ycy c = true ∧ sealB (codPB c) = s := by
 unfold openP at h
 split at h
 ·rename_i c' j hp
  split at h
  ·rename_i hq
   cases h
   exact ⟨⟨j, hp, hq.1⟩, hq.2.1, hq.2.2⟩
  ·cases h
 ·cases h
theorem openP_ok {s : Bs8} {c : Cod} (h : openP s = some c) (hs : s.length ≤ 2 ^ 40) : CodOk c ∧ (codPB c).length ≤ 2 ^ 38 ∨ 2 ^ 30 < s.length := by
 by_cases hl : s.length ≤ 2 ^ 30
 ·left
  obtain ⟨⟨j, hp, _⟩, hv, _⟩ := ytb h
  have hu : ((s.take (s.length - 4)).drop 3).length ≤ s.length := by simp; omega
  obtain ⟨hok, hpt⟩ := yss (ysr hp (Nat.zero_le _)) (by omega)
  refine ⟨hok, ?_⟩
  have := ynr (yge hv) (fun f hf x hx => by have := yir hok f hf x hx; omega)
  omega
 ·right; omega
theorem ylc (u : Bs8) : (sealB u).length = u.length + 4 := by unfold sealB; simp [sumL]
end Go.Proofs.YtekmafoicobphaaGreatDoor

/- Packed codes: a changed one is none. -/

namespace Go.Proofs.YtekmafoicobphaaGreatDoor
open Go.Sb
set_option maxRecDepth 100000
theorem foldS (r : List UInt8) : ∀ p : Int × Int, (r.foldl (fun (p : Int × Int) (c : UInt8) => ((p.1 + (c.toNat : Int)) % 65521, (p.2 + (p.1 + (c.toNat : Int)) % 65521) % 65521)) p).1 % 65521 = (p.1 + ((r.map fun c => (c.toNat : Int)).sum)) % 65521 := by
 induction r with
 | nil => intro p; simp
 | cons c r ih =>
  intro p
  rw [List.foldl_cons, ih, List.map_cons, List.sum_cons]
  simp only
  omega
theorem yyv (a b : List UInt8) {x y : UInt8} (h : x ≠ y) : sumB (a ++ x :: b) ≠ sumB (a ++ y :: b) := fun e => by
 have e1 := congrArg Prod.fst (sumB_inj e)
 have h1 := foldS (a ++ x :: b) (1, 0)
 have h2 := foldS (a ++ y :: b) (1, 0)
 unfold sumS at e1
 rw [e1] at h1
 rw [h1] at h2
 simp only [List.map_append, List.map_cons, List.sum_append, List.sum_cons] at h2
 have hx := x.toNat_lt
 have hy := y.toNat_lt
 have : x.toNat = y.toNat := by omega
 exact h (UInt8.toNat_inj.1 this)
theorem sumL_inj {u v : List UInt8} (h : sumL u = sumL v) : sumB u = sumB v := by
 have hu := ynl u
 have hv := ynl v
 unfold sumL at h
 simp only [List.cons.injEq, and_true] at h
 obtain ⟨h1, h2, h3, h4⟩ := h
 have k1 := congrArg UInt8.toNat h1
 have k2 := congrArg UInt8.toNat h2
 have k3 := congrArg UInt8.toNat h3
 have k4 := congrArg UInt8.toNat h4
 simp at k1 k2 k3 k4
 omega
theorem ytc {l : List UInt8} {i : Nat} (h : i < l.length) (o : UInt8) : l.set i o = l.take i ++ o :: l.drop (i + 1) := by
 rw [List.set_eq_take_append_cons_drop, if_pos h]
theorem yyw {l : List UInt8} {i : Nat} (h : i < l.length) : l = l.take i ++ l[i] :: l.drop (i + 1) := by
 conv => lhs; rw [← List.take_append_drop i l, List.drop_eq_getElem_cons h]
theorem dam_chg {b : List UInt8} (h3 : b.take 3 = [115, 98, 49]) (hl : 4 ≤ b.length) {k : Nat} {o : UInt8} (hk : k < (sealB b).length) (ho : (sealB b)[k]? ≠ some o) : damP ((sealB b).set k o) = if k < 3 then 1 else 2 := by
 have hsl := ylc b
 have htl : ((sealB b).set k o).length = b.length + 4 := by rw [List.length_set, hsl]
 have hko : ((sealB b).set k o)[k]? = some o := by rw [List.getElem?_set_self hk]
 have hs3 : (sealB b).take 3 = [115, 98, 49] := by unfold sealB; rw [List.take_append_of_le_length (by omega)]; exact h3
 have hne : (sealB b).set k o ≠ sealB b := fun e => ho (by rw [← e]; exact hko)
 unfold damP
 by_cases hk3 : k < 3
 ·have hA : ((sealB b).set k o).take 3 ≠ [115, 98, 49] := fun e => by
   have h1 : ((sealB b).take 3)[k]? = (((sealB b).set k o).take 3)[k]? := by rw [e, hs3]
   rw [List.getElem?_take_of_lt hk3, List.getElem?_take_of_lt hk3, hko] at h1
   exact ho h1
  rw [if_pos hk3, if_pos (.inr hA)]
 ·rw [if_neg hk3]
  have e3 : ((sealB b).set k o).take 3 = [115, 98, 49] := by rw [List.take_set_of_le (by omega)]; exact hs3
  rw [if_neg (fun q => q.elim (by omega) (fun q => q e3)), if_pos ?_]
  rw [htl, Nat.add_sub_cancel]
  intro e
  have hst : (sealB b).take b.length = b := by unfold sealB; rw [List.take_append_of_le_length (Nat.le_refl _), List.take_length]
  rw [List.take_set, hst] at e
  by_cases hkb : k < b.length
  ·have hd : sumL (b.set k o) = sumL b := by
    have h1 : (sealB (b.set k o)).drop b.length = sumL (b.set k o) := by
     unfold sealB
     rw [List.drop_append, List.drop_of_length_le (by simp), List.length_set, Nat.sub_self]; rfl
    have h2 : ((sealB b).set k o).drop b.length = sumL b := by
     rw [List.drop_set_of_lt hkb]
     unfold sealB
     rw [List.drop_append, List.drop_of_length_le (by simp), Nat.sub_self]; rfl
    rw [← h1, ← h2, e]
   have hs := sumL_inj hd
   rw [ytc hkb] at hs
   have hs2 : sumB (b.take k ++ o :: b.drop (k + 1)) = sumB (b.take k ++ b[k] :: b.drop (k + 1)) := by rw [← yyw hkb]; exact hs
   refine yyv _ _ (fun q => ho ?_) hs2
   unfold sealB
   rw [List.getElem?_append_left hkb, List.getElem?_eq_getElem hkb, q]
  ·rw [List.set_eq_of_length_le (by omega)] at e
   exact hne e.symm
theorem pre_free {c c' : Cod} (hb : BndC c) (hl : ∀ f ∈ c.getD [], ∀ i ∈ f.cd.getD [], lenO i.l ≤ 2 ^ 60) (hb' : BndC c') (hl' : ∀ f ∈ c'.getD [], ∀ i ∈ f.cd.getD [], lenO i.l ≤ 2 ^ 60) {r r' : List UInt8} (h : codPB c ++ r = codPB c' ++ r') : (codPB c).length = (codPB c').length := by
 unfold codPB at h ⊢
 rw [List.append_assoc, List.append_assoc] at h
 have h1 := List.append_cancel_left h
 have e1 := rb_cod hb hl (lstB fncPB c ++ r) 0 r (by rw [List.drop_zero])
 have e2 := rb_cod hb' hl' (lstB fncPB c ++ r) 0 r' (by rw [List.drop_zero]; exact h1)
 rw [e1] at e2
 have := (Prod.mk.injEq _ _ _ _).mp (Option.some.inj e2)
 simp only [List.length_append]
 omega
theorem ytd {c : Cod} (hok : CodOk c) : ∀ f ∈ c.getD [], ∀ i ∈ f.cd.getD [], lenO i.l ≤ 2 ^ 60 := fun f hf x hx => by
 have := ((hok.2 f hf).2.2 x hx).1
 omega
theorem yyx {c : Cod} (hok : CodOk c) (hv : ycy c = true) {w r r' : List UInt8} (hw : w.length ≤ 2 ^ 30) (h : sealB (codPB c) ++ r = w ++ r') (hne : w.length ≠ (sealB (codPB c)).length) : damP w ≠ 0 := fun hd => by
 obtain ⟨_, _, _, c', ho⟩ := dam0 hd
 obtain ⟨_, hv', hs'⟩ := ytb ho
 obtain ⟨hok', _⟩ := (openP_ok ho (by omega)).resolve_right (by omega)
 rw [← hs'] at h hne
 have : codPB c ++ (sumL (codPB c) ++ r) = codPB c' ++ (sumL (codPB c') ++ r') := by
  unfold sealB at h
  rw [List.append_assoc, List.append_assoc] at h
  exact h
 have hl := pre_free (yge hv) (ytd hok) (yge hv') (ytd hok') this
 rw [ylc, ylc] at hne
 omega
theorem ynw (s : List UInt8) : damP s ≤ 3 := by
 unfold damP
 split
 ·omega
 ·split
  ·omega
  ·split <;> omega
theorem yfj {w : List UInt8} (hw : w.length ≤ 60000) (hd : damP w ≠ 0) (h : Heap) : Has envQ .own 10 [.str w] h (.val (.tup [codV none, .int .i64 31]) h) ∧ Has envQ .own 11 [.str w] h (.val (.tup [.int .i64 (damP w), .int .i64 0]) h) := by
 have h1 := yyr h w (by omega)
 have h2 := ysy h w (by omega)
 unfold unpV at h1
 unfold dmgV at h2
 rw [if_neg (fun q => hd q.2)] at h1
 rw [if_neg (by omega)] at h2
 exact ⟨h1, h2⟩
end Go.Proofs.YtekmafoicobphaaGreatDoor
