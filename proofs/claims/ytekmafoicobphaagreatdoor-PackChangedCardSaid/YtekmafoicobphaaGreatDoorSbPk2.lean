/- Packed codes: the program's writers. -/
import Derived.Test.YtekmafoicobphaaGreatDoorSb13Next
import Derived.Test.YtekmafoicobphaaGreatDoorSb10Chk1
import Derived.Test.YtekmafoicobphaaGreatDoorSbIter
set_option linter.unusedVariables false
set_option linter.unusedSimpArgs false
namespace Go.Proofs.YtekmafoicobphaaGreatDoor
open Go.Sb
set_option maxRecDepth 100000
def Wr (f : FuncId) (args : List V) (bs : List UInt8) : Prop := ∀ (h : Heap) (o : V) (pre : List UInt8), InRow h 5 1 o (bv pre) → pre.length + bs.length ≤ 2 ^ 39 → ∃ w g, Has envQ .shared f (o :: args) h (.val w g) ∧ InRow g 5 1 w (bv (pre ++ bs)) ∧ KeepB h g
theorem ydl (n : Nat) (hn : n < 2 ^ 63) : Wr 36 [.int .i64 n] (numB n) := fun h o pre hr hl =>
 HasP.sharedE (E := envQ) (f := 36) (d := fn36) (R := fun w g => InRow g 5 1 w (bv (pre ++ numB n)) ∧ KeepB h g) rfl (jT rfl) (by
  rw [yat]
  exact ywz hr n hn (by omega))
theorem yiq (n : Int) (hn : -1152921504606846976 ≤ n ∧ n ≤ 1152921504606846976) : Wr 123 [.int .i64 n] (intB n) := fun h o pre hr hl => by
 refine HasP.sharedE (E := envQ) (f := 123) (d := fn123) (R := fun w g => InRow g 5 1 w (bv (pre ++ intB n)) ∧ KeepB h g) rfl (jT rfl) ?_
 unfold intB at hl ⊢
 by_cases hneg : n < 0
 ·rw [if_pos hneg] at hl ⊢
  obtain ⟨w, g, h1, h2⟩ := ydl (-2 * n - 1).toNat (by omega) h o pre hr hl
  have e : IntKind.i64.wrap (IntKind.i64.wrap (-2 * n) - 1) = (((-2 * n - 1).toNat : Nat) : Int) := by
   rw [wrapS (x := -2 * n) (by omega) (by omega), wrapS (by omega) (by omega)]; omega
  rw [← e] at h1
  refine jJ ?_
  refine CallK.of h1 ?_
  refine jJ ?_
  exact ⟨rfl, h2⟩
 ·rw [if_neg hneg] at hl ⊢
  obtain ⟨w, g, h1, h2⟩ := ydl (2 * n).toNat (by omega) h o pre hr hl
  have e : IntKind.i64.wrap (2 * n) = (((2 * n).toNat : Nat) : Int) := by
   rw [wrapS (by omega) (by omega)]; omega
  rw [← e] at h1
  refine jJ ?_
  refine CallK.of h1 ?_
  refine jJ ?_
  exact ⟨rfl, h2⟩
theorem yxw {h : Heap} {o : V} {q s : List UInt8} (hr : InRow h 5 1 o (bv q)) (hl : q.length + s.length ≤ 2 ^ 39) : ∃ v' h', ycz envQ 49 o (.str s) h = some (v', h') ∧ InRow h' 5 1 v' (bv (q ++ s)) ∧ KeepB h h' := by
 obtain ⟨v', g2, a1, a2, a3, a4⟩ := yqt (E := envQ) (t := 49) (T := 5) (e := 1) (es' := bv s) (k := s.length) (x := .str s) rfl rfl rfl rfl (by omega) hr (by rw [yds]; simp) (by rw [yds]; rfl) (by simp [bv]) (yrd (by simp [bv]; omega))
 exact ⟨v', g2, a1, by simpa [bv] using a2, ⟨a3, a4⟩⟩
theorem ysj (s : List UInt8) (hs : s.length < 2 ^ 63) : Wr 98 [.str s] (txtB s) := fun h o pre hr hl => by
 refine HasP.sharedE (E := envQ) (f := 98) (d := fn98) (R := fun w g => InRow g 5 1 w (bv (pre ++ txtB s)) ∧ KeepB h g) rfl (jT rfl) ?_
 unfold txtB at hl ⊢
 rw [List.length_append] at hl
 obtain ⟨w, g, h1, h2, h3⟩ := ydl s.length hs h o pre hr (by omega)
 obtain ⟨w', g', k1, k2, k3⟩ := yxw (s := s) h2 (by simp; omega)
 refine jJ ?_
 refine CallK.of h1 ?_
 refine ycn (congrArg valH k1) ?_
 refine jJ ?_
 exact ⟨rfl, by rw [← List.append_assoc]; exact k2, h3.trans k3⟩
abbrev Bs8 := List UInt8
def wlintI (h0 : Heap) (pre : Bs8) (l : List Int) (fb : Int → Bs8) (k : Nat) (s : List V) (h : Heap) : Prop :=
 ∃ (i : Nat) (z : Int) (o : V), (i + k = l.length ∧ z = i ∧ InRow h 5 1 o (bv (pre ++ (numB l.length ++ (l.take i).flatMap fb))) ∧ KeepB h0 h) ∧ s.length = 26 ∧ s.getD 0 und = und ∧ s.getD 1 und = o ∧ s.getD 2 und = .lst 1 (l.map intV) ∧ s.getD 3 und = .fn (.func 123) [] ∧ s.getD 7 und = .nils ∧ s.getD 14 und = .lst 1 (l.map intV) ∧ s.getD 15 und = .int .i64 (l.map intV).length ∧ s.getD 16 und = .int .i64 z
theorem yxx {h0 : Heap} {pre : Bs8} {l : List Int} {fb : Int → Bs8} {k : Nat} {s : List V} {h : Heap} (hI : wlintI h0 pre l fb k s h) : ∃ (i : Nat) (z : Int) (o : V) (x : Nat → V), (i + k = l.length ∧ z = i ∧ InRow h 5 1 o (bv (pre ++ (numB l.length ++ (l.take i).flatMap fb))) ∧ KeepB h0 h) ∧
  s = [und, o, .lst 1 (l.map intV), .fn (.func 123) [], x 4, x 5, x 6, .nils, x 8, x 9, x 10, x 11, x 12, x 13, .lst 1 (l.map intV), .int .i64 (l.map intV).length, .int .i64 z, x 17, x 18, x 19, x 20, x 21, x 22, x 23, x 24, x 25] := by
 obtain ⟨i, z, o, hF, hl, e0, e1, e2, e3, e7, e14, e15, e16⟩ := hI
 refine ⟨i, z, o, fun n => s.getD n und, hF, (ybd hl).trans ?_⟩
 simp only [List.range, List.range.loop, List.map_cons, List.map_nil]
 rw [e0, e1, e2, e3, e7, e14, e15, e16]
def wzintI (g0 : Heap) (o : V) (k : Nat) (s : List V) (h : Heap) : Prop :=
 ∃ (u : Nat), (u = 0 ∧ h = g0) ∧ s.length = 26 ∧ s.getD 0 und = und ∧ s.getD 1 und = o ∧ s.getD 2 und = .nils ∧ s.getD 3 und = .fn (.func 123) [] ∧ s.getD 7 und = .nils ∧ s.getD 14 und = .nils ∧ s.getD 15 und = .int .i64 0 ∧ s.getD 16 und = .int .i64 0
theorem yxy {g0 : Heap} {o : V} {k : Nat} {s : List V} {h : Heap} (hI : wzintI g0 o k s h) : ∃ (u : Nat) (x : Nat → V), (u = 0 ∧ h = g0) ∧
  s = [und, o, .nils, .fn (.func 123) [], x 4, x 5, x 6, .nils, x 8, x 9, x 10, x 11, x 12, x 13, .nils, .int .i64 0, .int .i64 0, x 17, x 18, x 19, x 20, x 21, x 22, x 23, x 24, x 25] := by
 obtain ⟨u, hF, hl, e0, e1, e2, e3, e7, e14, e15, e16⟩ := hI
 refine ⟨u, fun n => s.getD n und, hF, (ybd hl).trans ?_⟩
 simp only [List.range, List.range.loop, List.map_cons, List.map_nil]
 rw [e0, e1, e2, e3, e7, e14, e15, e16]
set_option maxHeartbeats 4000000 in
theorem yxz (l : Option (List Int)) (fb : Int → Bs8) (hf : ∀ x ∈ l.getD [], Wr 123 [intV x] (fb x)) (hn : lenO l < 2 ^ 62) : Wr 124 [optL 1 intV l, .fn (.func 123) []] (lstB fb l) := fun h o pre hr hl => by
 refine HasP.sharedE (E := envQ) (f := 124) (d := fn124) (R := fun w g => InRow g 5 1 w (bv (pre ++ lstB fb l)) ∧ KeepB h g) rfl (jT rfl) ?_
 unfold lstB at hl ⊢
 rw [List.length_append] at hl
 obtain ⟨w, g, h1, h2, h3⟩ := ydl (lenO l) (by omega) h o pre hr (by omega)
 cases l with
 | none =>
  refine jK ?_
  refine CallK.of h1 ?_
  refine jK ?_
  refine RunP.loop (wzintI g w) ?_ 0 ⟨0, ⟨rfl, rfl⟩, rfl, rfl, rfl, rfl, rfl, rfl, rfl, rfl, rfl⟩
  intro k st hh hI
  obtain ⟨u, x, ⟨rfl, rfl⟩, rfl⟩ := yxy hI
  refine jK ?_
  refine jI (fun q => absurd q (by decide)) (fun _ => ?_)
  refine jK ?_
  have h2' : InRow hh 5 1 w (bv (pre ++ (numB (lenO (none : Option (List Int))) ++ ((none : Option (List Int)).getD []).flatMap fb))) := by simpa [lenO] using h2
  exact ⟨rfl, h2', h3⟩
 | some l =>
  rw [show lenO (some l) = l.length from rfl] at *
  simp only [Option.getD_some] at *
  have hlm : ((l.map intV).length : Int) = (l.length : Int) := by simp
  rw [← hlm] at h1
  refine jK ?_
  refine CallK.of h1 ?_
  refine jK ?_
  refine RunP.loop (wlintI h pre l fb) ?_ l.length ⟨0, _, w, ⟨by omega, rfl, by simpa using h2, h3⟩, rfl, rfl, rfl, rfl, rfl, rfl, rfl, rfl, rfl⟩
  intro k st hh hI
  obtain ⟨i, z, o1, x, ⟨hik, hz, hrow, hkp⟩, rfl⟩ := yxx hI
  clear hI
  subst hz
  refine jK ?_
  refine jI (fun hlt => ?_) (fun hge => ?_)
  ·have hi : i < l.length := by omega
   obtain ⟨x0, hx0⟩ : ∃ y, l[i]? = some y := ⟨_, List.getElem?_eq_getElem hi⟩
   have hmem := List.mem_of_getElem? hx0
   have ht : (l.take (i + 1)).flatMap fb = (l.take i).flatMap fb ++ fb x0 := by
    rw [List.take_add_one, hx0]; simp
   have hle : ((l.take (i + 1)).flatMap fb).length ≤ (l.flatMap fb).length := by
    conv => rhs; rw [← List.take_append_drop (i + 1) l, List.flatMap_append, List.length_append]
    omega
   rw [ht, List.length_append] at hle
   refine jK ?_
   refine jI (by omega) (jI rfl (Exists.intro (intV x0) (jI (by rw [List.getElem?_map]; simp [hx0]) ?_)))
   obtain ⟨w2, g2, c1, c2, c3⟩ := hf x0 hmem _ _ _ hrow (by simp only [List.length_append]; omega)
   refine jK ?_
   refine CallK.of c1 ?_
   refine jK ?_
   exact ⟨k - 1, by omega, i + 1, _, _, ⟨by omega, ycp i (by omega), by rw [ht]; simpa [List.append_assoc] using c2, hkp.trans c3⟩, rfl, rfl, rfl, rfl, rfl, rfl, rfl, rfl, rfl⟩
  ·have hi : i = l.length := by omega
   rw [hi, List.take_length] at hrow
   refine jK ?_
   exact ⟨rfl, hrow, hkp⟩
def wlinsI (h0 : Heap) (pre : Bs8) (l : List Ins) (fb : Ins → Bs8) (k : Nat) (s : List V) (h : Heap) : Prop :=
 ∃ (i : Nat) (z : Int) (o : V), (i + k = l.length ∧ z = i ∧ InRow h 5 1 o (bv (pre ++ (numB l.length ++ (l.take i).flatMap fb))) ∧ KeepB h0 h) ∧ s.length = 26 ∧ s.getD 0 und = und ∧ s.getD 1 und = o ∧ s.getD 2 und = .lst 8 (l.map insV) ∧ s.getD 3 und = .fn (.func 100) [] ∧ s.getD 7 und = .nils ∧ s.getD 14 und = .lst 8 (l.map insV) ∧ s.getD 15 und = .int .i64 (l.map insV).length ∧ s.getD 16 und = .int .i64 z
theorem yya {h0 : Heap} {pre : Bs8} {l : List Ins} {fb : Ins → Bs8} {k : Nat} {s : List V} {h : Heap} (hI : wlinsI h0 pre l fb k s h) : ∃ (i : Nat) (z : Int) (o : V) (x : Nat → V), (i + k = l.length ∧ z = i ∧ InRow h 5 1 o (bv (pre ++ (numB l.length ++ (l.take i).flatMap fb))) ∧ KeepB h0 h) ∧
  s = [und, o, .lst 8 (l.map insV), .fn (.func 100) [], x 4, x 5, x 6, .nils, x 8, x 9, x 10, x 11, x 12, x 13, .lst 8 (l.map insV), .int .i64 (l.map insV).length, .int .i64 z, x 17, x 18, x 19, x 20, x 21, x 22, x 23, x 24, x 25] := by
 obtain ⟨i, z, o, hF, hl, e0, e1, e2, e3, e7, e14, e15, e16⟩ := hI
 refine ⟨i, z, o, fun n => s.getD n und, hF, (ybd hl).trans ?_⟩
 simp only [List.range, List.range.loop, List.map_cons, List.map_nil]
 rw [e0, e1, e2, e3, e7, e14, e15, e16]
def wzinsI (g0 : Heap) (o : V) (k : Nat) (s : List V) (h : Heap) : Prop :=
 ∃ (u : Nat), (u = 0 ∧ h = g0) ∧ s.length = 26 ∧ s.getD 0 und = und ∧ s.getD 1 und = o ∧ s.getD 2 und = .nils ∧ s.getD 3 und = .fn (.func 100) [] ∧ s.getD 7 und = .nils ∧ s.getD 14 und = .nils ∧ s.getD 15 und = .int .i64 0 ∧ s.getD 16 und = .int .i64 0
theorem yyb {g0 : Heap} {o : V} {k : Nat} {s : List V} {h : Heap} (hI : wzinsI g0 o k s h) : ∃ (u : Nat) (x : Nat → V), (u = 0 ∧ h = g0) ∧
  s = [und, o, .nils, .fn (.func 100) [], x 4, x 5, x 6, .nils, x 8, x 9, x 10, x 11, x 12, x 13, .nils, .int .i64 0, .int .i64 0, x 17, x 18, x 19, x 20, x 21, x 22, x 23, x 24, x 25] := by
 obtain ⟨u, hF, hl, e0, e1, e2, e3, e7, e14, e15, e16⟩ := hI
 refine ⟨u, fun n => s.getD n und, hF, (ybd hl).trans ?_⟩
 simp only [List.range, List.range.loop, List.map_cons, List.map_nil]
 rw [e0, e1, e2, e3, e7, e14, e15, e16]
set_option maxHeartbeats 4000000 in
theorem yyc (l : Option (List Ins)) (fb : Ins → Bs8) (hf : ∀ x ∈ l.getD [], Wr 100 [insV x] (fb x)) (hn : lenO l < 2 ^ 62) : Wr 99 [optL 8 insV l, .fn (.func 100) []] (lstB fb l) := fun h o pre hr hl => by
 refine HasP.sharedE (E := envQ) (f := 99) (d := fn99) (R := fun w g => InRow g 5 1 w (bv (pre ++ lstB fb l)) ∧ KeepB h g) rfl (jT rfl) ?_
 unfold lstB at hl ⊢
 rw [List.length_append] at hl
 obtain ⟨w, g, h1, h2, h3⟩ := ydl (lenO l) (by omega) h o pre hr (by omega)
 cases l with
 | none =>
  refine jK ?_
  refine CallK.of h1 ?_
  refine jK ?_
  refine RunP.loop (wzinsI g w) ?_ 0 ⟨0, ⟨rfl, rfl⟩, rfl, rfl, rfl, rfl, rfl, rfl, rfl, rfl, rfl⟩
  intro k st hh hI
  obtain ⟨u, x, ⟨rfl, rfl⟩, rfl⟩ := yyb hI
  refine jK ?_
  refine jI (fun q => absurd q (by decide)) (fun _ => ?_)
  refine jK ?_
  have h2' : InRow hh 5 1 w (bv (pre ++ (numB (lenO (none : Option (List Ins))) ++ ((none : Option (List Ins)).getD []).flatMap fb))) := by simpa [lenO] using h2
  exact ⟨rfl, h2', h3⟩
 | some l =>
  rw [show lenO (some l) = l.length from rfl] at *
  simp only [Option.getD_some] at *
  have hlm : ((l.map insV).length : Int) = (l.length : Int) := by simp
  rw [← hlm] at h1
  refine jK ?_
  refine CallK.of h1 ?_
  refine jK ?_
  refine RunP.loop (wlinsI h pre l fb) ?_ l.length ⟨0, _, w, ⟨by omega, rfl, by simpa using h2, h3⟩, rfl, rfl, rfl, rfl, rfl, rfl, rfl, rfl, rfl⟩
  intro k st hh hI
  obtain ⟨i, z, o1, x, ⟨hik, hz, hrow, hkp⟩, rfl⟩ := yya hI
  clear hI
  subst hz
  refine jK ?_
  refine jI (fun hlt => ?_) (fun hge => ?_)
  ·have hi : i < l.length := by omega
   obtain ⟨x0, hx0⟩ : ∃ y, l[i]? = some y := ⟨_, List.getElem?_eq_getElem hi⟩
   have hmem := List.mem_of_getElem? hx0
   have ht : (l.take (i + 1)).flatMap fb = (l.take i).flatMap fb ++ fb x0 := by
    rw [List.take_add_one, hx0]; simp
   have hle : ((l.take (i + 1)).flatMap fb).length ≤ (l.flatMap fb).length := by
    conv => rhs; rw [← List.take_append_drop (i + 1) l, List.flatMap_append, List.length_append]
    omega
   rw [ht, List.length_append] at hle
   refine jK ?_
   refine jI (by omega) (jI rfl (Exists.intro (insV x0) (jI (by rw [List.getElem?_map]; simp [hx0]) ?_)))
   refine jK ?_
   refine yab (ycw (E := envQ) (t := 68) (n := 8) (v := insV x0) rfl rfl rfl rfl (yeu (yrc _))) ?_
   refine jK ?_
   refine yab (yfz (E := envQ) (t := 68) (n := 8) rfl) ?_
   obtain ⟨w2, g2, c1, c2, c3⟩ := hf x0 hmem _ _ _ (hrow.push (.cells 68 (insV x0).cells)) (by simp only [List.length_append]; omega)
   refine CallK.of c1 ?_
   refine jK ?_
   exact ⟨k - 1, by omega, i + 1, _, _, ⟨by omega, ycp i (by omega), by rw [ht]; simpa [List.append_assoc] using c2, hkp.trans ((KeepB.push _ _).trans c3)⟩, rfl, rfl, rfl, rfl, rfl, rfl, rfl, rfl, rfl⟩
  ·have hi : i = l.length := by omega
   rw [hi, List.take_length] at hrow
   refine jK ?_
   exact ⟨rfl, hrow, hkp⟩
def wlgrdI (h0 : Heap) (pre : Bs8) (l : List Grd) (fb : Grd → Bs8) (k : Nat) (s : List V) (h : Heap) : Prop :=
 ∃ (i : Nat) (z : Int) (o : V), (i + k = l.length ∧ z = i ∧ InRow h 5 1 o (bv (pre ++ (numB l.length ++ (l.take i).flatMap fb))) ∧ KeepB h0 h) ∧ s.length = 26 ∧ s.getD 0 und = und ∧ s.getD 1 und = o ∧ s.getD 2 und = .lst 4 (l.map grdV) ∧ s.getD 3 und = .fn (.func 102) [] ∧ s.getD 7 und = .nils ∧ s.getD 14 und = .lst 4 (l.map grdV) ∧ s.getD 15 und = .int .i64 (l.map grdV).length ∧ s.getD 16 und = .int .i64 z
theorem yyd {h0 : Heap} {pre : Bs8} {l : List Grd} {fb : Grd → Bs8} {k : Nat} {s : List V} {h : Heap} (hI : wlgrdI h0 pre l fb k s h) : ∃ (i : Nat) (z : Int) (o : V) (x : Nat → V), (i + k = l.length ∧ z = i ∧ InRow h 5 1 o (bv (pre ++ (numB l.length ++ (l.take i).flatMap fb))) ∧ KeepB h0 h) ∧
  s = [und, o, .lst 4 (l.map grdV), .fn (.func 102) [], x 4, x 5, x 6, .nils, x 8, x 9, x 10, x 11, x 12, x 13, .lst 4 (l.map grdV), .int .i64 (l.map grdV).length, .int .i64 z, x 17, x 18, x 19, x 20, x 21, x 22, x 23, x 24, x 25] := by
 obtain ⟨i, z, o, hF, hl, e0, e1, e2, e3, e7, e14, e15, e16⟩ := hI
 refine ⟨i, z, o, fun n => s.getD n und, hF, (ybd hl).trans ?_⟩
 simp only [List.range, List.range.loop, List.map_cons, List.map_nil]
 rw [e0, e1, e2, e3, e7, e14, e15, e16]
def wzgrdI (g0 : Heap) (o : V) (k : Nat) (s : List V) (h : Heap) : Prop :=
 ∃ (u : Nat), (u = 0 ∧ h = g0) ∧ s.length = 26 ∧ s.getD 0 und = und ∧ s.getD 1 und = o ∧ s.getD 2 und = .nils ∧ s.getD 3 und = .fn (.func 102) [] ∧ s.getD 7 und = .nils ∧ s.getD 14 und = .nils ∧ s.getD 15 und = .int .i64 0 ∧ s.getD 16 und = .int .i64 0
theorem yye {g0 : Heap} {o : V} {k : Nat} {s : List V} {h : Heap} (hI : wzgrdI g0 o k s h) : ∃ (u : Nat) (x : Nat → V), (u = 0 ∧ h = g0) ∧
  s = [und, o, .nils, .fn (.func 102) [], x 4, x 5, x 6, .nils, x 8, x 9, x 10, x 11, x 12, x 13, .nils, .int .i64 0, .int .i64 0, x 17, x 18, x 19, x 20, x 21, x 22, x 23, x 24, x 25] := by
 obtain ⟨u, hF, hl, e0, e1, e2, e3, e7, e14, e15, e16⟩ := hI
 refine ⟨u, fun n => s.getD n und, hF, (ybd hl).trans ?_⟩
 simp only [List.range, List.range.loop, List.map_cons, List.map_nil]
 rw [e0, e1, e2, e3, e7, e14, e15, e16]
set_option maxHeartbeats 4000000 in
theorem yyf (l : Option (List Grd)) (fb : Grd → Bs8) (hf : ∀ x ∈ l.getD [], Wr 102 [grdV x] (fb x)) (hn : lenO l < 2 ^ 62) : Wr 101 [optL 4 grdV l, .fn (.func 102) []] (lstB fb l) := fun h o pre hr hl => by
 refine HasP.sharedE (E := envQ) (f := 101) (d := fn101) (R := fun w g => InRow g 5 1 w (bv (pre ++ lstB fb l)) ∧ KeepB h g) rfl (jT rfl) ?_
 unfold lstB at hl ⊢
 rw [List.length_append] at hl
 obtain ⟨w, g, h1, h2, h3⟩ := ydl (lenO l) (by omega) h o pre hr (by omega)
 cases l with
 | none =>
  refine jK ?_
  refine CallK.of h1 ?_
  refine jK ?_
  refine RunP.loop (wzgrdI g w) ?_ 0 ⟨0, ⟨rfl, rfl⟩, rfl, rfl, rfl, rfl, rfl, rfl, rfl, rfl, rfl⟩
  intro k st hh hI
  obtain ⟨u, x, ⟨rfl, rfl⟩, rfl⟩ := yye hI
  refine jK ?_
  refine jI (fun q => absurd q (by decide)) (fun _ => ?_)
  refine jK ?_
  have h2' : InRow hh 5 1 w (bv (pre ++ (numB (lenO (none : Option (List Grd))) ++ ((none : Option (List Grd)).getD []).flatMap fb))) := by simpa [lenO] using h2
  exact ⟨rfl, h2', h3⟩
 | some l =>
  rw [show lenO (some l) = l.length from rfl] at *
  simp only [Option.getD_some] at *
  have hlm : ((l.map grdV).length : Int) = (l.length : Int) := by simp
  rw [← hlm] at h1
  refine jK ?_
  refine CallK.of h1 ?_
  refine jK ?_
  refine RunP.loop (wlgrdI h pre l fb) ?_ l.length ⟨0, _, w, ⟨by omega, rfl, by simpa using h2, h3⟩, rfl, rfl, rfl, rfl, rfl, rfl, rfl, rfl, rfl⟩
  intro k st hh hI
  obtain ⟨i, z, o1, x, ⟨hik, hz, hrow, hkp⟩, rfl⟩ := yyd hI
  clear hI
  subst hz
  refine jK ?_
  refine jI (fun hlt => ?_) (fun hge => ?_)
  ·have hi : i < l.length := by omega
   obtain ⟨x0, hx0⟩ : ∃ y, l[i]? = some y := ⟨_, List.getElem?_eq_getElem hi⟩
   have hmem := List.mem_of_getElem? hx0
   have ht : (l.take (i + 1)).flatMap fb = (l.take i).flatMap fb ++ fb x0 := by
    rw [List.take_add_one, hx0]; simp
   have hle : ((l.take (i + 1)).flatMap fb).length ≤ (l.flatMap fb).length := by
    conv => rhs; rw [← List.take_append_drop (i + 1) l, List.flatMap_append, List.length_append]
    omega
   rw [ht, List.length_append] at hle
   refine jK ?_
   refine jI (by omega) (jI rfl (Exists.intro (grdV x0) (jI (by rw [List.getElem?_map]; simp [hx0]) ?_)))
   refine jK ?_
   refine yab (ycw (E := envQ) (t := 70) (n := 4) (v := grdV x0) rfl rfl rfl rfl (yeu (yng _))) ?_
   refine jK ?_
   refine yab (yfz (E := envQ) (t := 70) (n := 4) rfl) ?_
   obtain ⟨w2, g2, c1, c2, c3⟩ := hf x0 hmem _ _ _ (hrow.push (.cells 70 (grdV x0).cells)) (by simp only [List.length_append]; omega)
   refine CallK.of c1 ?_
   refine jK ?_
   exact ⟨k - 1, by omega, i + 1, _, _, ⟨by omega, ycp i (by omega), by rw [ht]; simpa [List.append_assoc] using c2, hkp.trans ((KeepB.push _ _).trans c3)⟩, rfl, rfl, rfl, rfl, rfl, rfl, rfl, rfl, rfl⟩
  ·have hi : i = l.length := by omega
   rw [hi, List.take_length] at hrow
   refine jK ?_
   exact ⟨rfl, hrow, hkp⟩
def wlfncI (h0 : Heap) (pre : Bs8) (l : List Fnc) (fb : Fnc → Bs8) (k : Nat) (s : List V) (h : Heap) : Prop :=
 ∃ (i : Nat) (z : Int) (o : V), (i + k = l.length ∧ z = i ∧ InRow h 5 1 o (bv (pre ++ (numB l.length ++ (l.take i).flatMap fb))) ∧ KeepB h0 h) ∧ s.length = 26 ∧ s.getD 0 und = und ∧ s.getD 1 und = o ∧ s.getD 2 und = .lst 5 (l.map fncV) ∧ s.getD 3 und = .fn (.func 67) [] ∧ s.getD 7 und = .nils ∧ s.getD 14 und = .lst 5 (l.map fncV) ∧ s.getD 15 und = .int .i64 (l.map fncV).length ∧ s.getD 16 und = .int .i64 z
theorem yyg {h0 : Heap} {pre : Bs8} {l : List Fnc} {fb : Fnc → Bs8} {k : Nat} {s : List V} {h : Heap} (hI : wlfncI h0 pre l fb k s h) : ∃ (i : Nat) (z : Int) (o : V) (x : Nat → V), (i + k = l.length ∧ z = i ∧ InRow h 5 1 o (bv (pre ++ (numB l.length ++ (l.take i).flatMap fb))) ∧ KeepB h0 h) ∧
  s = [und, o, .lst 5 (l.map fncV), .fn (.func 67) [], x 4, x 5, x 6, .nils, x 8, x 9, x 10, x 11, x 12, x 13, .lst 5 (l.map fncV), .int .i64 (l.map fncV).length, .int .i64 z, x 17, x 18, x 19, x 20, x 21, x 22, x 23, x 24, x 25] := by
 obtain ⟨i, z, o, hF, hl, e0, e1, e2, e3, e7, e14, e15, e16⟩ := hI
 refine ⟨i, z, o, fun n => s.getD n und, hF, (ybd hl).trans ?_⟩
 simp only [List.range, List.range.loop, List.map_cons, List.map_nil]
 rw [e0, e1, e2, e3, e7, e14, e15, e16]
def wzfncI (g0 : Heap) (o : V) (k : Nat) (s : List V) (h : Heap) : Prop :=
 ∃ (u : Nat), (u = 0 ∧ h = g0) ∧ s.length = 26 ∧ s.getD 0 und = und ∧ s.getD 1 und = o ∧ s.getD 2 und = .nils ∧ s.getD 3 und = .fn (.func 67) [] ∧ s.getD 7 und = .nils ∧ s.getD 14 und = .nils ∧ s.getD 15 und = .int .i64 0 ∧ s.getD 16 und = .int .i64 0
theorem yyh {g0 : Heap} {o : V} {k : Nat} {s : List V} {h : Heap} (hI : wzfncI g0 o k s h) : ∃ (u : Nat) (x : Nat → V), (u = 0 ∧ h = g0) ∧
  s = [und, o, .nils, .fn (.func 67) [], x 4, x 5, x 6, .nils, x 8, x 9, x 10, x 11, x 12, x 13, .nils, .int .i64 0, .int .i64 0, x 17, x 18, x 19, x 20, x 21, x 22, x 23, x 24, x 25] := by
 obtain ⟨u, hF, hl, e0, e1, e2, e3, e7, e14, e15, e16⟩ := hI
 refine ⟨u, fun n => s.getD n und, hF, (ybd hl).trans ?_⟩
 simp only [List.range, List.range.loop, List.map_cons, List.map_nil]
 rw [e0, e1, e2, e3, e7, e14, e15, e16]
set_option maxHeartbeats 4000000 in
theorem yyi (l : Option (List Fnc)) (fb : Fnc → Bs8) (hf : ∀ x ∈ l.getD [], Wr 67 [fncV x] (fb x)) (hn : lenO l < 2 ^ 62) : Wr 66 [optL 5 fncV l, .fn (.func 67) []] (lstB fb l) := fun h o pre hr hl => by
 refine HasP.sharedE (E := envQ) (f := 66) (d := fn66) (R := fun w g => InRow g 5 1 w (bv (pre ++ lstB fb l)) ∧ KeepB h g) rfl (jT rfl) ?_
 unfold lstB at hl ⊢
 rw [List.length_append] at hl
 obtain ⟨w, g, h1, h2, h3⟩ := ydl (lenO l) (by omega) h o pre hr (by omega)
 cases l with
 | none =>
  refine jK ?_
  refine CallK.of h1 ?_
  refine jK ?_
  refine RunP.loop (wzfncI g w) ?_ 0 ⟨0, ⟨rfl, rfl⟩, rfl, rfl, rfl, rfl, rfl, rfl, rfl, rfl, rfl⟩
  intro k st hh hI
  obtain ⟨u, x, ⟨rfl, rfl⟩, rfl⟩ := yyh hI
  refine jK ?_
  refine jI (fun q => absurd q (by decide)) (fun _ => ?_)
  refine jK ?_
  have h2' : InRow hh 5 1 w (bv (pre ++ (numB (lenO (none : Option (List Fnc))) ++ ((none : Option (List Fnc)).getD []).flatMap fb))) := by simpa [lenO] using h2
  exact ⟨rfl, h2', h3⟩
 | some l =>
  rw [show lenO (some l) = l.length from rfl] at *
  simp only [Option.getD_some] at *
  have hlm : ((l.map fncV).length : Int) = (l.length : Int) := by simp
  rw [← hlm] at h1
  refine jK ?_
  refine CallK.of h1 ?_
  refine jK ?_
  refine RunP.loop (wlfncI h pre l fb) ?_ l.length ⟨0, _, w, ⟨by omega, rfl, by simpa using h2, h3⟩, rfl, rfl, rfl, rfl, rfl, rfl, rfl, rfl, rfl⟩
  intro k st hh hI
  obtain ⟨i, z, o1, x, ⟨hik, hz, hrow, hkp⟩, rfl⟩ := yyg hI
  clear hI
  subst hz
  refine jK ?_
  refine jI (fun hlt => ?_) (fun hge => ?_)
  ·have hi : i < l.length := by omega
   obtain ⟨x0, hx0⟩ : ∃ y, l[i]? = some y := ⟨_, List.getElem?_eq_getElem hi⟩
   have hmem := List.mem_of_getElem? hx0
   have ht : (l.take (i + 1)).flatMap fb = (l.take i).flatMap fb ++ fb x0 := by
    rw [List.take_add_one, hx0]; simp
   have hle : ((l.take (i + 1)).flatMap fb).length ≤ (l.flatMap fb).length := by
    conv => rhs; rw [← List.take_append_drop (i + 1) l, List.flatMap_append, List.length_append]
    omega
   rw [ht, List.length_append] at hle
   refine jK ?_
   refine jI (by omega) (jI rfl (Exists.intro (fncV x0) (jI (by rw [List.getElem?_map]; simp [hx0]) ?_)))
   refine jK ?_
   refine yab (ycw (E := envQ) (t := 61) (n := 5) (v := fncV x0) rfl rfl rfl rfl (yeu (ygc _))) ?_
   refine jK ?_
   refine yab (yfz (E := envQ) (t := 61) (n := 5) rfl) ?_
   obtain ⟨w2, g2, c1, c2, c3⟩ := hf x0 hmem _ _ _ (hrow.push (.cells 61 (fncV x0).cells)) (by simp only [List.length_append]; omega)
   refine CallK.of c1 ?_
   refine jK ?_
   exact ⟨k - 1, by omega, i + 1, _, _, ⟨by omega, ycp i (by omega), by rw [ht]; simpa [List.append_assoc] using c2, hkp.trans ((KeepB.push _ _).trans c3)⟩, rfl, rfl, rfl, rfl, rfl, rfl, rfl, rfl, rfl⟩
  ·have hi : i = l.length := by omega
   rw [hi, List.take_length] at hrow
   refine jK ?_
   exact ⟨rfl, hrow, hkp⟩
end Go.Proofs.YtekmafoicobphaaGreatDoor
