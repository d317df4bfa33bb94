/- Codes: what the reference asks of a code. -/
import Derived.Test.YtekmafoicobphaaGreatDoorSb10Chk5
set_option linter.unusedVariables false
set_option linter.unusedSimpArgs false
namespace Go.Proofs.YtekmafoicobphaaGreatDoor
open Go.Sb
set_option maxRecDepth 100000
abbrev LFc := List Fnc
abbrev LIc := List Ins
abbrev LGc := List Grd
abbrev LIt := List Int
def CodK (c : Cod) : Prop := lenO c ≤ 2 ^ 50 ∧ ∀ f ∈ c.getD [], f.nm.length ≤ 2 ^ 50 ∧ lenO f.gd ≤ 2 ^ 50 ∧ ∀ x ∈ f.cd.getD [], lenO x.l ≤ 2 ^ 50 ∧ x.s.length ≤ 2 ^ 50
def slP (S n m : Int) : Prop := 0 ≤ n ∧ n ≤ S - m
instance (S n m : Int) : Decidable (slP S n m) := by unfold slP; infer_instance
def plP (len n : Int) : Prop := 0 ≤ n ∧ n < len
instance (len n : Int) : Decidable (plP len n) := by unfold plP; infer_instance
def slsP (S : Int) (l : Option (List Int)) : Prop := ∀ n ∈ l.getD [], slP S n 1
instance (S : Int) (l : Option (List Int)) : Decidable (slsP S l) := by unfold slsP; infer_instance
def plsP (len : Int) (l : Option (List Int)) : Prop := ∀ n ∈ l.getD [], plP len n
instance (len : Int) (l : Option (List Int)) : Decidable (plsP len l) := by unfold plsP; infer_instance
def fitP (c : Cod) (S fn : Int) (l : Option (List Int)) : Prop := yfb c fn (lenO l) ∧ slsP S l
noncomputable instance (c : Cod) (S fn : Int) (l : Option (List Int)) : Decidable (fitP c S fn l) := Classical.propDecidable _
def rAskP (c : Cod) (f : Fnc) (L : List Ins) (k : Nat) (x : Ins) : Prop :=
  if x.b = 5 then fitP c f.s x.c x.l
  else if x.b = 8 then (0 ≤ x.c ∧ x.c ≤ 2) ∧ lenO x.l = 1 ∧ slsP f.s x.l
  else if x.b = 15 then (0 ≤ x.c ∧ x.c ≤ 1) ∧ lenO x.l = 1 ∧ slsP f.s x.l ∧ armsN L k ≤ 4
  else if x.b = 16 then (0 ≤ x.c ∧ x.c ≤ 1) ∧ lenO x.l ≤ 1 ∧ slsP f.s x.l
  else if x.b = 17 then x.c = 0 ∧ (lenO x.l = 0 ∨ (lenO x.l = 1 ∧ slP f.s ((x.l.getD []).headD 0) 2))
  else if x.b = 1 ∨ x.b = 4 ∨ x.b = 18 ∨ x.b = 19 then x.c = 0 ∧ lenO x.l = 0
  else if x.b = 9 then x.c = 0 ∧ lenO x.l = 2 ∧ slsP f.s x.l
  else (1 ≤ x.b ∧ x.b ≤ 21) ∧ x.c = 0 ∧ lenO x.l = 1 ∧ slsP f.s x.l
def rInsP (c : Cod) (f : Fnc) (L : List Ins) (k : Nat) (x : Ins) : Prop :=
  (x.op = 1 ∨ (x.k = 0 ∧ x.n = 0 ∧ x.s = [])) ∧
  (if x.op = 1 then slP f.s x.a 1 ∧ x.b = 0 ∧ x.c = 0 ∧ lenO x.l = 0 ∧ yau x.k x.n x.s
   else if x.op = 2 then slP f.s x.a 1 ∧ slP f.s x.b 1 ∧ x.c = 0 ∧ lenO x.l = 0
   else if x.op = 3 then slP f.s x.a 1 ∧ (5 ≤ x.b ∧ x.b ≤ 6) ∧ slP f.s x.c 1 ∧ lenO x.l = 0
   else if x.op = 4 then slP f.s x.a 1 ∧ (9 ≤ x.b ∧ x.b ≤ 19) ∧ slP f.s x.c 1 ∧ lenO x.l = 1 ∧ slsP f.s x.l
   else if x.op = 5 then plP (lenO f.cd) x.a ∧ x.b = 0 ∧ x.c = 0 ∧ lenO x.l = 0
   else if x.op = 6 ∨ x.op = 13 then slP f.s x.a 1 ∧ plP (lenO f.cd) x.b ∧ x.c = 0 ∧ lenO x.l = 0
   else if x.op = 7 then (x.a = -1 ∨ slP f.s x.a 1) ∧ fitP c f.s x.b x.l ∧ x.c = 0
   else if x.op = 8 then (x.a = -1 ∨ slP f.s x.a 1) ∧ x.b = 0 ∧ x.c = 0 ∧ lenO x.l = 0
   else if x.op = 9 then slP f.s x.a 1 ∧ x.b = 0 ∧ x.c = 0 ∧ lenO x.l = 0
   else if x.op = 10 then (x.a = -1 ∨ slP f.s x.a 1) ∧ rAskP c f L k x
   else if x.op = 11 then (1 ≤ x.a ∧ x.a ≤ 3) ∧ x.b = 0 ∧ x.c = 0 ∧ lenO x.l = (if x.a = 2 then 2 else 1) ∧ slsP f.s x.l
   else if x.op = 12 then plsP (lenO f.cd) x.l ∧ slP f.s x.a 1 ∧ x.b = 0 ∧ x.c = 0 ∧ lenO x.l ≠ 0
   else x.op = 14 ∧ slP f.s x.a 2 ∧ x.b = 0 ∧ x.c = 0 ∧ lenO x.l = 0)
noncomputable instance (c : Cod) (f : Fnc) (L : List Ins) (k : Nat) (x : Ins) : Decidable (rAskP c f L k x) := Classical.propDecidable _
noncomputable instance (c : Cod) (f : Fnc) (L : List Ins) (k : Nat) (x : Ins) : Decidable (rInsP c f L k x) := Classical.propDecidable _
def rGrdP (f : Fnc) (g : Grd) : Prop := g.f < g.t ∧ plP (lenO f.cd) g.f ∧ g.t ≤ (lenO f.cd : Int) ∧ plP (lenO f.cd) g.p ∧ slP f.s g.s 2
def loneP (op : Int) : Prop := op = 5 ∨ op = 8 ∨ op = 9 ∨ op = 12 ∨ op = 14
def headP (f : Fnc) : Prop := Lex.isName f.nm = true ∧ (0 ≤ f.p ∧ f.p ≤ 5) ∧ (f.p ≤ f.s ∧ f.s ≤ 200) ∧ (1 ≤ lenO f.cd ∧ lenO f.cd ≤ 4000) ∧ lenO f.gd ≤ 400 ∧ ∃ x, (f.cd.getD [])[lenO f.cd - 1]? = some x ∧ loneP x.op
def bodyP (c : Cod) (f : Fnc) : Prop := (∀ k x, (f.cd.getD [])[k]? = some x → rInsP c f (f.cd.getD []) k x) ∧ ∀ g ∈ f.gd.getD [], rGrdP f g
def ygk (c : Cod) : Prop := (1 ≤ lenO c ∧ lenO c ≤ 16) ∧ (∀ i f, (c.getD [])[i]? = some f → headP f ∧ ∀ x ∈ (c.getD []).take i, x.nm ≠ f.nm) ∧ ∀ f ∈ c.getD [], bodyP c f
end Go.Proofs.YtekmafoicobphaaGreatDoor

/- Codes: the reference's words: slots, places, lists. -/

namespace Go.Proofs.YtekmafoicobphaaGreatDoor
open Go.Sb
set_option maxRecDepth 100000
def rslI (c : Cod) (f : Fnc) (l : List Int) (k : Nat) (s : List V) (h : Heap) : Prop :=
 ∃ (i : Nat) (z : Int), (i + k = l.length ∧ z = i ∧ (∀ n ∈ l.take i, slP f.s n 1) ∧ h = [.cells 81 (ckC c f)]) ∧ s.length = 20 ∧ s.getD 0 und = und ∧ s.getD 1 und = ckV c f ∧ s.getD 2 und = .lst 1 (l.map intV) ∧ s.getD 3 und = .ptr 0 0 6 ∧ s.getD 5 und = .bool false ∧ s.getD 6 und = .int .i64 z
theorem rslI_lit {c : Cod} {f : Fnc} {l : List Int} {k : Nat} {s : List V} {h : Heap} (hI : rslI c f l k s h) : ∃ (i : Nat) (z : Int) (x : Nat → V), (i + k = l.length ∧ z = i ∧ (∀ n ∈ l.take i, slP f.s n 1) ∧ h = [.cells 81 (ckC c f)]) ∧
  s = [und, ckV c f, .lst 1 (l.map intV), .ptr 0 0 6, x 4, .bool false, .int .i64 z, x 7, x 8, x 9, x 10, x 11, x 12, x 13, x 14, x 15, x 16, x 17, x 18, x 19] := by
 obtain ⟨i, z, hF, hl, e0, e1, e2, e3, e5, e6⟩ := hI
 refine ⟨i, z, fun n => s.getD n und, hF, (ybb hl).trans ?_⟩
 simp only [List.range, List.range.loop, List.map_cons, List.map_nil]
 rw [e0, e1, e2, e3, e5, e6]
def rszI (c : Cod) (f : Fnc) (k : Nat) (s : List V) (h : Heap) : Prop :=
 ∃ (u : Nat), (u = 0 ∧ h = [.cells 81 (ckC c f)]) ∧ s.length = 20 ∧ s.getD 0 und = und ∧ s.getD 1 und = ckV c f ∧ s.getD 2 und = .nils ∧ s.getD 3 und = .ptr 0 0 6 ∧ s.getD 5 und = .bool false ∧ s.getD 6 und = .int .i64 0
theorem rszI_lit {c : Cod} {f : Fnc} {k : Nat} {s : List V} {h : Heap} (hI : rszI c f k s h) : ∃ (u : Nat) (x : Nat → V), (u = 0 ∧ h = [.cells 81 (ckC c f)]) ∧
  s = [und, ckV c f, .nils, .ptr 0 0 6, x 4, .bool false, .int .i64 0, x 7, x 8, x 9, x 10, x 11, x 12, x 13, x 14, x 15, x 16, x 17, x 18, x 19] := by
 obtain ⟨u, hF, hl, e0, e1, e2, e3, e5, e6⟩ := hI
 refine ⟨u, fun n => s.getD n und, hF, (ybb hl).trans ?_⟩
 simp only [List.range, List.range.loop, List.map_cons, List.map_nil]
 rw [e0, e1, e2, e3, e5, e6]
def rarI (f : Fnc) (L : List Ins) (a0 : Nat) (k : Nat) (s : List V) (h : Heap) : Prop :=
 ∃ (z : Int), (z = ((a0 - k : Nat) : Int) ∧ k ≤ a0 ∧ armsN L a0 = a0 - k + armsN L k ∧ h = [.cells 61 f.cells]) ∧ s.length = 26 ∧ s.getD 0 und = und ∧ s.getD 1 und = .agg f.cells ∧ s.getD 2 und = .int .i64 a0 ∧ s.getD 3 und = .ptr 0 0 5 ∧ s.getD 5 und = .int .i64 0 ∧ s.getD 6 und = .int .i64 z
theorem rarI_lit {f : Fnc} {L : List Ins} {a0 : Nat} {k : Nat} {s : List V} {h : Heap} (hI : rarI f L a0 k s h) : ∃ (z : Int) (x : Nat → V), (z = ((a0 - k : Nat) : Int) ∧ k ≤ a0 ∧ armsN L a0 = a0 - k + armsN L k ∧ h = [.cells 61 f.cells]) ∧
  s = [und, .agg f.cells, .int .i64 a0, .ptr 0 0 5, x 4, .int .i64 0, .int .i64 z, x 7, x 8, x 9, x 10, x 11, x 12, x 13, x 14, x 15, x 16, x 17, x 18, x 19, x 20, x 21, x 22, x 23, x 24, x 25] := by
 obtain ⟨z, hF, hl, e0, e1, e2, e3, e5, e6⟩ := hI
 refine ⟨z, fun n => s.getD n und, hF, (ybb hl).trans ?_⟩
 simp only [List.range, List.range.loop, List.map_cons, List.map_nil]
 rw [e0, e1, e2, e3, e5, e6]
theorem yct (h : Heap) (c : Cod) (f : Fnc) (n m : Int) (hS : 0 ≤ f.s ∧ f.s ≤ 200) (hm : 0 ≤ m ∧ m ≤ 2) : Has envQ .own 47 [ckV c f, .int .i64 n, .int .i64 m] h (.val (.bool (decide (slP f.s n m))) h) := by
 have e1 : IntKind.i64.wrap (f.s - m) = f.s - m := wrapS (by omega) (by omega)
 suffices hx : ∃ v, Has envQ .own 47 [ckV c f, .int .i64 n, .int .i64 m] h (.val v h) ∧ v = .bool (decide (slP f.s n m)) by
  obtain ⟨v, h1, rfl⟩ := hx; exact h1
 refine HasP.ownE (a := [ckV c f, .int .i64 n, .int .i64 m]) (d := fn47) (yaj (fz_ag (ych _ _)) (yaj rfl (yaj rfl yax))) rfl rfl (jT rfl) ?_
 unfold slP
 by_cases h1 : 0 ≤ n
 ·by_cases h2 : n ≤ f.s - m
  ·repeat first|apply jZ|apply jA|apply jB|apply jH|refine jN (by omega) (fun _ => ?_)|refine jY (fun _ => ?_) (by omega)|refine yan rfl rfl ?_|refine jX ?_
   exact ⟨rfl, _, rfl, jO _, boolV (by simp; omega)⟩
  ·repeat first|apply jZ|apply jA|apply jB|apply jH|refine jN (by omega) (fun _ => ?_)|refine jY (fun _ => ?_) (by omega)|refine yan rfl rfl ?_|refine jX ?_
   exact ⟨rfl, _, rfl, jO _, boolV (by simp; omega)⟩
 ·repeat first|apply jZ|apply jA|apply jB|apply jH|refine jN (by omega) (fun _ => ?_)|refine jY (fun _ => ?_) (by omega)|refine yan rfl rfl ?_|refine jX ?_
  exact ⟨rfl, _, rfl, jO _, boolV (by simp; omega)⟩
theorem yhc (h : Heap) (c : Cod) (f : Fnc) (n : Int) (hl : lenO f.cd ≤ 4000) : Has envQ .own 46 [ckV c f, .int .i64 n] h (.val (.bool (decide (plP (lenO f.cd) n))) h) := by
 suffices hx : ∃ v, Has envQ .own 46 [ckV c f, .int .i64 n] h (.val v h) ∧ v = .bool (decide (plP (lenO f.cd) n)) by
  obtain ⟨v, h1, rfl⟩ := hx; exact h1
 refine HasP.ownE (a := [ckV c f, .int .i64 n]) (d := fn46) (yaj (fz_ag (ych _ _)) (yaj rfl yax)) rfl rfl (jT rfl) ?_
 unfold plP
 by_cases h1 : 0 ≤ n
 ·by_cases h2 : n < (lenO f.cd : Int)
  ·repeat first|apply jZ|apply jA|apply jB|apply jH|refine jN (by omega) (fun _ => ?_)|refine jY (fun _ => ?_) (by omega)|refine yan rfl rfl ?_|refine jX ?_
   exact ⟨rfl, _, rfl, jO _, boolV (by simp; omega)⟩
  ·repeat first|apply jZ|apply jA|apply jB|apply jH|refine jN (by omega) (fun _ => ?_)|refine jY (fun _ => ?_) (by omega)|refine yan rfl rfl ?_|refine jX ?_
   exact ⟨rfl, _, rfl, jO _, boolV (by simp; omega)⟩
 ·repeat first|apply jZ|apply jA|apply jB|apply jH|refine jN (by omega) (fun _ => ?_)|refine jY (fun _ => ?_) (by omega)|refine yan rfl rfl ?_|refine jX ?_
  exact ⟨rfl, _, rfl, jO _, boolV (by simp; omega)⟩
set_option maxHeartbeats 2000000 in
theorem yfn (h : Heap) (c : Cod) (f : Fnc) (l : Option (List Int)) (hS : 0 ≤ f.s ∧ f.s ≤ 200) (hx : lenO l ≤ 2 ^ 50) : Has envQ .own 73 [ckV c f, optL 1 intV l] h (.val (.bool (decide (slsP f.s l))) h) := by
 suffices hx : ∃ v, Has envQ .own 73 [ckV c f, optL 1 intV l] h (.val v h) ∧ v = .bool (decide (slsP f.s l)) by
  obtain ⟨v, h1, rfl⟩ := hx; exact h1
 refine HasP.ownE (a := [ckV c f, optL 1 intV l]) (d := fn73) (yaj (fz_ag (ych _ _)) (yaj (fz_lf (ycc _ _ _)) yax)) rfl rfl (jT rfl) ?_
 cases l with
 | none =>
  refine jK ?_
  refine RunP.loop (rszI c f) ?_ 0 ⟨0, ⟨rfl, rfl⟩, rfl, rfl, rfl, rfl, rfl, rfl, rfl⟩
  intro k st g hI
  obtain ⟨u, x, ⟨_, rfl⟩, rfl⟩ := rszI_lit hI
  refine jK ?_
  refine jI (fun q => absurd q (by decide)) (fun _ => ?_)
  refine jK ?_
  exact ⟨rfl, _, rfl, jO _, boolV (by unfold slsP; simp)⟩
 | some l =>
  have hlm : ((l.map intV).length : Int) = (l.length : Int) := by simp
  have hlo : lenO (some l) = l.length := rfl
  refine jK ?_
  refine RunP.loop (rslI c f l) ?_ l.length ⟨0, _, ⟨by omega, rfl, by simp, rfl⟩, rfl, rfl, rfl, rfl, rfl, rfl, rfl⟩
  intro k st g hI
  obtain ⟨i, z, x, ⟨hik, hz, hall, rfl⟩, rfl⟩ := rslI_lit hI
  clear hI
  subst hz
  have hle : lenO (some l) = (l.map intV).length := by simp [lenO]
  by_cases hi : i < l.length
  ·obtain ⟨n, hn⟩ : ∃ n, l[i]? = some n := ⟨_, List.getElem?_eq_getElem hi⟩
   have hq := yct [.cells 81 (ckC c f)] c f n 1 hS (by omega)
   refine jK ?_
   refine jI (fun _ => ?_) (fun w => absurd w (by rw [List.length_map]; omega))
   refine jW ?_
   refine RunP.drawnR _ (by decide +kernel) (fun _ => rfl) ?_
   refine yko rfl (fun _ => id) (by decide +kernel) ?_
   refine yig rfl (fun _ => id) (by decide +kernel) ?_
   refine yig rfl (fun _ => id) (by decide +kernel) ?_
   refine yig rfl (fun K hK => jI (by omega) (jI rfl (Exists.intro (intV n) (jI (by rw [List.getElem?_map]; simp [hn]) hK)))) (by decide +kernel) ?_
   refine yko rfl (fun _ => id) (by decide +kernel) ?_
   refine yko rfl (fun K hK => CallK.of hq hK) (by decide +kernel) ?_
   refine yig rfl (fun _ => id) (by decide +kernel) ?_
   by_cases hf : slP f.s n 1
   ·rw [decide_eq_true hf]
    refine jK ?_
    exact ⟨k - 1, by omega, i + 1, _, ⟨by omega, ycj i (by omega), by
     intro m hm
     rw [List.take_add_one, hn] at hm
     rcases List.mem_append.1 hm with q | q
     ·exact hall m q
     ·simp at q; subst q; exact hf, rfl⟩, rfl, rfl, rfl, rfl, rfl, rfl, rfl⟩
   ·rw [decide_eq_false hf]
    refine jK ?_
    exact ⟨rfl, _, rfl, jO _, boolV ⟨fun q => by (cases q), fun q => absurd (q n (List.mem_of_getElem? hn)) hf⟩⟩
  ·have hi' : i = l.length := by omega
   rw [hi', List.take_length] at hall
   refine jK ?_
   refine jI (fun w => absurd w (by rw [List.length_map]; omega)) (fun _ => ?_)
   refine jK ?_
   exact ⟨rfl, _, rfl, jO _, boolV ⟨fun _ => hall, fun _ => rfl⟩⟩
set_option maxHeartbeats 2000000 in
theorem ywm (h : Heap) (f : Fnc) (L : List Ins) (hcd : f.cd = some L) (a0 : Nat) (hat : a0 ≤ L.length) (hL : L.length ≤ 4000) : Has envQ .own 104 [fncV f, .int .i64 a0] h (.val (.int .i64 (armsN L a0)) h) := by
 suffices hz : ∃ v, Has envQ .own 104 [fncV f, .int .i64 a0] h (.val v h) ∧ v = .int .i64 (armsN L a0) by
  obtain ⟨v, h1, rfl⟩ := hz; exact h1
 refine HasP.ownE (a := [fncV f, .int .i64 a0]) (d := fn104) (yaj (fz_ag (yfa _)) (yaj rfl yax)) rfl rfl (jT rfl) ?_
 obtain ⟨nm, p, s, cd, gd⟩ := f
 simp only at hcd
 subst hcd
 refine jK ?_
 refine RunP.loop (rarI ⟨nm, p, s, some L, gd⟩ L a0) ?_ a0 ⟨0, ⟨by omega, Nat.le_refl _, by omega, rfl⟩, rfl, rfl, rfl, rfl, rfl, rfl, rfl⟩
 intro k st g hI
 obtain ⟨z, x, ⟨hz, hk, ha, rfl⟩, rfl⟩ := rarI_lit hI
 clear hI
 subst hz
 have e1 : IntKind.i64.wrap ((a0 : Int) - ((a0 - k : Nat) : Int)) = (k : Int) := by rw [wrapS (by omega) (by omega)]; omega
 cases k with
 | zero =>
  refine jK ?_
  refine jI (fun q => absurd q (by rw [e1]; decide)) (fun _ => ?_)
  refine jK ?_
  exact ⟨rfl, _, rfl, jO _, by rw [ha]; rfl⟩
 | succ k =>
  obtain ⟨x0, hx0⟩ : ∃ x, L[k]? = some x := ⟨_, List.getElem?_eq_getElem (by omega)⟩
  obtain ⟨op, a, b, cc, kd, n, tx, l⟩ := x0
  have ew : IntKind.i64.wrap (IntKind.i64.wrap ((a0 : Int) - ((a0 - (k + 1) : Nat) : Int)) - 1) = (k : Int) := by rw [e1, wrapS (by omega) (by omega)]; omega
  refine jK ?_
  refine jI (fun _ => ?_) (fun w => absurd w (by rw [e1]; omega))
  refine jI (by rw [ew]; omega) (jI rfl (Exists.intro (.agg (iC op a b cc kd n tx l)) (jI (by rw [ew, List.getElem?_map]; simp [hx0]; rfl) ?_)))
  by_cases h11 : op = 11
  ·refine jI (fun _ => ?_) (fun w => absurd h11 w)
   refine jK ?_
   exact ⟨k, by omega, _, ⟨by rw [wrapS (by omega) (by omega)]; omega, by omega, by rw [ha, armsN, hx0]; simp only; rw [if_pos h11]; omega, rfl⟩, rfl, rfl, rfl, rfl, rfl, rfl, rfl⟩
  ·refine jI (fun w => absurd w h11) (fun _ => ?_)
   refine jK ?_
   have e0 : armsN L (k + 1) = 0 := by rw [armsN, hx0]; simp only; rw [if_neg h11]
   exact ⟨rfl, _, rfl, jO _, by rw [ha, e0]; rfl⟩
theorem ywn (h : Heap) (op : Int) : Has envQ .own 44 [.int .i64 op] h (.val (.bool (decide (op = 5 ∨ op = 8 ∨ op = 9 ∨ op = 12 ∨ op = 14))) h) := by
 suffices hx : ∃ v, Has envQ .own 44 [.int .i64 op] h (.val v h) ∧ v = .bool (decide (op = 5 ∨ op = 8 ∨ op = 9 ∨ op = 12 ∨ op = 14)) by
  obtain ⟨v, h1, rfl⟩ := hx; exact h1
 refine HasP.ownE (a := [.int .i64 op]) (d := fn44) (rfl) rfl rfl (jT rfl) ?_
 by_cases h5 : op = 5
 ·repeat first|apply jZ|apply jA|apply jB|apply jH|refine jN (by omega) (fun _ => ?_)|refine jY (fun _ => ?_) (by omega)|refine yan rfl rfl ?_|refine jX ?_
  exact ⟨rfl, _, rfl, rfl, vY (by omega)⟩
 by_cases h8 : op = 8
 ·repeat first|apply jZ|apply jA|apply jB|apply jH|refine jN (by omega) (fun _ => ?_)|refine jY (fun _ => ?_) (by omega)|refine yan rfl rfl ?_|refine jX ?_
  exact ⟨rfl, _, rfl, rfl, vY (by omega)⟩
 by_cases h9 : op = 9
 ·repeat first|apply jZ|apply jA|apply jB|apply jH|refine jN (by omega) (fun _ => ?_)|refine jY (fun _ => ?_) (by omega)|refine yan rfl rfl ?_|refine jX ?_
  exact ⟨rfl, _, rfl, rfl, vY (by omega)⟩
 by_cases h12 : op = 12
 ·repeat first|apply jZ|apply jA|apply jB|apply jH|refine jN (by omega) (fun _ => ?_)|refine jY (fun _ => ?_) (by omega)|refine yan rfl rfl ?_|refine jX ?_
  exact ⟨rfl, _, rfl, rfl, vY (by omega)⟩
 by_cases h14 : op = 14
 ·repeat first|apply jZ|apply jA|apply jB|apply jH|refine jN (by omega) (fun _ => ?_)|refine jY (fun _ => ?_) (by omega)|refine yan rfl rfl ?_|refine jX ?_
  exact ⟨rfl, _, rfl, rfl, vY (by omega)⟩
 ·repeat first|apply jZ|apply jA|apply jB|apply jH|refine jN (by omega) (fun _ => ?_)|refine jY (fun _ => ?_) (by omega)|refine yan rfl rfl ?_|refine jX ?_
  exact ⟨rfl, _, rfl, rfl, vN (by omega)⟩
theorem ywo (h : Heap) (op : Int) : Has envQ .own 72 [.int .i64 op] h (.val (.bool (decide (5 ≤ op ∧ op ≤ 6))) h) := by
 suffices hx : ∃ v, Has envQ .own 72 [.int .i64 op] h (.val v h) ∧ v = .bool (decide (5 ≤ op ∧ op ≤ 6)) by
  obtain ⟨v, h1, rfl⟩ := hx; exact h1
 refine HasP.ownE (a := [.int .i64 op]) (d := fn72) (rfl) rfl rfl (jT rfl) ?_
 by_cases h5 : op = 5
 ·repeat first|apply jZ|apply jA|apply jB|apply jH|refine jN (by omega) (fun _ => ?_)|refine jY (fun _ => ?_) (by omega)|refine yan rfl rfl ?_|refine jX ?_
  exact ⟨rfl, _, rfl, rfl, vY (by omega)⟩
 ·by_cases h6 : op = 6
  ·repeat first|apply jZ|apply jA|apply jB|apply jH|refine jN (by omega) (fun _ => ?_)|refine jY (fun _ => ?_) (by omega)|refine yan rfl rfl ?_|refine jX ?_
   exact ⟨rfl, _, rfl, rfl, vY (by omega)⟩
  ·repeat first|apply jZ|apply jA|apply jB|apply jH|refine jN (by omega) (fun _ => ?_)|refine jY (fun _ => ?_) (by omega)|refine yan rfl rfl ?_|refine jX ?_
   exact ⟨rfl, _, rfl, rfl, vN (by omega)⟩
end Go.Proofs.YtekmafoicobphaaGreatDoor

/- Codes: the reference's words: fits, asks. -/

namespace Go.Proofs.YtekmafoicobphaaGreatDoor
open Go.Sb
set_option maxRecDepth 100000
section
variable {E : Env} {md : FuncId → Sb.Mode} {A : List (List Nat)} {k : Nat} {o : ROp} {os : List ROp} {acc : List (Nat × Op × List V × V)} {s s' : List V} {h g : Heap} {v : V} {K : List V → Heap → Prop}
theorem draw_u {t : Tmp} {w : Bool} (hg : o.gd = some (t, w)) (hb : getT s t = .tup []) (hk : yal E md o.op ≠ 2) (hs : putT s o.dst und = s') (hn : yar E md A (k + 1) os acc s' h K) : yar E md A k (o :: os) acc s h K := by
 subst hs
 rw [yar, wantK, hg]
 simp only [hb]
 rw [if_neg hk, ybh]
 exact hn
end
theorem cmp2 {P Q R : Prop} [Decidable R] {K : V → Heap → Prop} {g : Heap} (h1 : P → R) (h2 : Q → ¬ R) (hK : K (.bool (decide R)) g) : (P → K (.bool true) g) ∧ (Q → K (.bool false) g) :=
 ⟨fun h => by rwa [decide_eq_true (h1 h)] at hK, fun h => by rwa [decide_eq_false (h2 h)] at hK⟩
set_option maxHeartbeats 4000000 in
theorem yrb (h : Heap) (c : Cod) (f : Fnc) (fn : Int) (l : Option (List Int)) (hS : 0 ≤ f.s ∧ f.s ≤ 200) (hl : lenO f.cd ≤ 4000) (hc : lenO c ≤ 1000) (hx : lenO l ≤ 2 ^ 50) : Has envQ .own 74 [ckV c f, .int .i64 fn, optL 1 intV l] h (.val (.bool (decide (fitP c f.s fn l))) h) := by
 suffices hx : ∃ v, Has envQ .own 74 [ckV c f, .int .i64 fn, optL 1 intV l] h (.val v h) ∧ v = .bool (decide (fitP c f.s fn l)) by
  obtain ⟨v, h1, rfl⟩ := hx; exact h1
 refine HasP.ownE (a := [ckV c f, .int .i64 fn, optL 1 intV l]) (d := fn74) (yaj (fz_ag (ych _ _)) (yaj rfl (yaj (fz_lf (ycc _ _ _)) yax))) rfl rfl (jT rfl) ?_
 by_cases h0 : 0 ≤ fn
 case neg =>
  refine jJ ?_
  exact ⟨rfl, _, rfl, jO _, vN (fun q => h0 q.1.1)⟩
 by_cases h1 : fn < (lenO c : Int)
 case neg =>
  refine jJ ?_
  exact ⟨rfl, _, rfl, jO _, vN (fun q => by
   obtain ⟨⟨_, g, hg, _⟩, _⟩ := q
   have := (List.getElem?_eq_some_iff.1 hg).1
   unfold lenO at h1
   omega)⟩
 have hs := yfn [.cells 81 (ckC c f)] c f l hS hx
 obtain ⟨L, rfl⟩ : ∃ L, c = some L := by
  cases c with
  | none => simp [lenO] at h1; omega
  | some L => exact ⟨L, rfl⟩
 have hlt : fn.toNat < L.length := by simp [lenO] at h1; omega
 obtain ⟨g0, hg⟩ : ∃ g, L[fn.toNat]? = some g := ⟨_, List.getElem?_eq_getElem hlt⟩
 have hpar : yfb (some L) fn (lenO l) ↔ (lenO l : Int) = g0.p := by
  constructor
  ·rintro ⟨_, g, q1, q2⟩
   rw [show (Option.getD (some L) [])[fn.toNat]? = some g0 from hg] at q1
   cases q1
   exact q2.symm
  ·intro q; exact ⟨h0, g0, hg, q.symm⟩
 have hlen : (lenO (some L) : Int) = ((L.map fncV).length : Int) := by simp [lenO]
 obtain ⟨nm, pp, ss, cd, gd⟩ := g0
 simp only at hpar
 have hL : ((List.map fncV L).length : Int) = (L.length : Int) := by simp
 by_cases hp : (lenO l : Int) = pp
 ·repeat first|apply jZ|apply jA|apply jB|apply jH|refine jN (by omega) (fun _ => ?_)|refine jY (fun _ => ?_) (by omega)|refine yan rfl rfl ?_|refine jX ?_
  refine jI h0 (jI rfl (Exists.intro (fncV ⟨nm, pp, ss, cd, gd⟩) (jI (by rw [List.getElem?_map, hg]; rfl) ?_)))
  refine jI (fun _ => ?_) (fun w => absurd hp w)
  refine jJ ?_
  refine CallK.of hs ?_
  refine jJ ?_
  exact ⟨rfl, _, rfl, jO _, boolV ⟨fun w => ⟨hpar.2 hp, jT w⟩, fun q => decide_eq_true q.2⟩⟩
 ·repeat first|apply jZ|apply jA|apply jB|apply jH|refine jN (by omega) (fun _ => ?_)|refine jY (fun _ => ?_) (by omega)|refine yan rfl rfl ?_|refine jX ?_
  refine jI h0 (jI rfl (Exists.intro (fncV ⟨nm, pp, ss, cd, gd⟩) (jI (by rw [List.getElem?_map, hg]; rfl) ?_)))
  refine jI (fun w => absurd w hp) (fun _ => ?_)
  refine jJ ?_
  exact ⟨rfl, _, rfl, jO _, vN (fun q => hp (hpar.1 q.1))⟩
end Go.Proofs.YtekmafoicobphaaGreatDoor
