/- Codes: the program's words: parameters, lists of fields. -/
import Derived.Test.YtekmafoicobphaaGreatDoorSb10Chk1
set_option linter.unusedVariables false
set_option linter.unusedSimpArgs false
namespace Go.Proofs.YtekmafoicobphaaGreatDoor
open Go.Sb
set_option maxRecDepth 100000
def ciI (l : List Int) (c : Cod) (f : Fnc) (w : Int) (k : Nat) (s : List V) (h : Heap) : Prop :=
 ∃ (i : Nat) (z : Int), (i + k = l.length ∧ z = i ∧ ∀ n ∈ l.take i, ybi f.s (lenO f.cd) n w) ∧ s.length = 20 ∧ s.getD 0 und = und ∧ s.getD 1 und = .lst 1 (l.map intV) ∧ s.getD 2 und = .fn (.func 119) [.rop (ckC c f), .rop [.int .i64 w]] ∧ s.getD 8 und = .int .i64 (l.map intV).length ∧ s.getD 9 und = .int .i64 z
theorem ciI_lit {l : List Int} {c : Cod} {f : Fnc} {w : Int} {k : Nat} {s : List V} {h : Heap} (hI : ciI l c f w k s h) : ∃ (i : Nat) (z : Int) (x : Nat → V), (i + k = l.length ∧ z = i ∧ ∀ n ∈ l.take i, ybi f.s (lenO f.cd) n w) ∧
  s = [und, .lst 1 (l.map intV), .fn (.func 119) [.rop (ckC c f), .rop [.int .i64 w]], x 3, x 4, x 5, x 6, x 7, .int .i64 (l.map intV).length, .int .i64 z, x 10, x 11, x 12, x 13, x 14, x 15, x 16, x 17, x 18, x 19] := by
 obtain ⟨i, z, hF, hl, e0, e1, e2, e8, e9⟩ := hI
 refine ⟨i, z, fun n => s.getD n und, hF, (ybd hl).trans ?_⟩
 simp only [List.range, List.range.loop, List.map_cons, List.map_nil]
 rw [e0, e1, e2, e8, e9]
def yhc (c : Cod) (fn n : Int) : Prop := 0 ≤ fn ∧ ∃ g, (c.getD [])[fn.toNat]? = some g ∧ g.p = n
noncomputable instance (c : Cod) (fn n : Int) : Decidable (yhc c fn n) := Classical.propDecidable _
set_option maxHeartbeats 2000000 in
theorem yrm (h : Heap) (c : Cod) (f : Fnc) (fn n : Int) (hc : lenO c ≤ 1000) : Has envQ .own 120 [ckV c f, .int .i64 fn, .int .i64 n] h (.val (.bool (decide (yhc c fn n))) h) := by
 have e1 : IntKind.i64.wrap ((lenO c : Int) - 1) = (lenO c : Int) - 1 := wrapS (by omega) (by omega)
 suffices hx : ∃ v, Has envQ .own 120 [ckV c f, .int .i64 fn, .int .i64 n] h (.val v h) ∧ v = .bool (decide (yhc c fn n)) by
  obtain ⟨v, h1, rfl⟩ := hx; exact h1
 refine HasP.ownE (a := [ckV c f, .int .i64 fn, .int .i64 n]) (d := fn120) (yaf (fz_ag (ydt _ _)) (yaf rfl (yaf rfl yan))) rfl rfl (jT rfl) ?_
 have hw := ydd [.cells 97 (ckC c f)] fn 0 (IntKind.i64.wrap ((lenO c : Int) - 1))
 by_cases hin : 0 ≤ fn ∧ fn ≤ (lenO c : Int) - 1
 ·rw [decide_eq_true (show 0 ≤ fn ∧ fn ≤ IntKind.i64.wrap ((lenO c : Int) - 1) from by rw [e1]; exact hin)] at hw
  refine jJ ?_
  refine CallK.of hw ?_
  clear hw e1
  obtain ⟨l, rfl⟩ : ∃ l, c = some l := by
   cases c with
   | none => simp [lenO] at hin; omega
   | some l => exact ⟨l, rfl⟩
  have hlt : fn.toNat < l.length := by simp [lenO] at hin; omega
  obtain ⟨g, hg⟩ : ∃ g, l[fn.toNat]? = some g := ⟨_, List.getElem?_eq_getElem hlt⟩
  refine jI hin.1 (jI rfl (Exists.intro (fncV g) (jI (by rw [List.getElem?_map, hg]; rfl) ?_)))
  refine jJ ?_
  refine jI (fun q => ?_) (fun q => ?_)
  ·repeat first|apply jZ|apply jA|apply jB|apply jH|refine jN (by omega) (fun _ => ?_)|refine jY (fun _ => ?_) (by omega)|refine ybh rfl rfl ?_|refine jX ?_
   exact ⟨rfl, _, rfl, jO _, boolV (by simp; exact ⟨hin.1, g, hg, q⟩)⟩
  ·repeat first|apply jZ|apply jA|apply jB|apply jH|refine jN (by omega) (fun _ => ?_)|refine jY (fun _ => ?_) (by omega)|refine ybh rfl rfl ?_|refine jX ?_
   exact ⟨rfl, _, rfl, jO _, boolV (by
    constructor
    ·intro w; cases w
    ·rintro ⟨_, g', hg', q'⟩
     have : g' = g := by simpa [hg] using hg'.symm
     exact absurd (by rw [← this]; exact q') q)⟩
 ·rw [decide_eq_false (show ¬ (0 ≤ fn ∧ fn ≤ IntKind.i64.wrap ((lenO c : Int) - 1)) from by rw [e1]; exact hin)] at hw
  refine jJ ?_
  refine CallK.of hw ?_
  refine jJ ?_
  exact ⟨rfl, _, rfl, jO _, boolV (by
   constructor
   ·intro w; cases w
   ·rintro ⟨h0, g', hg', _⟩
    have := (List.getElem?_eq_some_iff.1 hg').1
    exact absurd ⟨h0, by unfold lenO; omega⟩ hin)⟩
theorem yxa (h : Heap) (c : Cod) (f : Fnc) (n w : Int) (hS : 0 ≤ f.s ∧ f.s ≤ 200) (hl : lenO f.cd ≤ 4000) : Has envQ .own 119 [.int .i64 n, .rop (ckC c f), .rop [.int .i64 w]] h (.val (.bool (!decide (ybi f.s (lenO f.cd) n w))) h) := by
 suffices hx : ∃ v, Has envQ .own 119 [.int .i64 n, .rop (ckC c f), .rop [.int .i64 w]] h (.val v h) ∧ v = .bool (!decide (ybi f.s (lenO f.cd) n w)) by
  obtain ⟨v, h1, rfl⟩ := hx; exact h1
 refine HasP.ownE (a := [.int .i64 n, .rop (ckC c f), .rop [.int .i64 w]]) (d := fn119) (yaf rfl (yaf rfl (yaf rfl yan))) rfl rfl (jT rfl) ?_
 refine jJ ?_
 refine CallK.of (yev _ c f n w hS hl) ?_
 refine jJ ?_
 exact ⟨rfl, _, rfl, jO _, rfl⟩
set_option maxHeartbeats 2000000 in
theorem yxb (h : Heap) (c : Cod) (f : Fnc) (w : Int) (l : List Int) (hS : 0 ≤ f.s ∧ f.s ≤ 200) (hl : lenO f.cd ≤ 4000) (hll : l.length ≤ 2 ^ 50) : ∃ r : Int, Has envQ .own 136 [.lst 1 (l.map intV), .fn (.func 119) [.rop (ckC c f), .rop [.int .i64 w]]] h (.val (.int .i64 r) h) ∧ (0 ≤ r ↔ ¬ ∀ n ∈ l, ybi f.s (lenO f.cd) n w) := by
 suffices hx : ∃ v, Has envQ .own 136 [.lst 1 (l.map intV), .fn (.func 119) [.rop (ckC c f), .rop [.int .i64 w]]] h (.val v h) ∧ ∃ r : Int, v = .int .i64 r ∧ (0 ≤ r ↔ ¬ ∀ n ∈ l, ybi f.s (lenO f.cd) n w) by
  obtain ⟨v, h1, r, rfl, h2⟩ := hx; exact ⟨r, h1, h2⟩
 refine HasP.ownE (a := [.lst 1 (l.map intV), .fn (.func 119) [.rop (ckC c f), .rop [.int .i64 w]]]) (d := fn136) (yaf rfl (yaf (fz_fn (yaf rfl (yaf rfl yan))) yan)) rfl rfl (jT rfl) ?_
 have hlm : ((l.map intV).length : Int) = (l.length : Int) := by simp
 refine jV ?_
 refine RunP.loop (ciI l c f w) ?_ l.length ⟨0, _, ⟨by omega, rfl, by simp⟩, rfl, rfl, rfl, rfl, rfl, rfl⟩
 intro k st g hI
 obtain ⟨i, z, x, ⟨hik, hz, hall⟩, rfl⟩ := ciI_lit hI
 clear hI
 subst hz
 refine jV ?_
 refine jI (fun hlt => ?_) (fun hge => ?_)
 ·have hi : i < l.length := by omega
  obtain ⟨n, hn⟩ : ∃ n, l[i]? = some n := ⟨_, List.getElem?_eq_getElem hi⟩
  refine jV ?_
  refine jI (by omega) (jI rfl (Exists.intro (intV n) (jI (by rw [List.getElem?_map]; simp [hn]) ?_)))
  have hq := yxa g c f n w hS hl
  by_cases hf : ybi f.s (lenO f.cd) n w
  ·rw [decide_eq_true hf] at hq
   refine CallK.of hq ?_
   refine jV ?_
   exact ⟨k - 1, by omega, i + 1, _, ⟨by omega, wrap1 (by omega), by
    intro m hm
    rw [List.take_add_one, hn] at hm
    rcases List.mem_append.1 hm with q | q
    ·exact hall m q
    ·simp at q; subst q; exact hf⟩, rfl, rfl, rfl, rfl, rfl, rfl⟩
  ·rw [decide_eq_false hf] at hq
   refine CallK.of hq ?_
   refine jV ?_
   exact ⟨rfl, _, rfl, jO _, _, rfl, ⟨fun _ q => hf (q n (List.mem_of_getElem? hn)), fun _ => by omega⟩⟩
 ·have hi : i = l.length := by omega
  rw [hi, List.take_length] at hall
  refine jV ?_
  exact ⟨rfl, _, rfl, jO _, _, rfl, ⟨fun q => absurd q (by decide), fun q => absurd hall q⟩⟩
set_option maxHeartbeats 2000000 in
theorem yxc (h : Heap) (c : Cod) (f : Fnc) (w : Int) (l : Option (List Int)) (hS : 0 ≤ f.s ∧ f.s ≤ 200) (hl : lenO f.cd ≤ 4000) (hll : lenO l ≤ 2 ^ 50) : Has envQ .own 118 [optL 1 intV l, .fn (.func 119) [.rop (ckC c f), .rop [.int .i64 w]]] h (.val (.bool (decide (¬ ∀ n ∈ l.getD [], ybi f.s (lenO f.cd) n w))) h) := by
 suffices hx : ∃ v, Has envQ .own 118 [optL 1 intV l, .fn (.func 119) [.rop (ckC c f), .rop [.int .i64 w]]] h (.val v h) ∧ v = .bool (decide (¬ ∀ n ∈ l.getD [], ybi f.s (lenO f.cd) n w)) by
  obtain ⟨v, h1, rfl⟩ := hx; exact h1
 refine HasP.ownE (a := [optL 1 intV l, .fn (.func 119) [.rop (ckC c f), .rop [.int .i64 w]]]) (d := fn118) (yaf (fz_lf (yck _ _ _)) (yaf (fz_fn (yaf rfl (yaf rfl yan))) yan)) rfl rfl (jT rfl) ?_
 cases l with
 | none =>
  have hn : Has envQ .own 136 [.nils, .fn (.func 119) [.rop (ckC c f), .rop [.int .i64 w]]] [] (.val (.int .i64 (-1)) []) := by
   refine HasP.own (a := [.nils, .fn (.func 119) [.rop (ckC c f), .rop [.int .i64 w]]]) (d := fn136) (yaf rfl (yaf (fz_fn (yaf rfl (yaf rfl yan))) yan)) rfl rfl (jT rfl) ?_
   refine jV ?_
   refine RunP.loop (fun _ s h => ∃ x : Nat → V, h = [] ∧ s = [und, .nils, .fn (.func 119) [.rop (ckC c f), .rop [.int .i64 w]], x 3, x 4, .int .i64 0, x 6, .nils, .int .i64 0, .int .i64 0, x 10, x 11, x 12, x 13, x 14, x 15, x 16, x 17, x 18, x 19]) ?_ 0 ⟨fun n => und, rfl, rfl⟩
   rintro k st g ⟨x, rfl, rfl⟩
   refine jV ?_
   refine jI (fun q => absurd q (by decide)) (fun _ => ?_)
   refine jV ?_
   exact ⟨rfl, rfl, jO _⟩
  refine jV ?_
  refine CallK.of hn ?_
  refine jI (fun q => absurd q (by decide)) (fun _ => ?_)
  refine jV ?_
  exact ⟨rfl, _, rfl, jO _, boolV (by simp)⟩
 | some l =>
  obtain ⟨r, hr, hiff⟩ := yxb [] c f w l hS hl hll
  refine jV ?_
  refine CallK.of hr ?_
  refine jI (fun q => ?_) (fun q => ?_)
  ·repeat first|apply jZ|apply jA|apply jB|apply jH
   exact ⟨rfl, _, rfl, jO _, boolV (by simp only [true_iff]; exact hiff.1 q)⟩
  ·repeat first|apply jZ|apply jA|apply jB|apply jH
   exact ⟨rfl, _, rfl, jO _, boolV (by constructor; (intro w; cases w); (intro w; exact absurd (hiff.2 w) (by omega)))⟩
end Go.Proofs.YtekmafoicobphaaGreatDoor
