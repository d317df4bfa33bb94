/- Codes as plain data. -/
import Derived.Test.YtekmafoicobphaaGreatDoorSbVal
import Derived.Test.YtekmafoicobphaaGreatDoorSbDraw2
import Derived.Test.YtekmafoicobphaaGreatDoorSbIter
set_option linter.unusedVariables false
set_option linter.unusedSimpArgs false
namespace Go.Proofs.YtekmafoicobphaaGreatDoor
open Go.Sb
set_option maxRecDepth 100000
def optL {α : Type} (e : Nat) (f : α → V) : Option (List α) → V
 | none => .nils
 | some l => .lst e (l.map f)
def lenO {α : Type} (l : Option (List α)) : Nat := (l.getD []).length
structure Ins where
 op : Int
 a : Int
 b : Int
 c : Int
 k : Int
 n : Int
 s : List UInt8
 l : Option (List Int)
structure Grd where
 f : Int
 t : Int
 p : Int
 s : Int
structure Fnc where
 nm : List UInt8
 p : Int
 s : Int
 cd : Option (List Ins)
 gd : Option (List Grd)
abbrev Cod := Option (List Fnc)
def intV (z : Int) : V := .int .i64 z
def iC (op a b cc kd n : Int) (tx : List UInt8) (l : Option (List Int)) : List V := [.int .i64 op, .int .i64 a, .int .i64 b, .int .i64 cc, .int .i64 kd, .int .i64 n, .str tx, optL 1 intV l]
def Ins.cells (x : Ins) : List V := iC x.op x.a x.b x.c x.k x.n x.s x.l
def insV (x : Ins) : V := .agg x.cells
def Grd.cells (x : Grd) : List V := [.int .i64 x.f, .int .i64 x.t, .int .i64 x.p, .int .i64 x.s]
def grdV (x : Grd) : V := .agg x.cells
def Fnc.cells (x : Fnc) : List V := [.str x.nm, .int .i64 x.p, .int .i64 x.s, optL 8 insV x.cd, optL 4 grdV x.gd]
def fncV (x : Fnc) : V := .agg x.cells
def ckC (c : Option (List Fnc)) (f : Fnc) : List V := [optL 5 fncV c, .str f.nm, .int .i64 f.p, .int .i64 f.s, optL 8 insV f.cd, optL 4 grdV f.gd]
def ckV (c : Option (List Fnc)) (f : Fnc) : V := .agg (ckC c f)
theorem ycc {α : Type} (e : Nat) (f : α → V) (l : Option (List α)) : (optL e f l).leaf = true := by cases l <;> rfl
theorem yec (op a b cc kd n : Int) (tx : List UInt8) (l : Option (List Int)) : (iC op a b cc kd n tx l).all V.leaf = true := by simp only [iC, List.all_cons, List.all_nil, ycc]; rfl
theorem yqw (x : Ins) : x.cells.all V.leaf = true := yec ..
theorem yij (x : Grd) : x.cells.all V.leaf = true := by simp only [Grd.cells, List.all_cons, List.all_nil, ycc]; rfl
theorem yfa (x : Fnc) : x.cells.all V.leaf = true := by simp only [Fnc.cells, List.all_cons, List.all_nil, ycc]; rfl
theorem ych (c : Option (List Fnc)) (f : Fnc) : (ckC c f).all V.leaf = true := by simp only [ckC, List.all_cons, List.all_nil, ycc]; rfl
theorem ywd {v : V} (h : v.leaf = true) : v.isCell = true := by cases v <;> simp [V.leaf] at h <;> rfl
theorem yeo {cs : List V} (h : cs.all V.leaf = true) : cs.all V.isCell = true := List.all_eq_true.2 fun c hc => ywd (List.all_eq_true.1 h c hc)
theorem fz_agg {E : Env} {h : Heap} {n : Nat} {cs : List V} (hc : cs.all V.leaf = true) : Sb.fz E h (n + 2) (.agg cs) = some (.agg cs) := by
 show (cs.mapM (Sb.fz E h (n + 1))).map V.agg = _
 rw [yif fun c hx => List.all_eq_true.1 hc c hx]; rfl
theorem yaj {E : Env} {h : Heap} {n : Nat} {v w : V} {vs ws : List V} (h1 : Sb.fz E h n v = some w) (h2 : vs.mapM (Sb.fz E h n) = some ws) : (v :: vs).mapM (Sb.fz E h n) = some (w :: ws) := by
 rw [List.mapM_cons, h1, h2]; rfl
theorem yax {E : Env} {h : Heap} {n : Nat} : ([] : List V).mapM (Sb.fz E h n) = some [] := rfl
theorem fz_lf {E : Env} {h : Heap} {v : V} (hv : v.leaf = true) : Sb.fz E h ybq v = some v := yqg (n := 11) hv
theorem fz_ag {E : Env} {h : Heap} {cs : List V} (hc : cs.all V.leaf = true) : Sb.fz E h ybq (.agg cs) = some (.agg cs) := fz_agg (n := 10) hc
theorem len_opt {α : Type} {E : Env} {t el : TypeId} {d : TyD} {e : Nat} {f : α → V} {l : Option (List α)} {h : Heap} (ht : E.ty t = some d) (hu : d.u = .slice el) : evLen E t (optL e f l) h = some (.int .i64 (lenO l)) := by
 unfold evLen
 rw [ht]
 simp only [Option.bind_some, hu]
 cases l with
 | none => rfl
 | some l => simp [optL, lenO]
theorem yan {α : Type} {E : Env} {t el : TypeId} {ts : List TypeId} {d : TyD} {e : Nat} {f : α → V} {l : Option (List α)} {h : Heap} {K : V → Heap → Prop} (ht : E.ty t = some d) (hu : d.u = .slice el) (hk : K (.int .i64 (lenO l)) h) :
  bindR (yeg E .len (t :: ts) [optL e f l] h) K := by
 refine ycs (v := .int .i64 (lenO l)) (h := h) ?_ hk
 show (evLen E t (optL e f l) h).map (fun v => OpR.val v h) = _
 rw [len_opt ht hu]; rfl
theorem yco {t : TypeId} {cs : List V} {h : Heap} {K : V → Heap → Prop} (hc : cs.all V.leaf = true) (hk : K (.ptr h.length 0 cs.length) (push h (.cells t cs))) : bindP (evBox t (.agg cs) h) K := by
 refine ykc (v := .ptr h.length 0 cs.length) (h := push h (.cells t cs)) ?_ hk
 show (if cs.all V.isCell = true then _ else _) = _
 rw [if_pos (yeo hc)]; rfl
theorem Has.thaw {E : Env} {f : FuncId} {args a : List V} {h h0 : Heap} {v : V} (h1 : args.mapM (Sb.fz E h ybq) = some a) (h2 : a.mapM (Sb.fz E h0 ybq) = some a) (hf : v.flat = true) (hH : Has E .own f a h0 (.val v h0)) : Has E .own f args h (.val v h) := by
 obtain ⟨N, hN⟩ := hH
 refine ⟨N + 1, fun n hn => ?_⟩
 obtain ⟨n, rfl⟩ : ∃ n', n = n' + 1 := ⟨n - 1, by omega⟩
 have hx := hN (n + 1) (by omega)
 simp only [callN, h2, Option.bind_some] at hx
 simp only [callN, h1, Option.bind_some]
 cases hl : E.lib f with
 | some p =>
  rw [hl] at hx
  simp only at hx ⊢
  obtain ⟨u, hu, hx⟩ := Option.bind_eq_some_iff.1 hx
  rw [hu, Option.bind_some]
  split at hx
  ·cases hx; rw [if_pos (by rw [hf, jO])]
  ·cases hx
 | none =>
  rw [hl] at hx
  simp only at hx ⊢
  obtain ⟨r, hr, hx⟩ := Option.bind_eq_some_iff.1 hx
  rw [hr, Option.bind_some]
  cases r with
  | val u g =>
   simp only [yej] at hx ⊢
   obtain ⟨w, hw, hx⟩ := Option.bind_eq_some_iff.1 hx
   rw [hw, Option.bind_some]
   split at hx
   ·cases hx; rw [if_pos (by rw [hf, jO])]
   ·cases hx
  | pan u g =>
   simp only [yej] at hx
   obtain ⟨w, hw, hx⟩ := Option.bind_eq_some_iff.1 hx
   split at hx
   ·cases hx
   ·cases hx
theorem fz_ptr {E : Env} {h : Heap} {n b o sz : Nat} {T : TypeId} {cs : List V} (hb : h[b]? = some (.cells T cs)) (hl : cs.length = sz) (hc : cs.all V.leaf = true) : Sb.fz E h (n + 2) (.ptr b o sz) = some (.rop (cs.drop o)) := by
 show (ybp h b sz).bind (fun x => ((x.2.drop o).mapM (Sb.fz E h (n + 1))).map V.rop) = _
 have : ybp h b sz = some (T, cs) := by unfold ybp; rw [hb]; simp only; rw [if_pos hl]
 rw [this, Option.bind_some]
 simp only
 rw [yif fun c hx => List.all_eq_true.1 hc c (List.mem_of_mem_drop hx)]; rfl
theorem fz_fn {E : Env} {h : Heap} {n : Nat} {g : Fn} {cs ds : List V} (hc : cs.mapM (Sb.fz E h n) = some ds) : Sb.fz E h (n + 1) (.fn g cs) = some (.fn g ds) := by
 show (cs.mapM (Sb.fz E h n)).map (V.fn g) = _
 rw [hc]; rfl
theorem yed {E : Env} {h : Heap} {g : Fn} {cs ds : List V} (hc : cs.mapM (Sb.fz E h 11) = some ds) : Sb.fz E h ybq (.fn g cs) = some (.fn g ds) := fz_fn (n := 11) hc
theorem ykt {E : Env} {h : Heap} {b o sz : Nat} {T : TypeId} {cs : List V} (hb : h[b]? = some (.cells T cs)) (hl : cs.length = sz) (hc : cs.all V.leaf = true) : Sb.fz E h 11 (.ptr b o sz) = some (.rop (cs.drop o)) := fz_ptr (n := 9) hb hl hc
theorem RunP.midS {E : Env} {md : FuncId → Sb.Mode} {a : Code} {s : List V} {h : Heap} {B : List V → Heap → Prop} {Q : Ex → List V → Heap → Prop} (M : List V → Heap → Prop) (h1 : RunP E md a s h fun e s' h' => e = .normal ∧ M s' h') (h2 : ∀ s' h', M s' h' → B s' h') : RunP E md a s h (seqK B Q) :=
 h1.mono (by rintro e s' h' ⟨rfl, hm⟩; exact h2 _ _ hm)
theorem boolV {P : Prop} [Decidable P] {b : Bool} (h : b = true ↔ P) : V.bool b = .bool (decide P) := vT h
class LeafL (cs : List V) : Prop where
 l : cs.all V.leaf = true
instance (c : Option (List Fnc)) (f : Fnc) : LeafL (ckC c f) := ⟨ych c f⟩
instance (op a b cc kd n : Int) (tx : List UInt8) (l : Option (List Int)) : LeafL (iC op a b cc kd n tx l) := ⟨yec op a b cc kd n tx l⟩
instance (x : Ins) : LeafL x.cells := ⟨yqw x⟩
instance (x : Grd) : LeafL x.cells := ⟨yij x⟩
instance (x : Fnc) : LeafL x.cells := ⟨yfa x⟩
theorem jX {t : Go.TypeId} {cs : List V} [i : LeafL cs] {h : Heap} {K : V → Heap → Prop} (hk : K (.ptr h.length 0 cs.length) (push h (.cells t cs))) : bindP (evBox t (.agg cs) h) K := yco i.l hk
theorem jK {p q : Prop} (h : q) (k : q → p := by intro h; (repeat first|apply jZ|apply jA|apply jB|apply jH|refine yan rfl rfl ?_|refine jX ?_); exact h) : p := k h
structure Hid (q : Prop) : Prop where
 l : q
theorem jJ {p q : Prop} (h : q) (k : Hid q → p := by intro h; (repeat first|apply jZ|apply jA|apply jB|apply jH|refine jN (by omega) (fun _ => ?_)|refine jY (fun _ => ?_) (by omega)|refine yan rfl rfl ?_|refine jX ?_); exact h.l) : p := k ⟨h⟩
end Go.Proofs.YtekmafoicobphaaGreatDoor

/- Codes: the program's words: within, a field, parameters. -/

namespace Go.Proofs.YtekmafoicobphaaGreatDoor
open Go.Sb
set_option maxRecDepth 100000
theorem ydi (h : Heap) (n lo hi : Int) : Has envQ .own 62 [.int .i64 n, .int .i64 lo, .int .i64 hi] h (.val (.bool (decide (lo ≤ n ∧ n ≤ hi))) h) := by
 suffices hx : ∃ v, Has envQ .own 62 [.int .i64 n, .int .i64 lo, .int .i64 hi] h (.val v h) ∧ v = .bool (decide (lo ≤ n ∧ n ≤ hi)) by
  obtain ⟨v, h1, rfl⟩ := hx; exact h1
 refine HasP.ownE (a := [.int .i64 n, .int .i64 lo, .int .i64 hi]) (d := fn62) (rfl) rfl rfl (jT rfl) ?_
 by_cases h1 : lo ≤ n
 ·by_cases h2 : n ≤ hi
  ·repeat first|apply jZ|apply jA|apply jB|apply jH|refine jN (by omega) (fun _ => ?_)|refine jY (fun _ => ?_) (by omega)|refine yan rfl rfl ?_|refine jX ?_
   exact ⟨rfl, _, rfl, jO _, boolV (by simp; omega)⟩
  ·repeat first|apply jZ|apply jA|apply jB|apply jH|refine jN (by omega) (fun _ => ?_)|refine jY (fun _ => ?_) (by omega)|refine yan rfl rfl ?_|refine jX ?_
   exact ⟨rfl, _, rfl, jO _, boolV (by simp; omega)⟩
 ·repeat first|apply jZ|apply jA|apply jB|apply jH|refine jN (by omega) (fun _ => ?_)|refine jY (fun _ => ?_) (by omega)|refine yan rfl rfl ?_|refine jX ?_
  exact ⟨rfl, _, rfl, jO _, boolV (by simp; omega)⟩
def yaz (S len n what : Int) : Prop := if what = 0 then n = 0 else if what = 1 then 0 ≤ n ∧ n ≤ S - 1 else if what = 2 then -1 ≤ n ∧ n ≤ S - 1 else if what = 3 then 0 ≤ n ∧ n ≤ len - 1 else True
instance (S len n what : Int) : Decidable (yaz S len n what) := by unfold yaz; infer_instance
set_option maxHeartbeats 2000000 in
theorem yfm (h : Heap) (c : Option (List Fnc)) (f : Fnc) (n what : Int) (hS : 0 ≤ f.s ∧ f.s ≤ 200) (hl : lenO f.cd ≤ 4000) : Has envQ .own 117 [ckV c f, .int .i64 n, .int .i64 what] h (.val (.bool (decide (yaz f.s (lenO f.cd) n what))) h) := by
 have e1 : IntKind.i64.wrap (f.s - 1) = f.s - 1 := wrapS (by omega) (by omega)
 have e2 : IntKind.i64.wrap ((lenO f.cd : Int) - 1) = (lenO f.cd : Int) - 1 := wrapS (by omega) (by omega)
 suffices hx : ∃ v, Has envQ .own 117 [ckV c f, .int .i64 n, .int .i64 what] h (.val v h) ∧ v = .bool (decide (yaz f.s (lenO f.cd) n what)) by
  obtain ⟨v, h1, rfl⟩ := hx; exact h1
 refine HasP.ownE (a := [ckV c f, .int .i64 n, .int .i64 what]) (d := fn117) (yaj (fz_ag (ych _ _)) (yaj rfl (yaj rfl yax))) rfl rfl (jT rfl) ?_
 unfold yaz
 by_cases w0 : what = 0
 ·repeat first|apply jZ|apply jA|apply jB|apply jH|refine jN (by omega) (fun _ => ?_)|refine jY (fun _ => ?_) (by omega)|refine yan rfl rfl ?_|refine jX ?_
  refine jI (fun q => ?_) (fun q => ?_)
  ·repeat first|apply jZ|apply jA|apply jB|apply jH|refine jN (by omega) (fun _ => ?_)|refine jY (fun _ => ?_) (by omega)|refine yan rfl rfl ?_|refine jX ?_
   exact ⟨rfl, _, rfl, jO _, boolV (by rw [if_pos w0]; simp; omega)⟩
  ·repeat first|apply jZ|apply jA|apply jB|apply jH|refine jN (by omega) (fun _ => ?_)|refine jY (fun _ => ?_) (by omega)|refine yan rfl rfl ?_|refine jX ?_
   exact ⟨rfl, _, rfl, jO _, boolV (by rw [if_pos w0]; simp; omega)⟩
 by_cases w1 : what = 1
 ·repeat first|apply jZ|apply jA|apply jB|apply jH|refine jN (by omega) (fun _ => ?_)|refine jY (fun _ => ?_) (by omega)|refine yan rfl rfl ?_|refine jX ?_
  refine CallK.of (ydi _ _ _ _) ?_
  refine jJ ?_
  exact ⟨rfl, _, rfl, jO _, boolV (by rw [if_neg w0, if_pos w1, e1]; simp)⟩
 by_cases w2 : what = 2
 ·repeat first|apply jZ|apply jA|apply jB|apply jH|refine jN (by omega) (fun _ => ?_)|refine jY (fun _ => ?_) (by omega)|refine yan rfl rfl ?_|refine jX ?_
  refine CallK.of (ydi _ _ _ _) ?_
  refine jJ ?_
  exact ⟨rfl, _, rfl, jO _, boolV (by rw [if_neg w0, if_neg w1, if_pos w2, e1]; simp)⟩
 by_cases w3 : what = 3
 ·repeat first|apply jZ|apply jA|apply jB|apply jH|refine jN (by omega) (fun _ => ?_)|refine jY (fun _ => ?_) (by omega)|refine yan rfl rfl ?_|refine jX ?_
  refine CallK.of (ydi _ _ _ _) ?_
  refine jJ ?_
  exact ⟨rfl, _, rfl, jO _, boolV (by rw [if_neg w0, if_neg w1, if_neg w2, if_pos w3, e2]; simp)⟩
 ·repeat first|apply jZ|apply jA|apply jB|apply jH|refine jN (by omega) (fun _ => ?_)|refine jY (fun _ => ?_) (by omega)|refine yan rfl rfl ?_|refine jX ?_
  exact ⟨rfl, _, rfl, jO _, boolV (by rw [if_neg w0, if_neg w1, if_neg w2, if_neg w3]; simp)⟩
end Go.Proofs.YtekmafoicobphaaGreatDoor

/- Codes: the program's words: parameters, lists of fields. -/

namespace Go.Proofs.YtekmafoicobphaaGreatDoor
open Go.Sb
set_option maxRecDepth 100000
def ciI (l : List Int) (c : Cod) (f : Fnc) (w : Int) (k : Nat) (s : List V) (h : Heap) : Prop :=
 ∃ (i : Nat) (z : Int), (i + k = l.length ∧ z = i ∧ ∀ n ∈ l.take i, yaz f.s (lenO f.cd) n w) ∧ s.length = 20 ∧ s.getD 0 und = und ∧ s.getD 1 und = .lst 1 (l.map intV) ∧ s.getD 2 und = .fn (.func 119) [.rop (ckC c f), .rop [.int .i64 w]] ∧ s.getD 8 und = .int .i64 (l.map intV).length ∧ s.getD 9 und = .int .i64 z
theorem ciI_lit {l : List Int} {c : Cod} {f : Fnc} {w : Int} {k : Nat} {s : List V} {h : Heap} (hI : ciI l c f w k s h) : ∃ (i : Nat) (z : Int) (x : Nat → V), (i + k = l.length ∧ z = i ∧ ∀ n ∈ l.take i, yaz f.s (lenO f.cd) n w) ∧
  s = [und, .lst 1 (l.map intV), .fn (.func 119) [.rop (ckC c f), .rop [.int .i64 w]], x 3, x 4, x 5, x 6, x 7, .int .i64 (l.map intV).length, .int .i64 z, x 10, x 11, x 12, x 13, x 14, x 15, x 16, x 17, x 18, x 19] := by
 obtain ⟨i, z, hF, hl, e0, e1, e2, e8, e9⟩ := hI
 refine ⟨i, z, fun n => s.getD n und, hF, (ybb hl).trans ?_⟩
 simp only [List.range, List.range.loop, List.map_cons, List.map_nil]
 rw [e0, e1, e2, e8, e9]
def yfb (c : Cod) (fn n : Int) : Prop := 0 ≤ fn ∧ ∃ g, (c.getD [])[fn.toNat]? = some g ∧ g.p = n
noncomputable instance (c : Cod) (fn n : Int) : Decidable (yfb c fn n) := Classical.propDecidable _
set_option maxHeartbeats 2000000 in
theorem yqx (h : Heap) (c : Cod) (f : Fnc) (fn n : Int) (hc : lenO c ≤ 1000) : Has envQ .own 120 [ckV c f, .int .i64 fn, .int .i64 n] h (.val (.bool (decide (yfb c fn n))) h) := by
 have e1 : IntKind.i64.wrap ((lenO c : Int) - 1) = (lenO c : Int) - 1 := wrapS (by omega) (by omega)
 suffices hx : ∃ v, Has envQ .own 120 [ckV c f, .int .i64 fn, .int .i64 n] h (.val v h) ∧ v = .bool (decide (yfb c fn n)) by
  obtain ⟨v, h1, rfl⟩ := hx; exact h1
 refine HasP.ownE (a := [ckV c f, .int .i64 fn, .int .i64 n]) (d := fn120) (yaj (fz_ag (ych _ _)) (yaj rfl (yaj rfl yax))) rfl rfl (jT rfl) ?_
 have hw := ydi [.cells 97 (ckC c f)] fn 0 (IntKind.i64.wrap ((lenO c : Int) - 1))
 by_cases hin : 0 ≤ fn ∧ fn ≤ (lenO c : Int) - 1
 ·rw [decide_eq_true (show 0 ≤ fn ∧ fn ≤ IntKind.i64.wrap ((lenO c : Int) - 1) from by rw [e1]; exact hin)] at hw
  refine jJ ?_
  refine CallK.of hw ?_
  clear hw e1
  obtain ⟨l, rfl⟩ : ∃ l, c = some l := by
   cases c with
   | none => simp [lenO] at hin; omega
   | some l => exact ⟨l, rfl⟩
  have hlt : fn.toNat < l.length := by simp [lenO] at hin; omega
  obtain ⟨g, hg⟩ : ∃ g, l[fn.toNat]? = some g := ⟨_, List.getElem?_eq_getElem hlt⟩
  refine jI hin.1 (jI rfl (Exists.intro (fncV g) (jI (by rw [List.getElem?_map, hg]; rfl) ?_)))
  refine jJ ?_
  refine jI (fun q => ?_) (fun q => ?_)
  ·repeat first|apply jZ|apply jA|apply jB|apply jH|refine jN (by omega) (fun _ => ?_)|refine jY (fun _ => ?_) (by omega)|refine yan rfl rfl ?_|refine jX ?_
   exact ⟨rfl, _, rfl, jO _, boolV (by simp; exact ⟨hin.1, g, hg, q⟩)⟩
  ·repeat first|apply jZ|apply jA|apply jB|apply jH|refine jN (by omega) (fun _ => ?_)|refine jY (fun _ => ?_) (by omega)|refine yan rfl rfl ?_|refine jX ?_
   exact ⟨rfl, _, rfl, jO _, boolV (by
    constructor
    ·intro w; cases w
    ·rintro ⟨_, g', hg', q'⟩
     have : g' = g := by simpa [hg] using hg'.symm
     exact absurd (by rw [← this]; exact q') q)⟩
 ·rw [decide_eq_false (show ¬ (0 ≤ fn ∧ fn ≤ IntKind.i64.wrap ((lenO c : Int) - 1)) from by rw [e1]; exact hin)] at hw
  refine jJ ?_
  refine CallK.of hw ?_
  refine jJ ?_
  exact ⟨rfl, _, rfl, jO _, boolV (by
   constructor
   ·intro w; cases w
   ·rintro ⟨h0, g', hg', _⟩
    have := (List.getElem?_eq_some_iff.1 hg').1
    exact absurd ⟨h0, by unfold lenO; omega⟩ hin)⟩
theorem ywe (h : Heap) (c : Cod) (f : Fnc) (n w : Int) (hS : 0 ≤ f.s ∧ f.s ≤ 200) (hl : lenO f.cd ≤ 4000) : Has envQ .own 119 [.int .i64 n, .rop (ckC c f), .rop [.int .i64 w]] h (.val (.bool (!decide (yaz f.s (lenO f.cd) n w))) h) := by
 suffices hx : ∃ v, Has envQ .own 119 [.int .i64 n, .rop (ckC c f), .rop [.int .i64 w]] h (.val v h) ∧ v = .bool (!decide (yaz f.s (lenO f.cd) n w)) by
  obtain ⟨v, h1, rfl⟩ := hx; exact h1
 refine HasP.ownE (a := [.int .i64 n, .rop (ckC c f), .rop [.int .i64 w]]) (d := fn119) (yaj rfl (yaj rfl (yaj rfl yax))) rfl rfl (jT rfl) ?_
 refine jJ ?_
 refine CallK.of (yfm _ c f n w hS hl) ?_
 refine jJ ?_
 exact ⟨rfl, _, rfl, jO _, rfl⟩
set_option maxHeartbeats 2000000 in
theorem ywf (h : Heap) (c : Cod) (f : Fnc) (w : Int) (l : List Int) (hS : 0 ≤ f.s ∧ f.s ≤ 200) (hl : lenO f.cd ≤ 4000) (hll : l.length ≤ 2 ^ 50) : ∃ r : Int, Has envQ .own 136 [.lst 1 (l.map intV), .fn (.func 119) [.rop (ckC c f), .rop [.int .i64 w]]] h (.val (.int .i64 r) h) ∧ (0 ≤ r ↔ ¬ ∀ n ∈ l, yaz f.s (lenO f.cd) n w) := by
 suffices hx : ∃ v, Has envQ .own 136 [.lst 1 (l.map intV), .fn (.func 119) [.rop (ckC c f), .rop [.int .i64 w]]] h (.val v h) ∧ ∃ r : Int, v = .int .i64 r ∧ (0 ≤ r ↔ ¬ ∀ n ∈ l, yaz f.s (lenO f.cd) n w) by
  obtain ⟨v, h1, r, rfl, h2⟩ := hx; exact ⟨r, h1, h2⟩
 refine HasP.ownE (a := [.lst 1 (l.map intV), .fn (.func 119) [.rop (ckC c f), .rop [.int .i64 w]]]) (d := fn136) (yaj rfl (yaj (fz_fn (yaj rfl (yaj rfl yax))) yax)) rfl rfl (jT rfl) ?_
 have hlm : ((l.map intV).length : Int) = (l.length : Int) := by simp
 refine jV ?_
 refine RunP.loop (ciI l c f w) ?_ l.length ⟨0, _, ⟨by omega, rfl, by simp⟩, rfl, rfl, rfl, rfl, rfl, rfl⟩
 intro k st g hI
 obtain ⟨i, z, x, ⟨hik, hz, hall⟩, rfl⟩ := ciI_lit hI
 clear hI
 subst hz
 refine jV ?_
 refine jI (fun hlt => ?_) (fun hge => ?_)
 ·have hi : i < l.length := by omega
  obtain ⟨n, hn⟩ : ∃ n, l[i]? = some n := ⟨_, List.getElem?_eq_getElem hi⟩
  refine jV ?_
  refine jI (by omega) (jI rfl (Exists.intro (intV n) (jI (by rw [List.getElem?_map]; simp [hn]) ?_)))
  have hq := ywe g c f n w hS hl
  by_cases hf : yaz f.s (lenO f.cd) n w
  ·rw [decide_eq_true hf] at hq
   refine CallK.of hq ?_
   refine jV ?_
   exact ⟨k - 1, by omega, i + 1, _, ⟨by omega, wrap1 (by omega), by
    intro m hm
    rw [List.take_add_one, hn] at hm
    rcases List.mem_append.1 hm with q | q
    ·exact hall m q
    ·simp at q; subst q; exact hf⟩, rfl, rfl, rfl, rfl, rfl, rfl⟩
  ·rw [decide_eq_false hf] at hq
   refine CallK.of hq ?_
   refine jV ?_
   exact ⟨rfl, _, rfl, jO _, _, rfl, ⟨fun _ q => hf (q n (List.mem_of_getElem? hn)), fun _ => by omega⟩⟩
 ·have hi : i = l.length := by omega
  rw [hi, List.take_length] at hall
  refine jV ?_
  exact ⟨rfl, _, rfl, jO _, _, rfl, ⟨fun q => absurd q (by decide), fun q => absurd hall q⟩⟩
set_option maxHeartbeats 2000000 in
theorem ywg (h : Heap) (c : Cod) (f : Fnc) (w : Int) (l : Option (List Int)) (hS : 0 ≤ f.s ∧ f.s ≤ 200) (hl : lenO f.cd ≤ 4000) (hll : lenO l ≤ 2 ^ 50) : Has envQ .own 118 [optL 1 intV l, .fn (.func 119) [.rop (ckC c f), .rop [.int .i64 w]]] h (.val (.bool (decide (¬ ∀ n ∈ l.getD [], yaz f.s (lenO f.cd) n w))) h) := by
 suffices hx : ∃ v, Has envQ .own 118 [optL 1 intV l, .fn (.func 119) [.rop (ckC c f), .rop [.int .i64 w]]] h (.val v h) ∧ v = .bool (decide (¬ ∀ n ∈ l.getD [], yaz f.s (lenO f.cd) n w)) by
  obtain ⟨v, h1, rfl⟩ := hx; exact h1
 refine HasP.ownE (a := [optL 1 intV l, .fn (.func 119) [.rop (ckC c f), .rop [.int .i64 w]]]) (d := fn118) (yaj (fz_lf (ycc _ _ _)) (yaj (fz_fn (yaj rfl (yaj rfl yax))) yax)) rfl rfl (jT rfl) ?_
 cases l with
 | none =>
  have hn : Has envQ .own 136 [.nils, .fn (.func 119) [.rop (ckC c f), .rop [.int .i64 w]]] [] (.val (.int .i64 (-1)) []) := by
   refine HasP.own (a := [.nils, .fn (.func 119) [.rop (ckC c f), .rop [.int .i64 w]]]) (d := fn136) (yaj rfl (yaj (fz_fn (yaj rfl (yaj rfl yax))) yax)) rfl rfl (jT rfl) ?_
   refine jV ?_
   refine RunP.loop (fun _ s h => ∃ x : Nat → V, h = [] ∧ s = [und, .nils, .fn (.func 119) [.rop (ckC c f), .rop [.int .i64 w]], x 3, x 4, .int .i64 0, x 6, .nils, .int .i64 0, .int .i64 0, x 10, x 11, x 12, x 13, x 14, x 15, x 16, x 17, x 18, x 19]) ?_ 0 ⟨fun n => und, rfl, rfl⟩
   rintro k st g ⟨x, rfl, rfl⟩
   refine jV ?_
   refine jI (fun q => absurd q (by decide)) (fun _ => ?_)
   refine jV ?_
   exact ⟨rfl, rfl, jO _⟩
  refine jV ?_
  refine CallK.of hn ?_
  refine jI (fun q => absurd q (by decide)) (fun _ => ?_)
  refine jV ?_
  exact ⟨rfl, _, rfl, jO _, boolV (by simp)⟩
 | some l =>
  obtain ⟨r, hr, hiff⟩ := ywf [] c f w l hS hl hll
  refine jV ?_
  refine CallK.of hr ?_
  refine jI (fun q => ?_) (fun q => ?_)
  ·repeat first|apply jZ|apply jA|apply jB|apply jH
   exact ⟨rfl, _, rfl, jO _, boolV (by simp only [true_iff]; exact hiff.1 q)⟩
  ·repeat first|apply jZ|apply jA|apply jB|apply jH
   exact ⟨rfl, _, rfl, jO _, boolV (by constructor; (intro w; cases w); (intro w; exact absurd (hiff.2 w) (by omega)))⟩
end Go.Proofs.YtekmafoicobphaaGreatDoor
