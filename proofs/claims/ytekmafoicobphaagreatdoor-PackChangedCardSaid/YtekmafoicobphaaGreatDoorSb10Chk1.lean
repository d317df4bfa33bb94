/- Codes ars plain data. -/
import Derived.Test.YtekmafoicobphaaGreatDoorSbVal
import Derived.Test.YtekmafoicobphaaGreatDoorSbDraw2
import Derived.Test.YtekmafoicobphaaGreatDoorSbIter
set_option linter.unusedVariables false
set_option linter.unusedSimpArgs false
namespace Go.Proofs.YtekmafoicobphaaGreatDoor
open Go.Sb
set_option maxRecDepth 100000
def optL {α : Type} (e : Nat) (f : α → V) : Option (List α) → V
 | none => .nils
 | some l => .lst e (l.map f)
def lenO {α : Type} (l : Option (List α)) : Nat := (l.getD []).length
structure Ins where
 op : Int
 a : Int
 b : Int
 c : Int
 k : Int
 n : Int
 s : List UInt8
 l : Option (List Int)
structure Grd where
 f : Int
 t : Int
 p : Int
 s : Int
structure Fnc where
 nm : List UInt8
 p : Int
 s : Int
 cd : Option (List Ins)
 gd : Option (List Grd)
abbrev Cod := Option (List Fnc)
def intV (z : Int) : V := .int .i64 z
def iC (op a b cc kd n : Int) (tx : List UInt8) (l : Option (List Int)) : List V := [.int .i64 op, .int .i64 a, .int .i64 b, .int .i64 cc, .int .i64 kd, .int .i64 n, .str tx, optL 1 intV l]
def Ins.cells (x : Ins) : List V := iC x.op x.a x.b x.c x.k x.n x.s x.l
def insV (x : Ins) : V := .agg x.cells
def Grd.cells (x : Grd) : List V := [.int .i64 x.f, .int .i64 x.t, .int .i64 x.p, .int .i64 x.s]
def grdV (x : Grd) : V := .agg x.cells
def Fnc.cells (x : Fnc) : List V := [.str x.nm, .int .i64 x.p, .int .i64 x.s, optL 8 insV x.cd, optL 4 grdV x.gd]
def fncV (x : Fnc) : V := .agg x.cells
def ckC (c : Option (List Fnc)) (f : Fnc) : List V := [optL 5 fncV c, .str f.nm, .int .i64 f.p, .int .i64 f.s, optL 8 insV f.cd, optL 4 grdV f.gd]
def ckV (c : Option (List Fnc)) (f : Fnc) : V := .agg (ckC c f)
theorem yck {α : Type} (e : Nat) (f : α → V) (l : Option (List α)) : (optL e f l).leaf = true := by cases l <;> rfl
theorem ygb (op a b cc kd n : Int) (tx : List UInt8) (l : Option (List Int)) : (iC op a b cc kd n tx l).all V.leaf = true := by simp only [iC, List.all_cons, List.all_nil, yck]; rfl
theorem yrc (x : Ins) : x.cells.all V.leaf = true := ygb ..
theorem yng (x : Grd) : x.cells.all V.leaf = true := by simp only [Grd.cells, List.all_cons, List.all_nil, yck]; rfl
theorem ygc (x : Fnc) : x.cells.all V.leaf = true := by simp only [Fnc.cells, List.all_cons, List.all_nil, yck]; rfl
theorem ydt (c : Option (List Fnc)) (f : Fnc) : (ckC c f).all V.leaf = true := by simp only [ckC, List.all_cons, List.all_nil, yck]; rfl
theorem ywx {v : V} (h : v.leaf = true) : v.isCell = true := by cases v <;> simp [V.leaf] at h <;> rfl
theorem yeu {cs : List V} (h : cs.all V.leaf = true) : cs.all V.isCell = true := List.all_eq_true.2 fun c hc => ywx (List.all_eq_true.1 h c hc)
theorem fz_agg {E : Env} {h : Heap} {n : Nat} {cs : List V} (hc : cs.all V.leaf = true) : Sb.fz E h (n + 2) (.agg cs) = some (.agg cs) := by
 show (cs.mapM (Sb.fz E h (n + 1))).map V.agg = _
 rw [ygy fun c hx => List.all_eq_true.1 hc c hx]; rfl
theorem yaf {E : Env} {h : Heap} {n : Nat} {v w : V} {vs ws : List V} (h1 : Sb.fz E h n v = some w) (h2 : vs.mapM (Sb.fz E h n) = some ws) : (v :: vs).mapM (Sb.fz E h n) = some (w :: ws) := by
 rw [List.mapM_cons, h1, h2]; rfl
theorem yan {E : Env} {h : Heap} {n : Nat} : ([] : List V).mapM (Sb.fz E h n) = some [] := rfl
theorem fz_lf {E : Env} {h : Heap} {v : V} (hv : v.leaf = true) : Sb.fz E h ycb v = some v := yco (n := 11) hv
theorem fz_ag {E : Env} {h : Heap} {cs : List V} (hc : cs.all V.leaf = true) : Sb.fz E h ycb (.agg cs) = some (.agg cs) := fz_agg (n := 10) hc
theorem len_opt {α : Type} {E : Env} {t el : TypeId} {d : TyD} {e : Nat} {f : α → V} {l : Option (List α)} {h : Heap} (ht : E.ty t = some d) (hu : d.u = .slice el) : evLen E t (optL e f l) h = some (.int .i64 (lenO l)) := by
 unfold evLen
 rw [ht]
 simp only [Option.bind_some, hu]
 cases l with
 | none => rfl
 | some l => simp [optL, lenO]
theorem ybh {α : Type} {E : Env} {t el : TypeId} {ts : List TypeId} {d : TyD} {e : Nat} {f : α → V} {l : Option (List α)} {h : Heap} {K : V → Heap → Prop} (ht : E.ty t = some d) (hu : d.u = .slice el) (hk : K (.int .i64 (lenO l)) h) :
  bindR (yeh E .len (t :: ts) [optL e f l] h) K := by
 refine ycn (v := .int .i64 (lenO l)) (h := h) ?_ hk
 show (evLen E t (optL e f l) h).map (fun v => OpR.val v h) = _
 rw [len_opt ht hu]; rfl
theorem ydu {t : TypeId} {cs : List V} {h : Heap} {K : V → Heap → Prop} (hc : cs.all V.leaf = true) (hk : K (.ptr h.length 0 cs.length) (push h (.cells t cs))) : bindP (evBox t (.agg cs) h) K := by
 refine yep (v := .ptr h.length 0 cs.length) (h := push h (.cells t cs)) ?_ hk
 show (if cs.all V.isCell = true then _ else _) = _
 rw [if_pos (yeu hc)]; rfl
theorem Has.thaw {E : Env} {f : FuncId} {args a : List V} {h h0 : Heap} {v : V} (h1 : args.mapM (Sb.fz E h ycb) = some a) (h2 : a.mapM (Sb.fz E h0 ycb) = some a) (hf : v.flat = true) (hH : Has E .own f a h0 (.val v h0)) : Has E .own f args h (.val v h) := by
 obtain ⟨N, hN⟩ := hH
 refine ⟨N + 1, fun n hn => ?_⟩
 obtain ⟨n, rfl⟩ : ∃ n', n = n' + 1 := ⟨n - 1, by omega⟩
 have hx := hN (n + 1) (by omega)
 simp only [callN, h2, Option.bind_some] at hx
 simp only [callN, h1, Option.bind_some]
 cases hl : E.lib f with
 | some p =>
  rw [hl] at hx
  simp only at hx ⊢
  obtain ⟨u, hu, hx⟩ := Option.bind_eq_some_iff.1 hx
  rw [hu, Option.bind_some]
  split at hx
  ·cases hx; rw [if_pos (by rw [hf, jO])]
  ·cases hx
 | none =>
  rw [hl] at hx
  simp only at hx ⊢
  obtain ⟨r, hr, hx⟩ := Option.bind_eq_some_iff.1 hx
  rw [hr, Option.bind_some]
  cases r with
  | val u g =>
   simp only [yea] at hx ⊢
   obtain ⟨w, hw, hx⟩ := Option.bind_eq_some_iff.1 hx
   rw [hw, Option.bind_some]
   split at hx
   ·cases hx; rw [if_pos (by rw [hf, jO])]
   ·cases hx
  | pan u g =>
   simp only [yea] at hx
   obtain ⟨w, hw, hx⟩ := Option.bind_eq_some_iff.1 hx
   split at hx
   ·cases hx
   ·cases hx
theorem fz_ptr {E : Env} {h : Heap} {n b o sz : Nat} {T : TypeId} {cs : List V} (hb : h[b]? = some (.cells T cs)) (hl : cs.length = sz) (hc : cs.all V.leaf = true) : Sb.fz E h (n + 2) (.ptr b o sz) = some (.rop (cs.drop o)) := by
 show (yaz h b sz).bind (fun x => ((x.2.drop o).mapM (Sb.fz E h (n + 1))).map V.rop) = _
 have : yaz h b sz = some (T, cs) := by unfold yaz; rw [hb]; simp only; rw [if_pos hl]
 rw [this, Option.bind_some]
 simp only
 rw [ygy fun c hx => List.all_eq_true.1 hc c (List.mem_of_mem_drop hx)]; rfl
theorem fz_fn {E : Env} {h : Heap} {n : Nat} {g : Fn} {cs ds : List V} (hc : cs.mapM (Sb.fz E h n) = some ds) : Sb.fz E h (n + 1) (.fn g cs) = some (.fn g ds) := by
 show (cs.mapM (Sb.fz E h n)).map (V.fn g) = _
 rw [hc]; rfl
theorem ydv {E : Env} {h : Heap} {g : Fn} {cs ds : List V} (hc : cs.mapM (Sb.fz E h 11) = some ds) : Sb.fz E h ycb (.fn g cs) = some (.fn g ds) := fz_fn (n := 11) hc
theorem ykj {E : Env} {h : Heap} {b o sz : Nat} {T : TypeId} {cs : List V} (hb : h[b]? = some (.cells T cs)) (hl : cs.length = sz) (hc : cs.all V.leaf = true) : Sb.fz E h 11 (.ptr b o sz) = some (.rop (cs.drop o)) := fz_ptr (n := 9) hb hl hc
theorem RunP.midS {E : Env} {md : FuncId → Sb.Mode} {a : Code} {s : List V} {h : Heap} {B : List V → Heap → Prop} {Q : Ex → List V → Heap → Prop} (M : List V → Heap → Prop) (h1 : RunP E md a s h fun e s' h' => e = .normal ∧ M s' h') (h2 : ∀ s' h', M s' h' → B s' h') : RunP E md a s h (seqK B Q) :=
 h1.mono (by rintro e s' h' ⟨rfl, hm⟩; exact h2 _ _ hm)
theorem boolV {P : Prop} [Decidable P] {b : Bool} (h : b = true ↔ P) : V.bool b = .bool (decide P) := vT h
class LeafL (cs : List V) : Prop where
 l : cs.all V.leaf = true
instance (c : Option (List Fnc)) (f : Fnc) : LeafL (ckC c f) := ⟨ydt c f⟩
instance (op a b cc kd n : Int) (tx : List UInt8) (l : Option (List Int)) : LeafL (iC op a b cc kd n tx l) := ⟨ygb op a b cc kd n tx l⟩
instance (x : Ins) : LeafL x.cells := ⟨yrc x⟩
instance (x : Grd) : LeafL x.cells := ⟨yng x⟩
instance (x : Fnc) : LeafL x.cells := ⟨ygc x⟩
theorem jX {t : Go.TypeId} {cs : List V} [i : LeafL cs] {h : Heap} {K : V → Heap → Prop} (hk : K (.ptr h.length 0 cs.length) (push h (.cells t cs))) : bindP (evBox t (.agg cs) h) K := ydu i.l hk
theorem jK {p q : Prop} (h : q) (k : q → p := by intro h; (repeat first|apply jZ|apply jA|apply jB|apply jH|refine ybh rfl rfl ?_|refine jX ?_); exact h) : p := k h
structure Hid (q : Prop) : Prop where
 l : q
theorem jJ {p q : Prop} (h : q) (k : Hid q → p := by intro h; (repeat first|apply jZ|apply jA|apply jB|apply jH|refine jN (by omega) (fun _ => ?_)|refine jY (fun _ => ?_) (by omega)|refine ybh rfl rfl ?_|refine jX ?_); exact h.l) : p := k ⟨h⟩
end Go.Proofs.YtekmafoicobphaaGreatDoor

/- Codes: the program's words: within, a field, parameters. -/

namespace Go.Proofs.YtekmafoicobphaaGreatDoor
open Go.Sb
set_option maxRecDepth 100000
theorem ydd (h : Heap) (n lo hi : Int) : Has envQ .own 62 [.int .i64 n, .int .i64 lo, .int .i64 hi] h (.val (.bool (decide (lo ≤ n ∧ n ≤ hi))) h) := by
 suffices hx : ∃ v, Has envQ .own 62 [.int .i64 n, .int .i64 lo, .int .i64 hi] h (.val v h) ∧ v = .bool (decide (lo ≤ n ∧ n ≤ hi)) by
  obtain ⟨v, h1, rfl⟩ := hx; exact h1
 refine HasP.ownE (a := [.int .i64 n, .int .i64 lo, .int .i64 hi]) (d := fn62) (rfl) rfl rfl (jT rfl) ?_
 by_cases h1 : lo ≤ n
 ·by_cases h2 : n ≤ hi
  ·repeat first|apply jZ|apply jA|apply jB|apply jH|refine jN (by omega) (fun _ => ?_)|refine jY (fun _ => ?_) (by omega)|refine ybh rfl rfl ?_|refine jX ?_
   exact ⟨rfl, _, rfl, jO _, boolV (by simp; omega)⟩
  ·repeat first|apply jZ|apply jA|apply jB|apply jH|refine jN (by omega) (fun _ => ?_)|refine jY (fun _ => ?_) (by omega)|refine ybh rfl rfl ?_|refine jX ?_
   exact ⟨rfl, _, rfl, jO _, boolV (by simp; omega)⟩
 ·repeat first|apply jZ|apply jA|apply jB|apply jH|refine jN (by omega) (fun _ => ?_)|refine jY (fun _ => ?_) (by omega)|refine ybh rfl rfl ?_|refine jX ?_
  exact ⟨rfl, _, rfl, jO _, boolV (by simp; omega)⟩
def ybi (S len n what : Int) : Prop := if what = 0 then n = 0 else if what = 1 then 0 ≤ n ∧ n ≤ S - 1 else if what = 2 then -1 ≤ n ∧ n ≤ S - 1 else if what = 3 then 0 ≤ n ∧ n ≤ len - 1 else True
instance (S len n what : Int) : Decidable (ybi S len n what) := by unfold ybi; infer_instance
set_option maxHeartbeats 2000000 in
theorem yev (h : Heap) (c : Option (List Fnc)) (f : Fnc) (n what : Int) (hS : 0 ≤ f.s ∧ f.s ≤ 200) (hl : lenO f.cd ≤ 4000) : Has envQ .own 117 [ckV c f, .int .i64 n, .int .i64 what] h (.val (.bool (decide (ybi f.s (lenO f.cd) n what))) h) := by
 have e1 : IntKind.i64.wrap (f.s - 1) = f.s - 1 := wrapS (by omega) (by omega)
 have e2 : IntKind.i64.wrap ((lenO f.cd : Int) - 1) = (lenO f.cd : Int) - 1 := wrapS (by omega) (by omega)
 suffices hx : ∃ v, Has envQ .own 117 [ckV c f, .int .i64 n, .int .i64 what] h (.val v h) ∧ v = .bool (decide (ybi f.s (lenO f.cd) n what)) by
  obtain ⟨v, h1, rfl⟩ := hx; exact h1
 refine HasP.ownE (a := [ckV c f, .int .i64 n, .int .i64 what]) (d := fn117) (yaf (fz_ag (ydt _ _)) (yaf rfl (yaf rfl yan))) rfl rfl (jT rfl) ?_
 unfold ybi
 by_cases w0 : what = 0
 ·repeat first|apply jZ|apply jA|apply jB|apply jH|refine jN (by omega) (fun _ => ?_)|refine jY (fun _ => ?_) (by omega)|refine ybh rfl rfl ?_|refine jX ?_
  refine jI (fun q => ?_) (fun q => ?_)
  ·repeat first|apply jZ|apply jA|apply jB|apply jH|refine jN (by omega) (fun _ => ?_)|refine jY (fun _ => ?_) (by omega)|refine ybh rfl rfl ?_|refine jX ?_
   exact ⟨rfl, _, rfl, jO _, boolV (by rw [if_pos w0]; simp; omega)⟩
  ·repeat first|apply jZ|apply jA|apply jB|apply jH|refine jN (by omega) (fun _ => ?_)|refine jY (fun _ => ?_) (by omega)|refine ybh rfl rfl ?_|refine jX ?_
   exact ⟨rfl, _, rfl, jO _, boolV (by rw [if_pos w0]; simp; omega)⟩
 by_cases w1 : what = 1
 ·repeat first|apply jZ|apply jA|apply jB|apply jH|refine jN (by omega) (fun _ => ?_)|refine jY (fun _ => ?_) (by omega)|refine ybh rfl rfl ?_|refine jX ?_
  refine CallK.of (ydd _ _ _ _) ?_
  refine jJ ?_
  exact ⟨rfl, _, rfl, jO _, boolV (by rw [if_neg w0, if_pos w1, e1]; simp)⟩
 by_cases w2 : what = 2
 ·repeat first|apply jZ|apply jA|apply jB|apply jH|refine jN (by omega) (fun _ => ?_)|refine jY (fun _ => ?_) (by omega)|refine ybh rfl rfl ?_|refine jX ?_
  refine CallK.of (ydd _ _ _ _) ?_
  refine jJ ?_
  exact ⟨rfl, _, rfl, jO _, boolV (by rw [if_neg w0, if_neg w1, if_pos w2, e1]; simp)⟩
 by_cases w3 : what = 3
 ·repeat first|apply jZ|apply jA|apply jB|apply jH|refine jN (by omega) (fun _ => ?_)|refine jY (fun _ => ?_) (by omega)|refine ybh rfl rfl ?_|refine jX ?_
  refine CallK.of (ydd _ _ _ _) ?_
  refine jJ ?_
  exact ⟨rfl, _, rfl, jO _, boolV (by rw [if_neg w0, if_neg w1, if_neg w2, if_pos w3, e2]; simp)⟩
 ·repeat first|apply jZ|apply jA|apply jB|apply jH|refine jN (by omega) (fun _ => ?_)|refine jY (fun _ => ?_) (by omega)|refine ybh rfl rfl ?_|refine jX ?_
  exact ⟨rfl, _, rfl, jO _, boolV (by rw [if_neg w0, if_neg w1, if_neg w2, if_neg w3]; simp)⟩
end Go.Proofs.YtekmafoicobphaaGreatDoor
