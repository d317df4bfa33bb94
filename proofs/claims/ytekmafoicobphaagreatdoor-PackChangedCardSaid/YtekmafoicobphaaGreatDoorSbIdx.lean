/- '==' at structs of numbers, strings and such structs. -/
import Derived.Test.YtekmafoicobphaaGreatDoorSbLib
import Derived.Laws.StructEq
import Derived.ChangeArms
import Derived.ChangeOld
import Derived.Laws.Externs
import Derived.KernelRfl
set_option linter.unusedVariables false
set_option linter.unusedSimpArgs false
namespace Go.Sb
def eqFs (f : TypeId × Nat → Option Bool) : List (TypeId × Nat) → Option Bool
 | [] => some true
 | g :: gs => (f g).bind fun r => if r = true then eqFs f gs else some false
def eqT (E : Env) (S : List TypeId) : Nat → TypeId → V → V → Option Bool
 | 0, _, _, _ => none
 | n + 1, t, a, b => (E.ty t).bind fun d =>
  match d.u, a, b with
  | .int _, .int k x, .int l y => if k = l then some (x == y) else none
  | .bool, .bool x, .bool y => some (x == y)
  | .str, .str x, .str y => some (x == y)
  | .struct fs, .agg xs, .agg ys => if S.contains t = true then eqFs (fun g => (partV E g.1 xs g.2).bind fun u => (partV E g.1 ys g.2).bind fun v => eqT E S n g.1 u v) fs else none
  | _, _, _ => none
def yfs (P : Program) (t : TypeId) : Bool := match P.underlying t with
 | some (.struct fs) => !P.stoodInHeld t && fs.toList.all (fun f => f.name != "_") && !P.eqGuardType P.depth t
 | _ => false
section
variable {P : Program} {E : Env}
theorem ypw (hE : EnvOk P E) {S : List TypeId} (hS : S.all (yfs P) = true) : ∀ (n : Nat) (t : TypeId) (a b : V) (r : Bool), eqT E S n t a b = some r → ∀ (c : Cx) (x y : Value), RV c a x → RV c b y → ∀ d, n ≤ d → (Op.equalIn d t x y).run P c.w = .ok r c.w
 | 0, _, _, _, _, h, _, _, _, _, _, _, _ => by simp [eqT] at h
 | n + 1, t, a, b, r, h, c, x, y, hx, hy, d, hd => by
  obtain ⟨d, rfl⟩ : ∃ d', d = d' + 1 := ⟨d - 1, by omega⟩
  replace h := Option.bind_eq_some_iff.1 h; obtain ⟨dt, hdt, h⟩ := h
  obtain ⟨ut, h1, h2⟩ := (hE.ty t dt hdt).und
  split at h
  ·rename_i e
   rw [e] at h2; have := yfa h2; subst this
   split at h
   ·rename_i hk; subst hk; cases h
    rw [hx.int_inv, hy.int_inv]; exact run_equalIn_int c.w d t _ _ _ _ h1
   ·cases h
  ·rename_i e
   rw [e] at h2; have := yhp h2; subst this
   cases h
   rw [hx.bool_inv, hy.bool_inv]; exact ylw h1 d _ _ _
  ·rename_i e
   rw [e] at h2; have := yec h2; subst this
   cases h
   rw [hx.str_inv, hy.str_inv, run_equalIn_string c.w d t _ _ h1, bs_eq]
  ·rename_i fs xs ys e
   split at h
   ·rename_i hmem
    have hps : yfs P t = true := List.all_eq_true.1 hS t (by simpa using hmem)
    rw [e] at h2
    obtain ⟨gs, g1, g2⟩ := yji h2
    subst g1
    have hfo : P.fieldsOf t = gs := by simp [Program.fieldsOf, h1]
    unfold yfs at hps
    rw [h1] at hps
    simp only [Bool.and_eq_true, Bool.not_eq_true'] at hps
    obtain ⟨⟨p1, p2⟩, p3⟩ := hps
    obtain ⟨X, rfl, hX⟩ := hx.agg_inv
    obtain ⟨Y, rfl, hY⟩ := hy.agg_inv
    rw [run_equalIn_struct c.w d t X Y (by rw [hfo]; exact h1) p1, hfo]
    have ih := ypw hE hS n
    have key : ∀ (gl : List Field) (r : Bool), (∀ f ∈ gl, (f.name != "_") = true) → eqFs (fun g => (partV E g.1 xs g.2).bind fun u => (partV E g.1 ys g.2).bind fun v => eqT E S n g.1 u v) (gl.map fun f => (f.type, f.offset)) = some r →
      (Op.eqFields d X Y gl).run P c.w = .ok r c.w := by
     intro gl
     induction gl with
     | nil => intro r _ h; simp [eqFs] at h; subst h; simp [Op.eqFields]
     | cons f gl ihg =>
      intro r hn h
      simp only [List.map_cons, eqFs] at h
      obtain ⟨q, hq, h⟩ := Option.bind_eq_some_iff.1 h
      obtain ⟨u, hu, hq⟩ := Option.bind_eq_some_iff.1 hq
      obtain ⟨v, hv, hq⟩ := Option.bind_eq_some_iff.1 hq
      obtain ⟨xu, k1, k2⟩ := yjn hE hX hu
      obtain ⟨yv, l1, l2⟩ := yjn hE hY hv
      have hm := ih f.type u v q hq c xu yv k2 l2 d (by omega)
      have hne : f.name ≠ "_" := by simpa using hn f (by simp)
      simp only [Op.eqFields]
      rw [if_pos hne]
      simp only [Sem.run_bind, k1, l1, hm, Result.andThen_ok]
      cases q
      ·simp at h; subst h; simp
      ·simp only [if_true] at h
       simp only [Bool.not_true, Bool.false_eq_true, if_false]
       exact ihg r (fun f hf => hn f (by simp [hf])) h
    have hlist : fs = gs.toList.map fun f => (f.type, f.offset) := g2.symm
    rw [hlist] at h
    exact key gs.toList r (fun f hf => List.all_eq_true.1 p2 f hf) h
   ·cases h
  ·cases h
def eqLine (E : Env) (S : List TypeId) (t : TypeId) : Option (List V → List V → Option Bool) := if S.contains t = true then some fun a b => eqT E S 20 t (.agg a) (.agg b) else none
theorem eqs_ok (hE : EnvOk P E) {S : List TypeId} (hS : S.all (yfs P) = true) : EnvOk P { E with eqs := eqLine E S } := by
 refine ⟨hE.ty, hE.fn, hE.ext, hE.lib, fun t f hf => ?_, hE.mixed, hE.gd⟩
 simp only [eqLine] at hf
 split at hf
 ·rename_i hm
  cases hf
  have hps : yfs P t = true := List.all_eq_true.1 hS t (by simpa using hm)
  unfold yfs at hps
  split at hps
  ·simp only [Bool.and_eq_true, Bool.not_eq_true'] at hps
   exact ⟨hps.2, fun c a b xs ys r ha hb h => ypw hE hS 20 t (.agg a) (.agg b) r h c _ _ (RV.agg_mk ha) (RV.agg_mk hb) 10000 (by omega)⟩
  ·cases hps
 ·cases hf
end
end Go.Sb

/- A row's arguments, read ars data, ars plain values. -/

namespace Go.Sb
def yhu (E : Env) (S : TypeId → Bool) : Nat → List (TypeId × Nat) → Option Nat
 | o, [] => some o
 | o, g :: gs => (E.ty g.1).bind fun d => if g.2 = o ∧ S g.1 = true then yhu E S (o + d.size) gs else none
def shpB (E : Env) : Nat → TypeId → Bool
 | 0, _ => false
 | n + 1, t => match E.ty t with
  | none => false
  | some d => match d.u with
   | .int _ | .bool | .str => d.size == 1
   | .slice e => d.size == 1 && shpB E n e && (match E.ty e with | some y => decide (0 < y.size) | none => false)
   | .struct fs => yhu E (shpB E n) 0 fs == some d.size
   | _ => false
def ShpFs (S : TypeId → List V → Prop) : List (TypeId × Nat) → List V → Prop
 | [], vs => vs = []
 | g :: gs, vs => ∃ a b, vs = a ++ b ∧ S g.1 a ∧ ShpFs S gs b
def Shp (E : Env) : Nat → TypeId → List V → Prop
 | 0, _, _ => False
 | n + 1, t, vs => ∃ d, E.ty t = some d ∧ vs.length = d.size ∧ match d.u with
   | .int k => ∃ x, vs = [.int k x] ∧ (Lit.int k x).wf = true
   | .bool => ∃ b, vs = [.bool b]
   | .str => ∃ s, vs = [.str s] ∧ s.length ≤ maxLen
   | .slice e => ∃ y, E.ty e = some y ∧ (vs = [.nils] ∨ ∃ es, vs = [.lst y.size es] ∧ es.length ≤ maxLen ∧ ∀ v ∈ es, Shp E n e v.cells ∧ (y.agg = true → ∃ cs, v = .agg cs))
   | .struct fs => ShpFs (Shp E n) fs vs
   | _ => False
section
variable {P : Program} {E : Env} {H : Type} {enc : TypeId × Value → H} {w : World} {base : Nat} {spare : Nat → Bool} {held : Bool}
theorem Shp.cell : ∀ {n : Nat} {t : TypeId} {vs : List V}, Shp E n t vs → vs.all V.isCell = true
 | 0, _, _, h => h.elim
 | n + 1, t, vs, h => by
  obtain ⟨d, _, _, h⟩ := h
  split at h
  ·obtain ⟨x, rfl, _⟩ := h; rfl
  ·obtain ⟨b, rfl⟩ := h; rfl
  ·obtain ⟨s, rfl, _⟩ := h; rfl
  ·obtain ⟨y, _, h⟩ := h
   rcases h with rfl | ⟨es, rfl, _⟩ <;> rfl
  ·rename_i fs _
   have : ∀ (fs : List (TypeId × Nat)) (vs : List V), ShpFs (Shp E n) fs vs → vs.all V.isCell = true := by
    intro fs
    induction fs with
    | nil => intro vs h; simp [ShpFs] at h; subst h; rfl
    | cons g gs ih =>
     intro vs h
     obtain ⟨a, b, rfl, h1, h2⟩ := h
     rw [List.all_append, h1.cell, ih b h2]; rfl
   exact this fs vs h
  ·exact h.elim
def RGs (w : World) (vs : List V) (cs : List Value) : Prop := vs.length = cs.length ∧ ∀ (i : Nat) (v : V) (x : Value), vs[i]? = some v → cs[i]? = some x → RG (fun r => r < w.heap.size) w v x
theorem RGs.append {vs us : List V} {cs ds : List Value} (h1 : RGs w vs cs) (h2 : RGs w us ds) : RGs w (vs ++ us) (cs ++ ds) := by
 refine ⟨by simp [h1.1, h2.1], fun i v x hv hx => ?_⟩
 by_cases hi : i < vs.length
 ·rw [List.getElem?_append_left hi] at hv
  rw [List.getElem?_append_left (by rw [← h1.1]; exact hi)] at hx
  exact h1.2 i v x hv hx
 ·rw [List.getElem?_append_right (by omega)] at hv
  rw [List.getElem?_append_right (by rw [← h1.1]; omega), ← h1.1] at hx
  exact h2.2 _ v x hv hx
theorem RGs.one {v : V} {x : Value} (h : RG (fun r => r < w.heap.size) w v x) : RGs w [v] [x] := ⟨rfl, fun i u y hu hy => by
 cases i with
 | zero => simp at hu hy; subst hu; subst hy; exact h
 | succ i => simp at hu⟩
theorem ypx {α : Type} {p : Nat → α → Prop} : ∀ (n : Nat), (∀ i, i < n → ∃ a, p i a) → ∃ l : List α, l.length = n ∧ ∀ i a, l[i]? = some a → p i a
 | 0, _ => ⟨[], rfl, fun i a h => by simp at h⟩
 | n + 1, h => by
  obtain ⟨l, h1, h2⟩ := ypx n (fun i hi => h i (by omega))
  obtain ⟨a, ha⟩ := h n (by omega)
  refine ⟨l ++ [a], by simp [h1], fun i b hb => ?_⟩
  by_cases hi : i < l.length
  ·rw [List.getElem?_append_left hi] at hb; exact h2 i b hb
  ·rw [List.getElem?_append_right (by omega)] at hb
   have : i = n := by
    by_cases e : i - l.length = 0
    ·omega
    ·rw [show i - l.length = (i - l.length - 1) + 1 by omega] at hb; simp at hb
   subst this
   rw [h1] at hb; simp at hb; subst hb; exact ha
end
end Go.Sb

/- A seat's tables, checked. -/

namespace Go.Sb
def isZ : Value → V → Bool
  | .bool a, .bool b => a == b
  | .int k a, .int l b => decide (k = l) && a == b
  | .string s, .str l => s.data.toList == l
  | .pointer none, .nilp => true
  | .slice none 0 0, .nils => true
  | .map none, .nilm => true
  | .nilFunc, .nilf => true
  | .nilIface, .nili => true
  | _, _ => false
theorem isZ_eq {x : Value} {v : V} (h : isZ x v = true) : x = zeroX v ∧ yeb v = true := by
  unfold isZ at h
  split at h
  · simp at h; subst h; exact ⟨rfl, rfl⟩
  · simp at h; obtain ⟨rfl, rfl⟩ := h; exact ⟨rfl, rfl⟩
  · rename_i s l
    simp at h
    refine ⟨?_, rfl⟩
    obtain ⟨⟨a⟩⟩ := s
    simp at h; subst h; rfl
  all_goals first | exact ⟨rfl, rfl⟩ | cases h
def isZs : List Value → List V → Bool
  | [], [] => true
  | x :: xs, v :: vs => isZ x v && isZs xs vs
  | _, _ => false
theorem ypy : ∀ {xs : List Value} {vs : List V}, isZs xs vs = true → xs = vs.map zeroX ∧ vs.all yeb = true
  | [], [], _ => ⟨rfl, rfl⟩
  | x :: xs, v :: vs, h => by
    simp only [isZs, Bool.and_eq_true] at h
    obtain ⟨e1, e2⟩ := isZ_eq h.1
    obtain ⟨e3, e4⟩ := ypy h.2
    exact ⟨by rw [e1, e3]; rfl, by simp [e2]; simpa using e4⟩
  | [], _ :: _, h => by simp [isZs] at h
  | _ :: _, [], h => by simp [isZs] at h
def tyOkB (P : Program) (t : TypeId) (d : TyD) : Bool :=
  (match P.underlying t with | some u => decide (TyU.of u = d.u) | none => false) &&
  (match P.info? t with
    | some i => i.size == d.size && i.bytes == d.bytes &&
      (match i.zero with
       | some (.agg xs) => d.agg && isZs xs.toList d.zero
       | some x => !d.agg && (match d.zero with | [v] => isZ x v | _ => false)
       | none => false)
    | none => false) && d.zero.length == d.size
theorem tyOk_of {P : Program} {t : TypeId} {d : TyD} (h : tyOkB P t d = true) : TyOk P t d := by
  unfold tyOkB at h
  simp only [Bool.and_eq_true] at h
  obtain ⟨⟨h1, h2⟩, h3⟩ := h
  cases hu : P.underlying t with
  | none => rw [hu] at h1; cases h1
  | some u =>
    rw [hu] at h1
    cases hi : P.info? t with
    | none => rw [hi] at h2; cases h2
    | some i =>
      rw [hi] at h2
      simp only [Bool.and_eq_true, beq_iff_eq] at h2
      obtain ⟨⟨g1, g2⟩, g3⟩ := h2
      have h3' : d.zero.length = d.size := by simpa using h3
      cases hz : i.zero with
      | none => rw [hz] at g3; cases g3
      | some x =>
        rw [hz] at g3
        have key : x = d.zeroV ∧ d.zero.all yeb = true ∧ (d.agg = false → d.zero.length = 1) := by
          split at g3
          · rename_i xs e
            cases e
            simp only [Bool.and_eq_true] at g3
            obtain ⟨e1, e2⟩ := ypy g3.2
            refine ⟨?_, e2, fun h => by rw [g3.1] at h; cases h⟩
            unfold TyD.zeroV
            rw [if_pos g3.1, ← e1]
          · rename_i e
            cases e
            simp only [Bool.and_eq_true, Bool.not_eq_true'] at g3
            obtain ⟨g4, g5⟩ := g3
            split at g5
            · rename_i v hv
              obtain ⟨e1, e2⟩ := isZ_eq g5
              refine ⟨?_, by rw [hv]; simp [e2], fun _ => by rw [hv]; rfl⟩
              unfold TyD.zeroV
              rw [if_neg (by simp [g4]), hv, e1]; rfl
            · cases g5
          · rename_i e; cases e
        exact ⟨by rw [hu]; simpa using h1, by rw [hi]; simp [g1, g2], by rw [hi]; simp [hz, key.1], key.2.1, key.2.2, h3'⟩
theorem ygv {α : Type} {x : α} (h : none = some x) : False := by cases h
def fnDof (F : Func) (md : FuncId → Mode) : FnD := ⟨F.ntmps, F.results.toList, F.body.getD .skip, md⟩
theorem yaa {P : Program} {f : FuncId} {F : Func} {md : FuncId → Mode} (h : P.funcs[f]? = some F) (hb : F.body.isSome = true) (hn : (F.name == "runtime.NumGoroutine") = false) : FnOk P f (fnDof F md) := by
  refine ⟨F, h, ?_, rfl, rfl, hn⟩
  unfold fnDof
  cases hF : F.body with
  | none => rw [hF] at hb; cases hb
  | some b => rfl
end Go.Sb

/- bytealg.IndexByteString, which has no Go body. -/

namespace Go.Sb
set_option maxRecDepth 100000
def idxB (s : List UInt8) (c : UInt8) : Int := if c ∈ s then (s.idxOf c : Int) else -1
theorem getB (s : List UInt8) (i : Nat) : (⟨⟨s⟩⟩ : ByteArray)[i]! = s[i]! := by
 have hsz : (⟨⟨s⟩⟩ : ByteArray).size = s.length := by simp [ByteArray.size]
 by_cases h : i < s.length
 ·rw [getElem!_pos _ i (by rw [hsz]; exact h), getElem!_pos s i h]; rfl
 ·rw [getElem!_neg _ i (by rw [hsz]; exact h), getElem!_neg s i h]
theorem find_idx (s : List UInt8) (c : UInt8) : firstIdx ⟨⟨s⟩⟩ c = idxB s c := by
 unfold firstIdx
 have hsz : (⟨⟨s⟩⟩ : ByteArray).size = s.length := by simp [ByteArray.size]
 simp only [getB, hsz]
 unfold idxB
 split
 ·rename_i i h
  rw [List.find?_range_eq_some] at h
  obtain ⟨h1, h2, h3⟩ := h
  have hi : i < s.length := by simpa using h2
  have hc : s[i] = c := by simpa [hi] using h1
  have hm : c ∈ s := by rw [← hc]; exact List.getElem_mem hi
  rw [if_pos hm]
  have hlt : s.idxOf c < s.length := List.idxOf_lt_length_of_mem hm
  have h4 : s[s.idxOf c] = c := List.getElem_idxOf hlt
  have h5 : ¬ s.idxOf c < i := fun hl => by
   have := h3 _ hl
   simp [hlt, h4] at this
  have h6 : ¬ i < s.idxOf c := fun hl => by
   have := List.not_of_lt_findIdx (p := (· == c)) (show i < s.findIdx (· == c) from hl)
   simp [hc] at this
  omega
 ·rename_i h
  rw [List.find?_range_eq_none] at h
  rw [if_neg]
  intro hm
  have hlt : s.idxOf c < s.length := List.idxOf_lt_length_of_mem hm
  have := h _ hlt
  simp [hlt, List.getElem_idxOf hlt] at this
def idxV (vs : List V) : Option V := match vs with
 | [.str s, .int .u8 c] => some (.int .i64 (idxB s c.toNat.toUInt8))
 | _ => none
theorem yvz {P : Program} {f : FuncId} {fn : Func} {e : Array Value → Sem Value} (hf : P.funcs[f]? = some fn) (hname : (fn.name == "runtime.NumGoroutine") = false) (hb : fn.body.isNone = true) (hn : Extern.findNext fn = none)
  (he : Extern.find fn = some e) (hs : e = Extern.BytealgIndexByte.indexByte) : ExtOk P f idxV := by
 intro c vs xs v hv h
 unfold idxV at h
 split at h
 ·rename_i s b
  cases h
  obtain ⟨x, xs', rfl, h1, h2⟩ := hv.cons_left
  obtain ⟨y, ys', rfl, h3, h4⟩ := h2.cons_left
  have := h4.nil_left; subst this
  have hx := h1.str_inv; subst hx
  have hy := h3.int_inv; subst hy
  refine ⟨.int .i64 (idxB s b.toNat.toUInt8), ?_, .g (.int _ _)⟩
  rw [run_callFunc_extern hf hname hb hn he, hs, run_indexByte_string, find_idx]; rfl
 ·cases h
end Go.Sb
