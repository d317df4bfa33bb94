/- The plain values and the plain memory of an evaluator for the model's code: no addresses but numbers of blocks of its own, no tape. -/
import GoSem.Step
import Derived.Orders
import Derived.Calls
set_option linter.unusedVariables false
set_option linter.unusedSimpArgs false
namespace Go.Sb
inductive V where
 | bool (b : Bool)
 | int (k : IntKind) (n : Int)
 | str (s : List UInt8)
 | nilp | nils | nilm | nilf | nili
 | ptr (b o sz : Nat)
 | rop (cs : List V)
 | sl (b o e len cap sz : Nat)
 | lst (e : Nat) (es : List V)
 | emp
 | mp (b : Nat)
 | it (b : Nat)
 | fn (f : Fn) (caps : List V)
 | bm (f : FuncId) (cs : List V)
 /-- some int of this kind -/
 | ub (k : IntKind)
 | ifc (t : TypeId) (x : V)
 | agg (cs : List V)
 | tup (cs : List V)
 | junk
 /-- a pointer to a block of the machine's that the plain memory does not name (an iterator) -/
 | raw (r : Nat)
 deriving Inhabited
inductive Mode | own | shared | round
 deriving DecidableEq
structure LoopD where
 st : LoopState
 pend : Option (Option Nat)
 tmps : List V
 params : List Nat
 assign : Code
 body : Code
 md : FuncId → Mode
inductive Blk where
 | dead
 | cells (t : TypeId) (cs : List V)
 | map (es : List (V × V))
 | siter (L : LoopD)
 deriving Inhabited
abbrev Heap := List Blk
def V.cells : V → List V
 | .agg cs => cs
 | v => [v]
def V.isCell : V → Bool
 | .agg _ | .tup _ | .junk | .raw _ => false
 | _ => true
mutual
def V.ground : V → Bool
 | .ptr .. | .sl .. | .mp _ | .it _ | .junk | .raw _ | .bm .. => false
 | .rop cs | .lst _ cs | .fn _ cs | .agg cs | .tup cs => V.grounds cs
 | .ifc _ x => x.ground
 | _ => true
def V.grounds : List V → Bool
 | [] => true
 | v :: vs => v.ground && V.grounds vs
end
mutual
def V.beq : V → V → Bool
 | .bool a, .bool b => a == b
 | .int k a, .int l b => k == l && a == b
 | .str a, .str b => a == b
 | .nilp, .nilp | .nils, .nils | .nilm, .nilm | .nilf, .nilf | .nili, .nili | .emp, .emp | .junk, .junk => true
 | .ptr a b c, .ptr d e f => a == d && b == e && c == f
 | .rop a, .rop b | .agg a, .agg b | .tup a, .tup b => V.beqs a b
 | .lst e a, .lst f b => e == f && V.beqs a b
 | .sl a b c d e f, .sl a' b' c' d' e' f' => a == a' && b == b' && c == c' && d == d' && e == e' && f == f'
 | .mp a, .mp b => a == b
 | .it a, .it b => a == b
 | .ub a, .ub b => a == b
 | .raw a, .raw b => a == b
 | .fn f a, .fn g b => f == g && V.beqs a b
 | .bm f a, .bm g b => f == g && V.beqs a b
 | .ifc t x, .ifc u y => t == u && x.beq y
 | _, _ => false
def V.beqs : List V → List V → Bool
 | [], [] => true
 | a :: ars, b :: bs => a.beq b && V.beqs ars bs
 | _, _ => false
end
mutual
theorem V.beq_eq : ∀ (a b : V), a.beq b = true → a = b
 | .bool a, b, h => by cases b <;> simp_all [V.beq]
 | .int k a, b, h => by cases b <;> simp_all [V.beq]
 | .str a, b, h => by cases b <;> simp_all [V.beq]
 | .nilp, b, h => by cases b <;> simp_all [V.beq]
 | .nils, b, h => by cases b <;> simp_all [V.beq]
 | .nilm, b, h => by cases b <;> simp_all [V.beq]
 | .nilf, b, h => by cases b <;> simp_all [V.beq]
 | .nili, b, h => by cases b <;> simp_all [V.beq]
 | .emp, b, h => by cases b <;> simp_all [V.beq]
 | .junk, b, h => by cases b <;> simp_all [V.beq]
 | .ptr _ _ _, b, h => by cases b <;> simp_all [V.beq]
 | .sl _ _ _ _ _ _, b, h => by cases b <;> simp_all [V.beq]
 | .mp _, b, h => by cases b <;> simp_all [V.beq]
 | .it _, b, h => by cases b <;> simp_all [V.beq]
 | .ub _, b, h => by cases b <;> simp_all [V.beq]
 | .raw _, b, h => by cases b <;> simp_all [V.beq]
 | .rop a, b, h => by
  cases b <;> simp [V.beq] at h
  rw [V.beqs_eq _ _ h]
 | .lst e a, b, h => by
  cases b <;> simp [V.beq] at h
  rw [V.beqs_eq _ _ h.2, h.1]
 | .agg a, b, h => by
  cases b <;> simp [V.beq] at h
  rw [V.beqs_eq _ _ h]
 | .tup a, b, h => by
  cases b <;> simp [V.beq] at h
  rw [V.beqs_eq _ _ h]
 | .fn f a, b, h => by
  cases b <;> simp [V.beq] at h
  rw [V.beqs_eq _ _ h.2, h.1]
 | .bm f a, b, h => by
  cases b <;> simp [V.beq] at h
  rw [V.beqs_eq _ _ h.2, h.1]
 | .ifc t a, b, h => by
  cases b <;> simp [V.beq] at h
  rw [V.beq_eq _ _ h.2, h.1]
theorem V.beqs_eq : ∀ (a b : List V), V.beqs a b = true → a = b
 | [], b, h => by cases b <;> simp_all [V.beqs]
 | x :: xs, b, h => by
  cases b with
  | nil => simp [V.beqs] at h
  | cons y ys =>
   simp [V.beqs] at h
   rw [V.beq_eq _ _ h.1, V.beqs_eq _ _ h.2]
end
mutual
theorem V.beq_refl : ∀ (a : V), a.beq a = true
 | .bool _ | .int _ _ | .str _ | .nilp | .nils | .nilm | .nilf | .nili | .emp | .junk | .ptr _ _ _ | .sl _ _ _ _ _ _ | .mp _ | .it _ | .ub _ | .raw _ => by simp [V.beq]
 | .rop a | .lst _ a | .agg a | .tup a | .fn _ a | .bm _ a => by simp [V.beq, V.beqs_refl a]
 | .ifc _ x => by simp [V.beq, V.beq_refl x]
theorem V.beqs_refl : ∀ (a : List V), V.beqs a a = true
 | [] => rfl
 | x :: xs => by simp [V.beqs, V.beq_refl x, V.beqs_refl xs]
end
instance : DecidableEq V := fun a b => if h : a.beq b = true then .isTrue (V.beq_eq a b h) else .isFalse (fun e => h (e ▸ V.beq_refl a))
end Go.Sb

/- The evaluator: the model's code run over plain values and a plain memory. What it answers holds for every run of the machine (SbSound). -/

namespace Go.Sb
inductive TyU where
  | bool | int (k : IntKind) | str | ptr (e : TypeId) | slice (e : TypeId) | array (n : Nat) (e : TypeId) | map (k e : TypeId)
  | struct (fs : List (TypeId × Nat)) | func | iface | uptr | other
  deriving DecidableEq
def TyU.of : TypeDesc → TyU
  | .bool => .bool
  | .int k => .int k
  | .string => .str
  | .pointer e => .ptr e
  | .slice e => .slice e
  | .array n e => .array n e
  | .map k e => .map k e
  | .struct fs => .struct (fs.toList.map fun f => (f.type, f.offset))
  | .func _ _ _ => .func
  | .interface _ => .iface
  | .unsafePointer => .uptr
  | _ => .other
structure TyD where
  u : TyU
  size : Nat
  bytes : Nat
  zero : List V
structure FnD where
  nt : Nat
  res : List ResultVar
  body : Code
  /-- how it calls which function -/
  md : FuncId → Mode
structure GuardD where
  d : FnD
  first : List Code
  id : Nat
  mkf : Oper
  df : Oper
  t : Tmp
  rest : Code
  g : FuncId
  gd : FnD
  gid : Nat
  rc : Oper
  grest : Code
structure Env where
  ty : TypeId → Option TyD
  fn : FuncId → Option FnD
  gl : Nat → Option (List V)
  /-- functions without a Go body -/
  ext : FuncId → Option (List V → Option V)
  /-- functions whose answer is told by a contract, not walked -/
  lib : FuncId → Option (List V → Option V)
  /-- '==' at a type of structs -/
  eqs : TypeId → Option (List V → List V → Option Bool)
  /-- functions with a deferred closure -/
  gd : FuncId → Option GuardD := fun _ => none
def TyD.agg (d : TyD) : Bool := match d.u with | .struct _ | .array _ _ => true | _ => false
def yaz (h : Heap) (b sz : Nat) : Option (TypeId × List V) :=
  match h[b]? with
  | some (.cells t cs) => if cs.length = sz then some (t, cs) else none
  | _ => none
def splice (cs : List V) (o : Nat) (new : List V) : List V := cs.take o ++ new ++ cs.drop (o + new.length)
def rd (E : Env) (t : TypeId) (cs : List V) : Option V :=
  (E.ty t).bind fun d => if d.agg then (if d.size ≤ cs.length then some (.agg (cs.take d.size)) else none) else cs.head?
def yde (E : Env) (t : TypeId) (p : V) (h : Heap) : Option V :=
  match p with
  | .ptr b o sz => (yaz h b sz).bind fun x => rd E t (x.2.drop o)
  | .rop cs => rd E t cs
  | _ => none
def yex (E : Env) (t : TypeId) (p v : V) (h : Heap) : Option Heap :=
  match p with
  | .ptr b o sz => (yaz h b sz).bind fun x => (E.ty t).bind fun d =>
    if v.cells.length = d.size ∧ v.cells.all V.isCell = true ∧ o + d.size ≤ x.2.length then some (h.set b (.cells x.1 (splice x.2 o v.cells))) else none
  | _ => none
def push (h : Heap) (b : Blk) : Heap := h ++ [b]
def yit (E : Env) (t : TypeId) (h : Heap) : Option (V × Heap) :=
  (E.ty t).bind fun d => if d.zero.length = d.size then some (.ptr h.length 0 d.size, push h (.cells t d.zero)) else none
def evBox (t : TypeId) (v : V) (h : Heap) : Option (V × Heap) :=
  if v.cells.all V.isCell = true then some (.ptr h.length 0 v.cells.length, push h (.cells t v.cells)) else none
def fillV (place : Nat → Option (Nat × Nat)) (cells : List V) : List (Nat × V) → Option (List V)
  | [] => some cells
  | (i, v) :: rest => (place i).bind fun p =>
    if v.cells.length = p.2 ∧ p.1 + v.cells.length ≤ cells.length ∧ v.cells.all V.isCell = true then fillV place (splice cells p.1 v.cells) rest else none
def yiu (E : Env) (t : TypeId) (parts : List (Nat × V)) : Option V :=
  (E.ty t).bind fun d =>
    match d.u with
    | .struct fs => if fs.all (fun f => (E.ty f.1).isSome) = false then none else (fillV (fun i => (fs[i]?).bind fun f => (E.ty f.1).map fun x => (f.2, x.size)) d.zero parts).map .agg
    | .array _ e => (E.ty e).bind fun x => (fillV (fun i => some (i * x.size, x.size)) d.zero parts).map .agg
    | _ => none
def yca (zs : List V) : Nat → List V
  | 0 => []
  | n + 1 => zs ++ yca zs n
def yhj (E : Env) (t : TypeId) (len : Nat) (parts : List (Nat × V)) (h : Heap) : Option (V × Heap) :=
  (E.ty t).bind fun d =>
    match d.u with
    | .slice e => (E.ty e).bind fun x =>
      if len * x.size > 2 ^ 24 ∨ x.zero.length ≠ x.size ∨ x.size = 0 then none else
      if len = 0 then (if parts.isEmpty then some (.emp, h) else none) else
      (fillV (fun i => some (i * x.size, x.size)) (yca x.zero len) parts).bind fun cs =>
        if cs.all V.isCell = true then some (.sl h.length 0 x.size len len (len * x.size), push h (.cells e cs)) else none
    | _ => none
def yiv (E : Env) (t : TypeId) (len cap : V) (h : Heap) : Option (V × Heap) :=
  (E.ty t).bind fun d =>
    match d.u, len, cap with
    | .slice e, .int _ l, .int _ c => (E.ty e).bind fun x =>
      if 0 ≤ l ∧ l ≤ c ∧ x.bytes * c ≤ 2 ^ 47 ∧ c ≤ 2 ^ 47 ∧ x.zero.length = x.size ∧ 0 < x.size then
        (if c = 0 then some (.emp, h)
         else some (.sl h.length 0 x.size l.toNat c.toNat (c.toNat * x.size), push h (.cells e (yca x.zero c.toNat))))
      else none
    | _, _, _ => none
def yld (E : Env) (s : TypeId) (p : V) (f : Nat) : Option V :=
  (E.ty s).bind fun d =>
    match d.u with
    | .struct fs => (fs[f]?).bind fun g => (E.ty g.1).bind fun x =>
      if x.size = 0 then none else
      match p with
      | .ptr b o sz => some (.ptr b (o + g.2) sz)
      | .rop cs => some (.rop (cs.drop g.2))
      | _ => none
    | _ => none
def partV (E : Env) (t : TypeId) (cs : List V) (o : Nat) : Option V := rd E t (cs.drop o)
def yle (E : Env) (s : TypeId) (x : V) (f : Nat) : Option V :=
  (E.ty s).bind fun d =>
    match d.u, x with
    | .struct fs, .agg cs => (fs[f]?).bind fun g => partV E g.1 cs g.2
    | _, _ => none
def yfm (E : Env) (t : TypeId) (x i : V) : Option V :=
  (E.ty t).bind fun d =>
    match d.u, x, i with
    | .array n e, .ptr b o sz, .int _ i => (E.ty e).bind fun y => if 0 ≤ i ∧ i < (n : Int) then some (.ptr b (o + i.toNat * y.size) sz) else none
    | .array n e, .rop cs, .int _ i => (E.ty e).bind fun y => if 0 ≤ i ∧ i < (n : Int) then some (.rop (cs.drop (i.toNat * y.size))) else none
    | .slice e, .sl b o z len _ sz, .int _ i => (E.ty e).bind fun y => if 0 ≤ i ∧ i < (len : Int) ∧ y.size = z then some (.ptr b (o + i.toNat * z) sz) else none
    | .slice e, .lst z es, .int _ i => (E.ty e).bind fun y => if 0 ≤ i ∧ y.size = z then (es[i.toNat]?).bind fun v => some (.rop v.cells) else none
    | _, _, _ => none
def yhk (E : Env) (t : TypeId) (x i : V) : Option V :=
  (E.ty t).bind fun d =>
    match d.u, x, i with
    | .array n e, .agg cs, .int _ i => (E.ty e).bind fun y => if 0 ≤ i ∧ i < (n : Int) then partV E e cs (i.toNat * y.size) else none
    | .str, .str s, .int _ i => if 0 ≤ i then (s[i.toNat]?).map fun b => .int .u8 b.toNat else none
    | _, _, _ => none
def bnd (x : Option V) (dflt : Nat) : Option Nat :=
  match x with
  | none => some dflt
  | some (.int _ i) => if 0 ≤ i then some i.toNat else none
  | some _ => none
def yem (E : Env) (t : TypeId) (x : V) (lo hi mx : Option V) : Option V :=
  (E.ty t).bind fun d =>
    match d.u, x, mx with
    | .str, .str s, none => (bnd hi s.length).bind fun h => (bnd lo 0).bind fun l => if l ≤ h ∧ h ≤ s.length then some (.str ((s.take h).drop l)) else none
    | .slice el, .sl b o e len cap sz, none => (E.ty el).bind fun y => (bnd hi len).bind fun h => (bnd lo 0).bind fun l => if l ≤ h ∧ h ≤ cap ∧ l < cap ∧ y.size = e then some (.sl b (o + l * e) e (h - l) (cap - l) sz) else none
    | .slice el, .sl _ _ _ _ cap _, some m => (E.ty el).bind fun _ => (bnd (some m) 0).bind fun m => (bnd hi 0).bind fun h => (bnd lo 0).bind fun l => if hi.isSome ∧ l = m ∧ h = m ∧ m ≤ cap then some .emp else none
    | .slice el, .lst e es, none => (E.ty el).bind fun y => (bnd hi es.length).bind fun h => (bnd lo 0).bind fun l => if l ≤ h ∧ h ≤ es.length ∧ y.size = e then some (.lst e ((es.take h).drop l)) else none
    | .slice el, .lst _ es, some m => (E.ty el).bind fun _ => (bnd (some m) 0).bind fun m => (bnd hi 0).bind fun h => (bnd lo 0).bind fun l => if hi.isSome ∧ l = m ∧ h = m ∧ m ≤ es.length then some .emp else none
    | .slice el, .nils, none => (E.ty el).bind fun _ => (bnd hi 0).bind fun h => (bnd lo 0).bind fun l => if l = 0 ∧ h = 0 then some .nils else none
    | .slice el, .nils, some m => (E.ty el).bind fun _ => (bnd (some m) 0).bind fun m => (bnd hi 0).bind fun h => (bnd lo 0).bind fun l => if hi.isSome ∧ l = 0 ∧ h = 0 ∧ m = 0 then some .nils else none
    | .slice el, .emp, none => (E.ty el).bind fun _ => (bnd hi 0).bind fun h => (bnd lo 0).bind fun l => if l = 0 ∧ h = 0 then some .emp else none
    | .slice el, .emp, some m => (E.ty el).bind fun _ => (bnd (some m) 0).bind fun m => (bnd hi 0).bind fun h => (bnd lo 0).bind fun l => if hi.isSome ∧ l = 0 ∧ h = 0 ∧ m = 0 then some .emp else none
    | .array n e, .ptr b o sz, none => (E.ty e).bind fun y => (bnd hi n).bind fun h => (bnd lo 0).bind fun l => if l ≤ h ∧ h ≤ n ∧ l < n ∧ 0 < y.size ∧ o + n * y.size ≤ sz then some (.sl b (o + l * y.size) y.size (h - l) (n - l) sz) else none
    | _, _, _ => none
def contents (h : Heap) (e : Nat) (x : V) : Option (Nat × List V) :=
  match x with
  | .nils | .emp => some (0, [])
  | .str s => if e = 1 then some (s.length, s.map fun b => .int .u8 b.toNat) else none
  | .lst z es => if z = e then some (es.length, es.flatMap V.cells) else none
  | .sl b o z len _ sz => if z = e then (yaz h b sz).bind fun x => if o + len * e ≤ x.2.length then some (len, (x.2.drop o).take (len * e)) else none else none
  | _ => none
def roomy (bytes need : Nat) : Bool := decide ((2 * need + 1024) * bytes ≤ 2 ^ 47) && decide (need ≤ 2 ^ 46)
def ycz (E : Env) (t : TypeId) (s x : V) (h : Heap) : Option (V × Heap) :=
  (E.ty t).bind fun d =>
    match d.u with
    | .slice el => (E.ty el).bind fun y =>
      if y.size = 0 then none else
      (contents h y.size x).bind fun new =>
        match s with
        | .nils | .emp =>
          if new.1 = 0 then some (s, h)
          else if roomy y.bytes new.1 then some (.sl h.length 0 y.size new.1 new.1 (new.1 * y.size), push h (.cells el new.2)) else none
        | .lst z es => if new.1 = 0 then some (.lst z es, h) else none
        | .sl b o e len cap sz => if e ≠ y.size then none else
          (yaz h b sz).bind fun old =>
            if old.1 ≠ el ∨ o + cap * e > sz ∨ len > cap ∨ o % e ≠ 0 then none
            else if len + new.1 ≤ cap then some (.sl b o e (len + new.1) cap sz, h.set b (.cells el (splice old.2 (o + len * e) new.2)))
            else if roomy y.bytes (len + new.1) then
              (if o = 0 ∧ cap * e = sz then some (.sl b 0 e (len + new.1) (len + new.1) ((len + new.1) * e), h.set b (.cells el (old.2.take (len * e) ++ new.2)))
               else some (.sl h.length 0 e (len + new.1) (len + new.1) ((len + new.1) * e), push (h.set b .dead) (.cells el ((old.2.drop o).take (len * e) ++ new.2))))
            else none
        | _ => none
    | _ => none
def yiw (E : Env) (t : TypeId) (dst src : V) (h : Heap) : Option (V × Heap) :=
  (E.ty t).bind fun d =>
    match d.u with
    | .slice el => (E.ty el).bind fun y => if y.size = 0 then none else
      (contents h y.size src).bind fun new =>
        match dst with
        | .nils | .emp => some (.int .i64 0, h)
        | .sl b o e len _ sz => if e ≠ y.size then none else
          (yaz h b sz).bind fun old =>
            if o + len * e ≤ sz then
              (let n := min new.1 len
               some (.int .i64 n, h.set b (.cells old.1 (splice old.2 o (new.2.take (n * e))))))
            else none
        | _ => none
    | _ => none
def ynx (E : Env) (t : TypeId) (x : V) (h : Heap) : Option (V × Heap) :=
  (E.ty t).bind fun d =>
    match d.u with
    | .slice el => (E.ty el).bind fun y =>
        match x with
        | .nils | .emp => some (.tup [], h)
        | .sl b o e len _ sz => if e ≠ y.size ∨ y.zero.length ≠ e ∨ e = 0 then none else
          (yaz h b sz).bind fun old =>
            if o + len * e ≤ sz then some (.tup [], h.set b (.cells old.1 (splice old.2 o (yca y.zero len)))) else none
        | _ => none
    | _ => none
def evLen (E : Env) (t : TypeId) (x : V) (h : Heap) : Option V :=
  (E.ty t).bind fun d =>
    match d.u, x with
    | .str, .str s => some (.int .i64 s.length)
    | .array n _, _ => some (.int .i64 n)
    | .slice _, .sl _ _ _ len _ _ => some (.int .i64 len)
    | .slice _, .lst _ es => some (.int .i64 es.length)
    | .slice _, .nils | .slice _, .emp => some (.int .i64 0)
    | .map _ _, .nilm => some (.int .i64 0)
    | .map _ _, .mp b => match h[b]? with | some (.map es) => some (.int .i64 es.length) | _ => none
    | _, _ => none
def evCap (E : Env) (t : TypeId) (x : V) : Option V :=
  (E.ty t).bind fun d =>
    match d.u, x with
    | .array n _, _ => some (.int .i64 n)
    | .slice _, .nils | .slice _, .emp => some (.int .i64 0)
    | _, _ => none
def evMin2 : V → V → Option V
  | .int k x, .int _ y => some (.int k (if y < x then y else x))
  | _, _ => none
def evMax2 : V → V → Option V
  | .int k x, .int _ y => some (.int k (if y > x then y else x))
  | _, _ => none
def foldV (f : V → V → Option V) : V → List V → Option V
  | x, [] => some x
  | x, y :: ys => (f x y).bind fun z => foldV f z ys
def yix : V → Bool
  | .str _ => false
  | _ => true
def yct : List V → Option (List UInt8)
  | [] => some []
  | .int .u8 n :: vs => (yct vs).map fun l => UInt8.ofNat n.toNat :: l
  | _ :: _ => none
def ydn (E : Env) (src dst : TypeId) (x : V) (h : Heap) : Option (V × Heap) :=
  (E.ty src).bind fun s => (E.ty dst).bind fun d =>
    match s.u, d.u, x with
    | .int _, .int k, .int _ n => some (.int k (k.wrap n), h)
    | .str, .str, .str l => some (.str l, h)
    | .str, .slice e, .str l => (E.ty e).bind fun y =>
      match y.u with
      | .int .u8 => if y.size = 1 ∧ l.length ≤ 2 ^ 62 then
          some (.sl h.length 0 1 l.length l.length l.length, push h (.cells e (l.map fun b => .int .u8 b.toNat))) else none
      | _ => none
    | .slice e, .str, x => (E.ty e).bind fun y =>
      match y.u with
      | .int .u8 => if yix x = true ∧ y.size = 1 then (contents h 1 x).bind fun c => (yct c.2).map fun l => (.str l, h) else none
      | _ => none
    | .slice e, .slice _, .sl b o z len cap sz => (E.ty e).bind fun y =>
      match y.u with
      | .int .u8 => if src = dst ∧ o = 0 then (yaz h b sz).bind fun p => some (.sl h.length 0 z len cap sz, push (h.set b .dead) (.cells p.1 p.2)) else none
      | _ => none
    | .ptr e, .uptr, .ptr b o sz => (E.ty e).bind fun y => (yaz h b sz).bind fun _ => if o < sz ∧ y.size ≠ 0 then some (.ptr b o sz, h) else none
    | .uptr, .ptr e, .ptr b o sz => (E.ty e).bind fun y => (yaz h b sz).bind fun p => if p.1 = e ∧ o + y.size ≤ sz ∧ o % y.size = 0 ∧ y.size ≠ 0 then some (.ptr b o sz, h) else none
    | _, _, _ => none
def findV (k : V) : List (V × V) → Option (Option V)
  | [] => some none
  | (k', v) :: es =>
    match k, k' with
    | .int a x, .int b y => if a = b then (if x = y then some (some v) else findV k es) else none
    | .str x, .str y => if x = y then some (some v) else findV k es
    | _, _ => none
def ycu : TyU → V → Bool
  | .int _, .int _ _ => true
  | .str, .str _ => true
  | _, _ => false
def yhl (E : Env) (t : TypeId) (x k : V) (ok : Bool) (h : Heap) : Option V :=
  (E.ty t).bind fun d =>
    match d.u with
    | .map kt el => (E.ty el).bind fun y => (E.ty kt).bind fun kd =>
      if ycu kd.u k = false then none else
      (match x with
       | .nilm => some []
       | .mp b => match h[b]? with | some (.map es) => some es | _ => none
       | _ => none).bind fun es =>
      (findV k es).bind fun r =>
        let zero := if y.agg then V.agg y.zero else y.zero.headD .junk
        some (match r, ok with
          | some v, true => .tup [v, .bool true]
          | some v, false => v
          | none, true => .tup [zero, .bool false]
          | none, false => zero)
    | _ => none
def setV (k v : V) : List (V × V) → Option (List (V × V))
  | [] => some [(k, v)]
  | (k', v') :: es =>
    match k, k' with
    | .int a x, .int b y => if a = b then (if x = y then some ((k, v) :: es) else (setV k v es).map ((k', v') :: ·)) else none
    | .str x, .str y => if x = y then some ((k, v) :: es) else (setV k v es).map ((k', v') :: ·)
    | _, _ => none
def ygi (E : Env) (t : TypeId) (x k v : V) (h : Heap) : Option Heap :=
  (E.ty t).bind fun d =>
    match d.u, x with
    | .map kt _, .mp b => (E.ty kt).bind fun kd =>
      if ycu kd.u k = false then none else
      match h[b]? with
      | some (.map es) => (setV k v es).map fun es' => h.set b (.map es')
      | _ => none
    | _, _ => none
def yiy (x : V) (i : Nat) : Option V := match x with | .tup vs => vs[i]? | _ => none
def evBin (E : Env) (op : BinOp) (t : TypeId) (x y : V) : Option V :=
  match op, x, y with
  | .shl, .int k a, .int _ b => if b < 0 then none else some (.int k (k.wrap (a * 2 ^ (min b.toNat k.bits))))
  | .shr, .int k a, .int _ b => if b < 0 then none else some (.int k (a.fdiv (2 ^ (min b.toNat k.bits))))
  | op, .int k a, .int l b => if k ≠ l then none else
    match op with
    | .add => some (.int k (k.wrap (a + b)))
    | .sub => some (.int k (k.wrap (a - b)))
    | .mul => some (.int k (k.wrap (a * b)))
    | .quo => if b = 0 then none else some (.int k (k.wrap (a.tdiv b)))
    | .rem => if b = 0 then none else some (.int k (a.tmod b))
    | .and => some (.int k (k.wrap (BitVec.ofInt k.bits a &&& BitVec.ofInt k.bits b).toNat))
    | .or => some (.int k (k.wrap (BitVec.ofInt k.bits a ||| BitVec.ofInt k.bits b).toNat))
    | .xor => some (.int k (k.wrap (BitVec.ofInt k.bits a ^^^ BitVec.ofInt k.bits b).toNat))
    | .andNot => some (.int k (k.wrap (BitVec.ofInt k.bits a &&& ~~~(BitVec.ofInt k.bits b)).toNat))
    | .eql => some (.bool (a == b))
    | .neq => some (.bool (a != b))
    | .lss => some (.bool (decide (a < b)))
    | .leq => some (.bool (decide (a ≤ b)))
    | .gtr => some (.bool (decide (a > b)))
    | .geq => some (.bool (decide (a ≥ b)))
    | _ => none
  | op, .str a, .str b =>
    match op with
    | .add => if (a.length + b.length : Nat) ≤ 2 ^ 62 then some (.str (a ++ b)) else none
    | .eql => some (.bool (a == b))
    | .neq => some (.bool !(a == b))
    | .lss => some (.bool (Op.bytesLess a b))
    | .leq => some (.bool (Op.bytesLess a b || a == b))
    | .gtr => some (.bool !(Op.bytesLess a b || a == b))
    | .geq => some (.bool !(Op.bytesLess a b))
    | _ => none
  | .eql, .bool a, .bool b => (E.ty t).bind fun d => match d.u with | .bool => some (.bool (a == b)) | _ => none
  | .neq, .bool a, .bool b => (E.ty t).bind fun d => match d.u with | .bool => some (.bool !(a == b)) | _ => none
  | .eql, .agg a, .agg b => (E.eqs t).bind fun f => (f a b).map .bool
  | .neq, .agg a, .agg b => (E.eqs t).bind fun f => (f a b).map fun r => .bool !r
  | op, x, y =>
    (E.ty t).bind fun d =>
      (match d.u, x, y with
       | .ptr _, .nilp, .nilp => some true
       | .ptr _, .nilp, .ptr .. | .ptr _, .nilp, .rop _ | .ptr _, .ptr .., .nilp | .ptr _, .rop _, .nilp => some false
       | .slice _, .nils, .nils => some true
       | .slice _, .nils, .sl .. | .slice _, .nils, .lst .. | .slice _, .nils, .emp | .slice _, .sl .., .nils | .slice _, .lst .., .nils | .slice _, .emp, .nils => some false
       | .func, .nilf, .nilf => some true
       | .func, .nilf, .fn .. | .func, .fn .., .nilf => some false
       | .iface, .nili, .ifc .. | .iface, .ifc .., .nili => some false
       | .map _ _, .nilm, .nilm => some true
       | .map _ _, .nilm, .mp _ | .map _ _, .mp _, .nilm => some false
       | _, _, _ => none).bind fun r =>
        match op with
        | .eql => some (.bool r)
        | .neq => some (.bool !r)
        | _ => none
def yiz (E : Env) (op : BinOp) (t : TypeId) (x y : V) (h : Heap) : Option V :=
  match x, y with
  | .ptr b o sz, .ptr b' o' sz' => (E.ty t).bind fun d =>
    match d.u with
    | .ptr e => (E.ty e).bind fun y => if b = b' ∧ sz = sz' ∧ y.size ≠ 0 then (yaz h b sz).bind fun _ =>
        (match op with
         | .eql => some (.bool (o == o'))
         | .neq => some (.bool !(o == o'))
         | _ => none) else none
    | _ => none
  | x, y => evBin E op t x y
def yja (E : Env) (t : TypeId) : Bool := match E.ty t with | some d => (match d.u with | .ptr _ => true | _ => false) | none => false
def ylf (x : V) (h : Heap) : Option V :=
  match x with
  | .nils => some .nilp
  | .sl b o _ _ cap sz => (yaz h b sz).bind fun _ => if cap = 0 then none else some (.ptr b o sz)
  | _ => none
def ylg (E : Env) (t : TypeId) (p n : V) (h : Heap) : Option (V × Heap) :=
  match p, n with
  | .nilp, .int .i64 n => if n = 0 then some (.str [], h) else none
  | .ptr b o sz, .int .i64 n => if n = 0 then some (.str [], h) else
    (E.ty t).bind fun d =>
    match d.u with
    | .ptr e => (E.ty e).bind fun y => (yaz h b sz).bind fun q =>
      if q.1 = e ∧ y.size = 1 ∧ 0 < n ∧ n ≤ 2 ^ 62 ∧ o + n.toNat ≤ sz then (yct ((q.2.drop o).take n.toNat)).map fun l => (.str l, h.set b .dead) else none
    | _ => none
  | _, _ => none
def evUn (op : UnOp) (x : V) : Option V :=
  match op, x with
  | .neg, .int k n => some (.int k (k.wrap (0 - n)))
  | .xor, .int k n => some (.int k (k.wrap (BitVec.ofInt k.bits (if k.signed then -1 else k.max) ^^^ BitVec.ofInt k.bits n).toNat))
  | .not, .bool b => some (.bool !b)
  | _, _ => none
def ylh (E : Env) (t : TypeId) (x : V) : Option V :=
  (E.ty t).bind fun d => match d.u with | .iface => none | _ => some (.ifc t x)
def V.isJunk : V → Bool | .junk => true | _ => false
def yny (E : Env) (x : V) (asserted : TypeId) (ok : Bool) : Option V :=
  (E.ty asserted).bind fun d =>
    match d.u with
    | .iface => none
    | _ =>
      let zero := if d.agg then V.agg d.zero else d.zero.headD .junk
      match x, ok with
      | .nili, true => some (.tup [zero, .bool false])
      | .ifc t v, true => if v.isJunk = true then none else if t = asserted then some (.tup [v, .bool true]) else some (.tup [zero, .bool false])
      | .ifc t v, false => if v.isJunk = true then none else if t = asserted then some v else none
      | _, _ => none
inductive OpR | val (v : V) (h : Heap) | pan (v : V) (h : Heap)
abbrev CallF := Mode → FuncId → List V → Heap → Option OpR
def und : V := .tup []
def getT (s : List V) (t : Nat) : V := s.getD (t + 1) und
def setL : List V → Nat → V → List V
  | [], _, _ => []
  | _ :: xs, 0, v => v :: xs
  | x :: xs, n + 1, v => x :: setL xs n v
def setT (s : List V) (t : Nat) (v : V) : List V := setL s (t + 1) v
def getDf (s : List V) : V := s.headD und
def putT (s : List V) (d : Option Tmp) (v : V) : List V := match d with | some t => setT s t v | none => s
def litV : Value → V
  | .bool b => .bool b
  | .int k n => .int k n
  | .string s => .str s.data.toList
  | .pointer none => .nilp
  | .slice none 0 0 => .nils
  | .map none => .nilm
  | .nilFunc => .nilf
  | .nilIface => .nili
  | _ => .junk
def opd (E : Env) (s : List V) : Operand → V
  | .tmp t => getT s t
  | .const v => litV v
  | .global g => match E.gl g with | some cs => .rop cs | none => .junk
  | .func f => .fn (.func f) []
def val (x : Option V) (h : Heap) : Option OpR := x.map fun v => .val v h
def valH (x : Option (V × Heap)) : Option OpR := x.map fun p => .val p.1 p.2
def unitH (x : Option Heap) : Option OpR := x.map fun h => .val und h
def nrm : Mode → Mode
  | .own => .own
  | _ => .shared
def ydo (E : Env) (md : FuncId → Mode) (call : CallF) (f : V) (args : List V) (h : Heap) : Option OpR :=
  match f with
  | .fn (.func g) caps =>
    match E.ext g with
    | some p => val (p (args ++ caps)) h
    | none => call (nrm (md g)) g (args ++ caps) h
  | .it b => call .round b args h
  | .bm g cs => call (nrm (md g)) g (cs ++ args) h
  | _ => none
def yeh (E : Env) (b : Builtin) (ts : List TypeId) (args : List V) (h : Heap) : Option OpR :=
  match b, ts, args with
  | .append, t :: u :: _, [s, x] => (E.ty u).bind fun d => match d.u with | .str | .slice _ => valH (ycz E t s x h) | _ => none
  | .len, t :: _, [x] => val (evLen E t x h) h
  | .cap, t :: _, [x] => val (evCap E t x) h
  | .copy, t :: _, [d, s] => valH (yiw E t d s h)
  | .clear, t :: _, [x] => valH (ynx E t x h)
  | .min, _, x :: xs => val (foldV evMin2 x xs) h
  | .max, _, x :: xs => val (foldV evMax2 x xs) h
  | .unsafeSliceData, _, [x] => val (ylf x h) h
  | .unsafeString, t :: _, [p, n] => valH (ylg E t p n h)
  | .panic, _, [.ifc t x] => some (.pan (.ifc t x) h)
  | _, _, _ => none
def yjb : Operand → Bool | .const .nilIface => true | _ => false
def yjc : V → Bool | .nili => true | _ => false
def yhm (x y : Operand) (u w : V) : Bool := (yjb x || yjb y) && (yjc u && yjc w)
def evNil (E : Env) (op : BinOp) (t : TypeId) : Option V := (E.ty t).bind fun d => match d.u with
  | .iface => (match op with | .eql => some (.bool true) | .neq => some (.bool false) | _ => none)
  | _ => none
def evOp (E : Env) (md : FuncId → Mode) (call : CallF) (o : Op) (s : List V) (h : Heap) : Option OpR :=
  match o with
  | .move x | .assign x => some (.val (opd E s x) h)
  | .pick c a b => match opd E s c with
    | .bool t => some (.val (match opd E s a, opd E s b with
      | .bool x, .bool y => .bool (cond t x y)
      | x, y => if t = true then x else y) h)
    | _ => none
  | .alloc t => valH (yit E t h)
  | .box t x => valH (evBox t (opd E s x) h)
  | .build t ps => val (yiu E t (ps.toList.map fun p => (p.1, opd E s p.2))) h
  | .buildSlice t n ps => valH (yhj E t n (ps.toList.map fun p => (p.1, opd E s p.2)) h)
  | .load t a => val (yde E t (opd E s a) h) h
  | .store t a x => unitH (yex E t (opd E s a) (opd E s x) h)
  | .nilCheck x => match opd E s x with
    | .ptr a b c => some (.val (.ptr a b c) h)
    | .rop cs => some (.val (.rop cs) h)
    | .fn (.func f) cs => some (.val (.fn (.func f) cs) h)
    | _ => none
  | .binOp op t x y _ => if yja E t = true then val (yiz E op t (opd E s x) (opd E s y) h) h else val (bif yhm x y (opd E s x) (opd E s y) then evNil E op t else evBin E op t (opd E s x) (opd E s y)) h
  | .unOp op _ x => val (evUn op (opd E s x)) h
  | .convert a b x => valH (ydn E a b (opd E s x) h)
  | .makeInterface t x => val (ylh E t (opd E s x)) h
  | .makeFunc (.func f) first caps => if first.isEmpty then some (.val (.fn (.func f) (caps.toList.map (opd E s))) h) else if caps.isEmpty then some (.val (.bm f (first.toList.map (opd E s))) h) else none
  | .makeMap t none => (E.ty t).bind fun d => match d.u with | .map _ _ => some (.val (.mp h.length) (push h (.map []))) | _ => none
  | .makeSlice t l c => valH (yiv E t (opd E s l) (opd E s c) h)
  | .slice t x lo hi mx => val (yem E t (opd E s x) (lo.map (opd E s)) (hi.map (opd E s)) (mx.map (opd E s))) h
  | .fieldAddr t x f => val (yld E t (opd E s x) f) h
  | .field t x f => val (yle E t (opd E s x) f) h
  | .indexAddr t x i => val (yfm E t (opd E s x) (opd E s i)) h
  | .index t x i => val (yhk E t (opd E s x) (opd E s i)) h
  | .lookup t x k ok => val (yhl E t (opd E s x) (opd E s k) ok h) h
  | .mapUpdate t m k v | .insert t m k v => unitH (ygi E t (opd E s m) (opd E s k) (opd E s v) h)
  | .typeAssert x _ t ok => val (yny E (opd E s x) t ok) h
  | .extract x i => val (yiy (opd E s x) i) h
  | .call c => match c.callee with
    | .value f => ydo E md call (opd E s f) (c.args.toList.map (opd E s)) h
    | .builtin b => yeh E b c.argTypes.toList (c.args.toList.map (opd E s)) h
    | .invoke _ _ => none
  | .panic x => match opd E s x with | .ifc t v => some (.pan (.ifc t v) h) | _ => none
  | _ => none
inductive Ex | normal | exit (id : Nat) | ret | panic (v : V)
abbrev Res := Option (Ex × List V × Heap)
def ycd (ops : List Oper) (s : List V) (o : Oper) : Option Bool :=
  match o.guard with
  | none => some true
  | some (j, want) =>
    match (ops[j]?).bind (·.dst) with
    | some t => match getT s t with
      | .bool b => some (b == want)
      | .tup [] => some false
      | _ => none
    | none => none
def evOps (E : Env) (md : FuncId → Mode) (call : CallF) (all : List Oper) : List Oper → List V → Heap → Res
  | [], s, h => some (.normal, s, h)
  | o :: os, s, h => (ycd all s o).bind fun w =>
    if w = true then (evOp E md call o.op s h).bind fun r =>
      match r with
      | .val v h' => evOps E md call all os (putT s o.dst v) h'
      | .pan v h' => some (.panic v, s, h')
    else evOps E md call all os (putT s o.dst und) h
def ydy (body : List V → Heap → Res) : Nat → List V → Heap → Res
  | 0, _, _ => none
  | n + 1, s, h => (body s h).bind fun r =>
    match r with
    | (.normal, s', h') => ydy body n s' h'
    | r => some r
def yai (E : Env) (md : FuncId → Mode) (o : Op) : Nat :=
  match o with
  | .move _ | .assign _ | .pick .. | .build .. | .nilCheck _ | .unOp .. | .makeInterface .. | .slice .. | .fieldAddr .. | .field .. | .indexAddr .. | .index .. | .typeAssert .. | .extract .. => 0
  | .load .. | .lookup .. => 1
  | .binOp _ t _ _ _ => if yja E t = true then 1 else 0
  | .convert a b _ => match E.ty a, E.ty b with
    | some s, some d => (match s.u, d.u with
      | .int _, .int _ => 0
      | .str, .str => 0
      | .slice _, .str => 1
      | _, _ => 2)
    | _, _ => 2
  | .call c => match c.callee with
    | .builtin .min | .builtin .max | .builtin .cap => 0
    | .builtin .len | .builtin .unsafeSliceData => 1
    | .value (.func f) => match E.ext f with
      | some _ => 0
      | none => match md f with | .own => 1 | _ => 2
    | _ => 2
  | _ => 2
def preds (o : Oper) : List Nat := (o.after.toList.filter (Region.binds .any ·)).map (·.on)
def ancT : List Oper → List (List Nat) → List (List Nat)
  | [], A => A
  | o :: os, A => ancT os (A ++ [((preds o) ++ (preds o).flatMap fun p => A.getD p []).eraseDups])
def yli (E : Env) (md : FuncId → Mode) (ops : Array Oper) (A : List (List Nat)) (i j : Nat) (x y : Oper) : Bool :=
  (A.getD j []).contains i || (x.apart ops y && (if yai E md x.op = 2 then yai E md y.op == 0 else true))
def yei (E : Env) (md : FuncId → Mode) (ops : Array Oper) : Bool :=
  let A := ancT ops.toList []
  let n := ops.size
  ((List.range n).all fun j => match ops[j]? with
    | none => true
    | some y => (preds y).all (fun p => decide (p < j)) && (A.getD j []).all (fun x => (preds y).contains x || (preds y).any fun p => (A.getD p []).contains x) &&
      (List.range j).all fun i => match ops[i]? with | none => true | some x => yli E md ops A i j x y)
def freeA (y : Oper) : Bool := (match y.op with | .alloc _ => true | _ => false) && y.guard.isNone && y.dst.isSome && (preds y).isEmpty
def ynz (E : Env) (md : FuncId → Mode) (ops : Array Oper) (A : List (List Nat)) (i j : Nat) (x y : Oper) : Bool :=
  (A.getD j []).contains i || (x.apart ops y && ((if yai E md x.op = 2 then yai E md y.op != 2 else true) || (freeA y && (List.range ops.size).all fun z => !((A.getD z []).contains j) || (A.getD z []).contains i)))
def yhn (E : Env) (md : FuncId → Mode) (ops : Array Oper) : Bool :=
  let A := ancT ops.toList []
  let n := ops.size
  ((List.range n).all fun j => match ops[j]? with
    | none => true
    | some y => (preds y).all (fun p => decide (p < j)) && (A.getD j []).all (fun x => (preds y).contains x || (preds y).any fun p => (A.getD p []).contains x) &&
      (List.range j).all fun i => match ops[i]? with | none => true | some x => ynz E md ops A i j x y)
def ydz (E : Env) (md : FuncId → Mode) (call : CallF) (p : Nat × Op × List V × V) (h : Heap) : Bool :=
  match evOp E md call p.2.1 p.2.2.1 h with
  | some (.val u _) => decide (u = p.2.2.2)
  | _ => false
def ych (E : Env) (md : FuncId → Mode) (call : CallF) (A : List (List Nat)) (all : List Oper) : Nat → List Oper → List (Nat × Op × List V × V) → List V → Heap → Res
  | _, [], _, s, h => some (.normal, s, h)
  | k, o :: os, acc, s, h => (ycd all s o).bind fun w =>
    (if w = true then evOp E md call o.op s h else some (.val und h)).bind fun r => match r with
    | .val v h' =>
      if yai E md o.op = 2 then
        (if acc.all (fun p => (A.getD k []).contains p.1 || ydz E md call p h') = true then ych E md call A all (k + 1) os acc (putT s o.dst v) h' else none)
      else ych E md call A all (k + 1) os (if yai E md o.op = 1 ∧ w = true then (k, o.op, s, v) :: acc else acc) (putT s o.dst v) h'
    | .pan v h' => if w = true ∧ k + 1 = all.length ∧ (List.range k).all (fun i => (A.getD k []).contains i) = true then some (.panic v, s, h') else none
def ycm (E : Env) (md : FuncId → Mode) (call : CallF) (A : List (List Nat)) (all : List Oper) : Nat → List Oper → List (Nat × Op × List V × V) → List (Nat × Heap) → List V → Heap → Res
  | _, [], _, _, s, h => some (.normal, s, h)
  | k, o :: os, acc, ws, s, h => (ycd all s o).bind fun w =>
    (if w = true then evOp E md call o.op s h else some (.val und h)).bind fun r => match r with
    | .val v h' =>
      if yai E md o.op = 2 then
        (if acc.all (fun p => (A.getD k []).contains p.1 || ydz E md call p h') = true then ycm E md call A all (k + 1) os acc ((k, h) :: ws) (putT s o.dst v) h' else none)
      else if yai E md o.op = 1 ∧ w = true then
        (if ws.all (fun q => (A.getD k []).contains q.1 || ydz E md call (k, o.op, s, v) q.2) = true then ycm E md call A all (k + 1) os ((k, o.op, s, v) :: acc) ws (putT s o.dst v) h' else none)
      else ycm E md call A all (k + 1) os acc ws (putT s o.dst v) h'
    | .pan v h' => if w = true ∧ k + 1 = all.length ∧ (List.range k).all (fun i => (A.getD k []).contains i) = true then some (.panic v, s, h') else none
def fz (E : Env) (h : Heap) : Nat → V → Option V
  | 0, _ => none
  | n + 1, v =>
    match v with
    | .ptr b o sz => (yaz h b sz).bind fun x => ((x.2.drop o).mapM (fz E h n)).map .rop
    | .sl b o e len cap sz => (yaz h b sz).bind fun x => (E.ty x.1).bind fun d =>
      if d.size = e ∧ 0 < e ∧ o + len * e ≤ x.2.length ∧ len ≤ cap then
        (if d.agg then (List.range len).mapM (fun i => (((x.2.drop (o + i * e)).take e).mapM (fz E h n)).map .agg)
         else if e = 1 then ((x.2.drop o).take len).mapM (fz E h n) else none).map (.lst e)
      else none
    | .mp _ | .it _ | .junk | .raw _ | .bm .. => none
    | .fn f cs => (cs.mapM (fz E h n)).map (.fn f)
    | .ifc t x => (fz E h n x).map (.ifc t)
    | .agg cs => (cs.mapM (fz E h n)).map .agg
    | .tup cs => (cs.mapM (fz E h n)).map .tup
    | v => some v
mutual
def V.noref : V → Bool
  | .ptr .. | .sl .. | .mp _ | .it _ | .junk | .raw _ | .bm .. => false
  | .fn _ cs | .agg cs | .tup cs => V.norefs cs
  | .ifc _ x => x.noref
  | _ => true
def V.norefs : List V → Bool
  | [] => true
  | v :: vs => v.noref && V.norefs vs
end
mutual
def V.flat : V → Bool
  | .ptr .. | .sl .. | .mp _ | .it _ | .junk | .raw _ | .rop _ | .lst .. | .emp | .fn _ _ | .bm .. => false
  | .agg cs | .tup cs => V.flats cs
  | .ifc _ x => x.flat
  | _ => true
def V.flats : List V → Bool
  | [] => true
  | v :: vs => v.flat && V.flats vs
end
def yey (E : Env) (s : List V) (h : Heap) : ResultVar → Option V
  | .tmp t => some (getT s t)
  | .cell a t => yde E t (getT s a) h
def ybp (E : Env) (rs : List ResultVar) (s : List V) (h : Heap) : Option V :=
  (rs.mapM (yey E s h)).map fun vs => match vs with | [v] => v | vs => .tup vs
def initT (nt : Nat) (args : List V) : List V := und :: (args ++ List.replicate (nt - args.length) und)
def ycb : Nat := 12
def ycv : Code → Bool
  | .seq a b | .cond _ a b => ycv a && ycv b
  | .block _ a | .loop a | .scope a => ycv a
  | .rangeFunc .. => false
  | _ => true
def pendEx : Option Nat → Ex
  | none => .ret
  | some i => .exit i
def ylj (b : Nat) (s : List V) (h : Heap) : Res :=
  match h[b]? with
  | some (.siter L) =>
    if L.st = .busy then none else
    some ((match L.pend with | none => .normal | some p => pendEx p), s, h.set b (.siter { L with st := .exhausted }))
  | _ => none
def yap (E : Env) (md : FuncId → Mode) (call : CallF) (n : Nat) : Code → List V → Heap → Res
  | .skip, s, h => some (.normal, s, h)
  | .region _ ops draw, s, h => if draw = true then (if yei E md ops = true then ych E md call (ancT ops.toList []) ops.toList 0 ops.toList [] s h else if yhn E md ops = true then ycm E md call (ancT ops.toList []) ops.toList 0 ops.toList [] [] s h else none) else evOps E md call ops.toList ops.toList s h
  | .seq a b, s, h => (yap E md call n a s h).bind fun r =>
    match r with
    | (.normal, s', h') => yap E md call n b s' h'
    | r => some r
  | .cond c a b, s, h => match opd E s c with
    | .bool t => if t = true then yap E md call n a s h else yap E md call n b s h
    | _ => none
  | .block id c, s, h => (yap E md call n c s h).bind fun r =>
    match r with
    | (.exit i, s', h') => if i = id then some (.normal, s', h') else some (.exit i, s', h')
    | r => some r
  | .loop c, s, h => ydy (fun s h => yap E md call n c s h) n s h
  | .exit id, s, h => some (.exit id, s, h)
  | .ret, s, h => some (.ret, s, h)
  | .label _, s, h => some (.normal, s, h)
  | .scope c, s, h => yap E md call n c s h
  | .rangeFunc f ps assign body, s, h => match opd E s f with
    | .fn (.func g) caps =>
      (call .shared g (.it h.length :: caps) (push h (.siter ⟨.ready, none, s.tail, ps.toList, assign, body, md⟩))).bind fun r => match r with
        | .val _ h1 => ylj h.length s h1
        | .pan v h1 => some (.panic v, s, h1)
    | _ => none
  | _, _, _ => none
def ygj (E : Env) (call : CallF) (n : Nat) (b : Nat) (args : List V) (h : Heap) : Option OpR :=
  match h[b]? with
  | some (.siter L) =>
    if args.length = L.params.length ∧ ycv L.assign = true ∧ ycv L.body = true then
      (yap E L.md call n L.assign ((L.params.zip args).foldl (fun s p => setT s p.1 p.2) (und :: L.tmps)) h).bind fun r1 => match r1 with
        | (.normal, s1, h1) => (match h1[b]? with
          | some (.siter L1) =>
            if L1.st = .ready then
              (yap E L.md call n L.body s1 (h1.set b (.siter { L1 with st := .busy }))).bind fun r2 => match r2 with
                | (.normal, _, h2) => (match h2[b]? with | some (.siter L2) => some (.val (.bool true) (h2.set b (.siter { L2 with st := .ready, pend := none }))) | _ => none)
                | (.ret, _, h2) => (match h2[b]? with | some (.siter L2) => some (.val (.bool false) (h2.set b (.siter { L2 with st := .done, pend := some none }))) | _ => none)
                | (.exit i, _, h2) => (match h2[b]? with | some (.siter L2) => some (.val (.bool false) (h2.set b (.siter { L2 with st := .done, pend := some (some i) }))) | _ => none)
                | (.panic _, _, _) => none
            else none
          | _ => none)
        | _ => none
    else none
  | _ => none
def evFn (E : Env) (call : CallF) (n : Nat) (d : FnD) (args : List V) (h : Heap) : Option OpR :=
  if args.length ≤ d.nt then
    (yap E d.md call n d.body (initT d.nt args) h).bind fun r =>
      match r with
      | (.normal, s, h') | (.ret, s, h') => if getDf s = und then (ybp E d.res s h').map fun v => .val v h' else none
      | (.panic v, s, h') => if getDf s = und then some (.pan v h') else none
      | (.exit _, _, _) => none
  else none
def yea (E : Env) (args : List V) (h : Heap) (r : OpR) : Option OpR :=
  match r with
  | .val v h' => (fz E h' ycb v).bind fun g => if V.norefs args || g.flat then some (.val g h) else none
  | .pan v h' => (fz E h' ycb v).bind fun g => if V.norefs args || g.flat then some (.pan g h) else none
def evPre (E : Env) (md : FuncId → Mode) (call : CallF) (n : Nat) : List Code → List V → Heap → Option (List V × Heap)
  | [], s, h => some (s, h)
  | c :: cs, s, h => (yap E md call n c s h).bind fun r => match r with
    | (.normal, s', h') => evPre E md call n cs s' h'
    | _ => none
def evDef (E : Env) (call : CallF) (n : Nat) (G : GuardD) (caps : List V) (pv : V) (h : Heap) : Option Heap :=
  if caps.length ≤ G.gd.nt then
    (yap E G.gd.md call n G.grest (putT (initT G.gd.nt caps) G.rc.dst pv) h).bind fun r => match r with
      | (.normal, s, h') => (ybp E G.gd.res s h').map fun _ => h'
      | (.ret, s, h') => (ybp E G.gd.res s h').map fun _ => h'
      | _ => none
  else none
def yjd (E : Env) (call : CallF) (n : Nat) (G : GuardD) (args : List V) (h : Heap) : Option OpR :=
  if args.length ≤ G.d.nt then
    (evPre E G.d.md call n G.first (initT G.d.nt args) h).bind fun p =>
      (evOp E G.d.md call G.mkf.op p.1 p.2).bind fun q => match q with
        | .val v h2 => match getT (putT p.1 G.mkf.dst v) G.t with
          | .fn (.func g') caps =>
            if g' = G.g then
              (yap E G.d.md call n G.rest (putT (putT p.1 G.mkf.dst v) G.df.dst und) h2).bind fun r2 => match r2 with
                | (.normal, s4, h4) => (evDef E call n G caps .nili h4).bind fun h5 => (ybp E G.d.res s4 h5).map fun v => .val v h5
                | (.ret, s4, h4) => (evDef E call n G caps .nili h4).bind fun h5 => (ybp E G.d.res s4 h5).map fun v => .val v h5
                | (.panic pv, s4, h4) => (evDef E call n G caps pv h4).bind fun h5 => (ybp E G.d.res s4 h5).map fun v => .val v h5
                | _ => none
            else none
          | _ => none
        | .pan _ _ => none
  else none
def evAny (E : Env) (call : CallF) (n : Nat) (f : FuncId) (args : List V) (h : Heap) : Option OpR :=
  match E.fn f with
  | some d => evFn E call n d args h
  | none => (E.gd f).bind fun G => yjd E call n G args h
def callN (E : Env) : Nat → CallF
  | 0, _, _, _, _ => none
  | n + 1, m, f, args, h =>
    match m with
    | .own =>
      (args.mapM (fz E h ycb)).bind fun a =>
        match E.lib f with
        | some p => (p a).bind fun v => if V.norefs args || v.flat then some (.val v h) else none
        | none => (evAny E (callN E n) n f a []).bind (yea E args h)
    | .shared => evAny E (callN E n) n f args h
    | .round => ygj E (callN E n) n f args h
end Go.Sb

/- What it means that a plain value stands for a value of the machine, and a plain memory for its world. -/

namespace Go.Sb
inductive RG (ro : Nat → Prop) (w : World) : V → Value → Prop
 | bool (b : Bool) : RG ro w (.bool b) (.bool b)
 | int (k : IntKind) (n : Int) : RG ro w (.int k n) (.int k n)
 | ub (k : IntKind) (n : Int) : RG ro w (.ub k) (.int k n)
 | str (l : List UInt8) : RG ro w (.str l) (.string ⟨⟨l⟩⟩)
 | nilp : RG ro w .nilp (.pointer none)
 | nils : RG ro w .nils (.slice none 0 0)
 | nilm : RG ro w .nilm (.map none)
 | nilf : RG ro w .nilf .nilFunc
 | nili : RG ro w .nili .nilIface
 | emp (a : Addr) : RG ro w .emp (.slice (some a) 0 0)
 | rop (cs : List V) (a : Addr) (f : Nat → Value) (h1 : ∀ j, j < cs.length → w.cell? (a.add j) = some (f j)) (h2 : ∀ (j : Nat) (v : V), cs[j]? = some v → RG ro w v (f j)) (h3 : cs ≠ [] → ro a.block) : RG ro w (.rop cs) (.pointer (some a))
 | lst (es : List V) (a : Addr) (cap e : Nat) (f : Nat → Nat → Value) (h0 : ∀ (i : Nat) (v : V), es[i]? = some v → v.cells.length = e)
   (h1 : ∀ i j, i < es.length → j < e → w.cell? (a.add (i * e + j)) = some (f i j)) (h2 : ∀ (i j : Nat) (v u : V), es[i]? = some v → v.cells[j]? = some u → RG ro w u (f i j)) (h3 : es ≠ [] → ro a.block) (h4 : es.length ≤ cap) (h5 : ∀ (i : Nat) (v : V), es[i]? = some v → v.cells.all V.isCell = true) : RG ro w (.lst e es) (.slice (some a) es.length cap)
 | fn (f : Fn) (cs : List V) (xs : Array Value) (hl : cs.length = xs.size) (h : ∀ (i : Nat) (v : V) (x : Value), cs[i]? = some v → xs[i]? = some x → RG ro w v x) : RG ro w (.fn f cs) (.func f #[] xs)
 | ifc (t : TypeId) (v : V) (x : Value) (h : RG ro w v x) : RG ro w (.ifc t v) (.iface t x)
 | ifo (t u : TypeId) (x : Value) : RG ro w (.ifc t .junk) (.iface u x)
 | agg (cs : List V) (xs : Array Value) (hl : cs.length = xs.size) (h : ∀ (i : Nat) (v : V) (x : Value), cs[i]? = some v → xs[i]? = some x → RG ro w v x) : RG ro w (.agg cs) (.agg xs)
 | tup (cs : List V) (xs : Array Value) (hl : cs.length = xs.size) (h : ∀ (i : Nat) (v : V) (x : Value), cs[i]? = some v → xs[i]? = some x → RG ro w v x) : RG ro w (.tup cs) (.tuple xs)
theorem World.cell?_congr {w w' : World} {a : Addr} (h : w'.heap[a.block]? = w.heap[a.block]?) : w'.cell? a = w.cell? a := by
 unfold World.cell?; rw [h]
theorem Addr.block_add (a : Addr) (n : Nat) : (a.add n).block = a.block := by
 unfold Addr.add; split <;> rfl
theorem Addr.add_add (a : Addr) (m n : Nat) : (a.add m).add n = a.add (m + n) := by
 unfold Addr.add
 by_cases hm : m = 0
 ·subst hm; simp
 ·by_cases hn : n = 0
  ·subst hn; simp
  ·rw [if_neg hm, if_neg hn, if_neg (by omega)]
   simp [Nat.add_assoc]
theorem Addr.add_zero (a : Addr) : a.add 0 = a := by unfold Addr.add; simp
theorem Addr.add_mk (b o n : Nat) : (⟨b, o, none⟩ : Addr).add n = ⟨b, o + n, none⟩ := by
 unfold Addr.add
 by_cases h : n = 0
 ·subst h; simp
 ·rw [if_neg h]
theorem RG.mono {ro ro' : Nat → Prop} {w w' : World} (h1 : ∀ r, ro r → ro' r) (h2 : ∀ r, ro r → w'.heap[r]? = w.heap[r]?) {v : V} {x : Value} (h : RG ro w v x) : RG ro' w' v x := by
 induction h with
 | bool b => exact .bool b
 | int k n => exact .int k n
 | ub k n => exact .ub k n
 | str l => exact .str l
 | nilp => exact .nilp
 | nils => exact .nils
 | nilm => exact .nilm
 | nilf => exact .nilf
 | nili => exact .nili
 | emp a => exact .emp a
 | rop cs a f k1 k2 k3 ih =>
  refine .rop cs a f (fun j hj => ?_) (fun j v hv => ih j v hv) (fun hne => h1 _ (k3 hne))
  have hr : ro a.block := k3 (by intro e; simp [e] at hj)
  exact (World.cell?_congr (w := w) (w' := w') (by rw [Addr.block_add]; exact h2 _ hr)).trans (k1 j hj)
 | lst es a cap e f k0 k1 k2 k3 k4 k5 ih =>
  refine .lst es a cap e f k0 (fun i j hi hj => ?_) (fun i j v u hv hu => ih i j v u hv hu) (fun hne => h1 _ (k3 hne)) k4 k5
  have hr : ro a.block := k3 (by intro e; simp [e] at hi)
  exact (World.cell?_congr (w := w) (w' := w') (by rw [Addr.block_add]; exact h2 _ hr)).trans (k1 i j hi hj)
 | fn f cs xs hl k ih => exact .fn f cs xs hl fun i v x hv hx => ih i v x hv hx
 | ifc t v x k ih => exact .ifc t v x ih
 | ifo t u x => exact .ifo t u x
 | agg cs xs hl k ih => exact .agg cs xs hl fun i v x hv hx => ih i v x hv hx
 | tup cs xs hl k ih => exact .tup cs xs hl fun i v x hv hx => ih i v x hv hx
structure GlOk (ro : Nat → Prop) (w : World) (g : Nat) (cs : List V) : Prop where
 rg : RG ro w (.rop cs) (.pointer (some ⟨g, 0, none⟩))
 ro : ro g
 blk : ∃ C T fz, w.heap[g]? = some (.cells C T fz) ∧ C.size = cs.length
theorem GlOk.mono {ro ro' : Nat → Prop} {w w' : World} {g : Nat} {cs : List V} (h : GlOk ro w g cs) (h1 : ∀ r, ro r → ro' r) (h2 : ∀ r, ro r → w'.heap[r]? = w.heap[r]?) : GlOk ro' w' g cs := by
 obtain ⟨C, T, fz, b1, b2⟩ := h.blk
 exact ⟨h.rg.mono h1 h2, h1 _ h.ro, C, T, fz, (h2 _ h.ro).trans b1, b2⟩
structure Cx where
 ρ : Nat → Nat × Nat
 h : Heap
 ro : Nat → Prop
 w : World
 my : Nat → Prop
def hsz (h : Heap) (b : Nat) : Option Nat := match h[b]? with | some (.cells _ cs) => some cs.length | _ => none
def isMap (h : Heap) (b : Nat) : Prop := ∃ es, h[b]? = some (.map es)
def yez (h : Heap) (b : Nat) : Prop := ∃ L, h[b]? = some (.siter L)
inductive RV (c : Cx) : V → Value → Prop
 | g {v : V} {x : Value} (h : RG c.ro c.w v x) : RV c v x
 | ptr (b o sz : Nat) (x : Value) (hp : ∃ a, x = .pointer (some a)) (hb : b < c.h.length) (hs : ∀ n, hsz c.h b = some n → sz ≤ n) (hx : hsz c.h b = some sz → x = .pointer (some ⟨(c.ρ b).1, (c.ρ b).2 + o, none⟩)) : RV c (.ptr b o sz) x
 | sl (b o e len cap sz : Nat) (x : Value) (hp : ∃ a m, x = .slice (some a) len m ∧ cap ≤ m) (hb : b < c.h.length) (hs : ∀ n, hsz c.h b = some n → sz ≤ n)
   (hx : hsz c.h b = some sz → ∃ cap' C T fz, x = .slice (some ⟨(c.ρ b).1, (c.ρ b).2 + o, none⟩) len cap' ∧ cap ≤ cap' ∧ c.w.heap[(c.ρ b).1]? = some (.cells C T fz) ∧ (c.ρ b).2 + o + cap' * e ≤ C.size) : RV c (.sl b o e len cap sz) x
 | mp (b : Nat) (x : Value) (hp : ∃ r, x = .map (some r)) (hb : b < c.h.length) (hx : isMap c.h b → x = .map (some (c.ρ b).1)) : RV c (.mp b) x
 | it (b : Nat) (x : Value) (hp : ∃ l, x = .func (.yield l) #[] #[]) (hb : b < c.h.length) (hx : yez c.h b → x = .func (.yield (c.ρ b).1) #[] #[]) : RV c (.it b) x
 | fn (f : Fn) (cs : List V) (xs : Array Value) (hl : cs.length = xs.size) (h : ∀ (i : Nat) (v : V) (x : Value), cs[i]? = some v → xs[i]? = some x → RV c v x) : RV c (.fn f cs) (.func f #[] xs)
 | bm (f : FuncId) (cs : List V) (xs : Array Value) (hl : cs.length = xs.size) (h : ∀ (i : Nat) (v : V) (x : Value), cs[i]? = some v → xs[i]? = some x → RV c v x) : RV c (.bm f cs) (.func (.func f) xs #[])
 | ifc (t : TypeId) (v : V) (x : Value) (h : RV c v x) : RV c (.ifc t v) (.iface t x)
 | agg (cs : List V) (xs : Array Value) (hl : cs.length = xs.size) (h : ∀ (i : Nat) (v : V) (x : Value), cs[i]? = some v → xs[i]? = some x → RV c v x) : RV c (.agg cs) (.agg xs)
 | tup (cs : List V) (xs : Array Value) (hl : cs.length = xs.size) (h : ∀ (i : Nat) (v : V) (x : Value), cs[i]? = some v → xs[i]? = some x → RV c v x) : RV c (.tup cs) (.tuple xs)
 | junk (x : Value) : RV c .junk x
 | raw (r : Nat) : RV c (.raw r) (.pointer (some ⟨r, 0, none⟩))
structure Ext (c c' : Cx) : Prop where
 ro : ∀ r, c.ro r → c'.ro r
 same : ∀ r, c.ro r → c'.w.heap[r]? = c.w.heap[r]?
 len : c.h.length ≤ c'.h.length
 blk : ∀ b, b < c.h.length → ∀ n', hsz c'.h b = some n' → ∃ n, hsz c.h b = some n ∧ n ≤ n' ∧ (n = n' → c'.ρ b = c.ρ b)
 mp : ∀ b, b < c.h.length → isMap c'.h b → isMap c.h b ∧ c'.ρ b = c.ρ b
 it : ∀ b, b < c.h.length → yez c'.h b → yez c.h b ∧ c'.ρ b = c.ρ b
 size : ∀ (r : Nat) C T fz, c.w.heap[r]? = some (.cells C T fz) → ∃ C' fz', c'.w.heap[r]? = some (.cells C' T fz') ∧ C'.size = C.size
 grow : c.w.heap.size ≤ c'.w.heap.size
 mine : ∀ r, c'.my r → c.my r ∨ c.w.heap.size ≤ r
 frame : ∀ r, r < c.w.heap.size → ¬ c.my r → c'.w.heap[r]? = c.w.heap[r]?
 ro2 : ∀ r, c'.ro r → c.ro r ∨ c.w.heap.size ≤ r
 rest : c'.w.os = c.w.os ∧ c'.w.tape = c.w.tape ∧ c'.w.output = c.w.output
theorem Ext.refl (c : Cx) : Ext c c := ⟨fun _ h => h, fun _ _ => rfl, Nat.le_refl _, fun _ _ n hn => ⟨n, hn, Nat.le_refl _, fun _ => rfl⟩, fun _ _ h => ⟨h, rfl⟩, fun _ _ h => ⟨h, rfl⟩, fun _ C _ fz h => ⟨C, fz, h, rfl⟩, Nat.le_refl _, fun _ h => .inl h, fun _ _ _ => rfl, fun _ h => .inl h, ⟨rfl, rfl, rfl⟩⟩
theorem Ext.trans {a b c : Cx} (h1 : Ext a b) (h2 : Ext b c) : Ext a c where
 ro r h := h2.ro r (h1.ro r h)
 same r h := (h2.same r (h1.ro r h)).trans (h1.same r h)
 len := Nat.le_trans h1.len h2.len
 blk i hi n' hn' := by
  obtain ⟨n, e1, e2, e3⟩ := h2.blk i (Nat.lt_of_lt_of_le hi h1.len) n' hn'
  obtain ⟨m, d1, d2, d3⟩ := h1.blk i hi n e1
  exact ⟨m, d1, Nat.le_trans d2 e2, fun e => by
   have : n = n' := by omega
   have : m = n := by omega
   rw [e3 (by omega), d3 (by omega)]⟩
 mp i hi hm := by
  obtain ⟨d1, d2⟩ := h2.mp i (Nat.lt_of_lt_of_le hi h1.len) hm
  obtain ⟨e1, e2⟩ := h1.mp i hi d1
  exact ⟨e1, d2.trans e2⟩
 it i hi hm := by
  obtain ⟨d1, d2⟩ := h2.it i (Nat.lt_of_lt_of_le hi h1.len) hm
  obtain ⟨e1, e2⟩ := h1.it i hi d1
  exact ⟨e1, d2.trans e2⟩
 size r C T fz hr := by
  obtain ⟨C', fz', e1, e2⟩ := h1.size r C T fz hr
  obtain ⟨C'', fz'', d1, d2⟩ := h2.size r C' T fz' e1
  exact ⟨C'', fz'', d1, d2.trans e2⟩
 grow := Nat.le_trans h1.grow h2.grow
 mine r h := (h2.mine r h).elim (h1.mine r) (fun k => .inr (Nat.le_trans h1.grow k))
 frame r hr h := (h2.frame r (Nat.lt_of_lt_of_le hr h1.grow) (fun k => (h1.mine r k).elim h (fun q => by omega))).trans (h1.frame r hr h)
 ro2 r h := (h2.ro2 r h).elim (h1.ro2 r) (fun k => .inr (Nat.le_trans h1.grow k))
 rest := ⟨h2.rest.1.trans h1.rest.1, h2.rest.2.1.trans h1.rest.2.1, h2.rest.2.2.trans h1.rest.2.2⟩
structure ExtW (c c' : Cx) : Prop where
 ro : ∀ r, c.ro r → c'.ro r
 same : ∀ r, c.ro r → c'.w.heap[r]? = c.w.heap[r]?
 len : c.h.length ≤ c'.h.length
 blk : ∀ b, b < c.h.length → ∀ n', hsz c'.h b = some n' → ∃ n, hsz c.h b = some n ∧ n ≤ n' ∧ (n = n' → c'.ρ b = c.ρ b)
 mp : ∀ b, b < c.h.length → isMap c'.h b → isMap c.h b ∧ c'.ρ b = c.ρ b
 it : ∀ b, b < c.h.length → yez c'.h b → yez c.h b ∧ c'.ρ b = c.ρ b
 size : ∀ (r : Nat) C T fz, c.w.heap[r]? = some (.cells C T fz) → ∃ C' fz', c'.w.heap[r]? = some (.cells C' T fz') ∧ C'.size = C.size
theorem Ext.wk {c c' : Cx} (h : Ext c c') : ExtW c c' := ⟨h.ro, h.same, h.len, h.blk, h.mp, h.it, h.size⟩
theorem RV.monoW {c c' : Cx} (hE : ExtW c c') {v : V} {x : Value} (h : RV c v x) : RV c' v x := by
 induction h with
 | g h => exact .g (h.mono hE.ro hE.same)
 | ptr b o sz x hp hb hs hx =>
  refine .ptr b o sz x hp (Nat.lt_of_lt_of_le hb hE.len) (fun n hn => ?_) (fun hn => ?_)
  ·obtain ⟨m, e1, e2, _⟩ := hE.blk b hb n hn
   exact Nat.le_trans (hs m e1) e2
  ·obtain ⟨m, e1, e2, e3⟩ := hE.blk b hb sz hn
   have := hs m e1
   have hm : m = sz := by omega
   subst hm
   rw [e3 rfl]; exact hx e1
 | sl b o e len cap sz x hp hb hs hx =>
  refine .sl b o e len cap sz x hp (Nat.lt_of_lt_of_le hb hE.len) (fun n hn => ?_) (fun hn => ?_)
  ·obtain ⟨m, e1, e2, _⟩ := hE.blk b hb n hn
   exact Nat.le_trans (hs m e1) e2
  ·obtain ⟨m, e1, e2, e3⟩ := hE.blk b hb sz hn
   have := hs m e1
   have hm : m = sz := by omega
   subst hm
   rw [e3 rfl]
   obtain ⟨cap', C, T, fz, q1, q2, q3, q4⟩ := hx e1
   obtain ⟨C', fz', r1, r2⟩ := hE.size _ C T fz q3
   exact ⟨cap', C', T, fz', q1, q2, r1, by omega⟩
 | mp b x hp hb hx =>
  refine .mp b x hp (Nat.lt_of_lt_of_le hb hE.len) fun hm => ?_
  obtain ⟨e1, e2⟩ := hE.mp b hb hm
  rw [e2]; exact hx e1
 | it b x hp hb hx =>
  refine .it b x hp (Nat.lt_of_lt_of_le hb hE.len) fun hm => ?_
  obtain ⟨e1, e2⟩ := hE.it b hb hm
  rw [e2]; exact hx e1
 | fn f cs xs hl k ih => exact .fn f cs xs hl fun i v x hv hx => ih i v x hv hx
 | bm f cs xs hl k ih => exact .bm f cs xs hl fun i v x hv hx => ih i v x hv hx
 | ifc t v x k ih => exact .ifc t v x ih
 | agg cs xs hl k ih => exact .agg cs xs hl fun i v x hv hx => ih i v x hv hx
 | tup cs xs hl k ih => exact .tup cs xs hl fun i v x hv hx => ih i v x hv hx
 | junk x => exact .junk x
 | raw r => exact .raw r
theorem RV.mono {c c' : Cx} (hE : Ext c c') {v : V} {x : Value} (h : RV c v x) : RV c' v x := h.monoW hE.wk
def RVs (c : Cx) (vs : List V) (xs : List Value) : Prop := vs.length = xs.length ∧ ∀ (i : Nat) (v : V) (x : Value), vs[i]? = some v → xs[i]? = some x → RV c v x
theorem RVs.nil (c : Cx) : RVs c [] [] := ⟨rfl, fun i v x h => by simp at h⟩
theorem RVs.cons {c : Cx} {v : V} {x : Value} {vs : List V} {xs : List Value} (h : RV c v x) (hs : RVs c vs xs) : RVs c (v :: vs) (x :: xs) :=
 ⟨by simp [hs.1], fun i u y hu hy => by
  cases i with
  | zero => simp at hu hy; subst hu; subst hy; exact h
  | succ i => simp at hu hy; exact hs.2 i u y hu hy⟩
theorem RVs.head {c : Cx} {v : V} {x : Value} {vs : List V} {xs : List Value} (h : RVs c (v :: vs) (x :: xs)) : RV c v x := h.2 0 v x rfl rfl
theorem RVs.tail {c : Cx} {v : V} {x : Value} {vs : List V} {xs : List Value} (h : RVs c (v :: vs) (x :: xs)) : RVs c vs xs :=
 ⟨by have := h.1; simpa using this, fun i u y hu hy => h.2 (i + 1) u y (by simpa using hu) (by simpa using hy)⟩
theorem RVs.cons_left {c : Cx} {v : V} {vs : List V} {ys : List Value} (h : RVs c (v :: vs) ys) : ∃ x xs, ys = x :: xs ∧ RV c v x ∧ RVs c vs xs := by
 cases ys with
 | nil => have := h.1; simp at this
 | cons x xs => exact ⟨x, xs, rfl, h.head, h.tail⟩
theorem RVs.nil_left {c : Cx} {ys : List Value} (h : RVs c [] ys) : ys = [] := by
 cases ys with
 | nil => rfl
 | cons x xs => have := h.1; simp at this
theorem RVs.append {c : Cx} {vs us : List V} {xs ys : List Value} (h1 : RVs c vs xs) (h2 : RVs c us ys) : RVs c (vs ++ us) (xs ++ ys) := by
 refine ⟨by simp [h1.1, h2.1], fun i v x hv hx => ?_⟩
 by_cases hi : i < vs.length
 ·rw [List.getElem?_append_left hi] at hv
  rw [List.getElem?_append_left (by rw [← h1.1]; exact hi)] at hx
  exact h1.2 i v x hv hx
 ·rw [List.getElem?_append_right (by omega)] at hv
  rw [List.getElem?_append_right (by rw [← h1.1]; omega), ← h1.1] at hx
  exact h2.2 _ v x hv hx
theorem RVs.take {c : Cx} {vs : List V} {xs : List Value} (h : RVs c vs xs) (n : Nat) : RVs c (vs.take n) (xs.take n) :=
 ⟨by simp [h.1], fun i v x hv hx => by
  rw [List.getElem?_take] at hv hx
  split at hv
  ·rename_i hi; rw [if_pos hi] at hx; exact h.2 i v x hv hx
  ·cases hv⟩
theorem RVs.drop {c : Cx} {vs : List V} {xs : List Value} (h : RVs c vs xs) (n : Nat) : RVs c (vs.drop n) (xs.drop n) :=
 ⟨by simp [h.1], fun i v x hv hx => by
  rw [List.getElem?_drop] at hv hx
  exact h.2 _ v x hv hx⟩
theorem RVs.monoW {c c' : Cx} (hE : ExtW c c') {vs : List V} {xs : List Value} (h : RVs c vs xs) : RVs c' vs xs := ⟨h.1, fun i v x hv hx => (h.2 i v x hv hx).monoW hE⟩
theorem RVs.mono {c c' : Cx} (hE : Ext c c') {vs : List V} {xs : List Value} (h : RVs c vs xs) : RVs c' vs xs := ⟨h.1, fun i v x hv hx => (h.2 i v x hv hx).mono hE⟩
theorem RVs.get {c : Cx} {vs : List V} {xs : List Value} (h : RVs c vs xs) {i : Nat} {v : V} (hv : vs[i]? = some v) : ∃ x, xs[i]? = some x ∧ RV c v x := by
 have hi : i < xs.length := by rw [← h.1]; exact (List.getElem?_eq_some_iff.1 hv).1
 exact ⟨xs[i], List.getElem?_eq_getElem hi, h.2 i v _ hv (List.getElem?_eq_getElem hi)⟩
/-! Opening -/
theorem RV.bool_inv {c : Cx} {b : Bool} {x : Value} (h : RV c (.bool b) x) : x = .bool b := by cases h with | g h => cases h; rfl
theorem RV.int_inv {c : Cx} {k : IntKind} {n : Int} {x : Value} (h : RV c (.int k n) x) : x = .int k n := by cases h with | g h => cases h; rfl
theorem RG.ub_inv {ro : Nat → Prop} {w : World} {k : IntKind} {x : Value} (h : RG ro w (.ub k) x) : ∃ n, x = .int k n := by cases h with | ub k n => exact ⟨n, rfl⟩
theorem RV.str_inv {c : Cx} {l : List UInt8} {x : Value} (h : RV c (.str l) x) : x = .string ⟨⟨l⟩⟩ := by cases h with | g h => cases h; rfl
theorem RV.nilp_inv {c : Cx} {x : Value} (h : RV c .nilp x) : x = .pointer none := by cases h with | g h => cases h; rfl
theorem RV.nils_inv {c : Cx} {x : Value} (h : RV c .nils x) : x = .slice none 0 0 := by cases h with | g h => cases h; rfl
theorem RV.nilm_inv {c : Cx} {x : Value} (h : RV c .nilm x) : x = .map none := by cases h with | g h => cases h; rfl
theorem RV.nilf_inv {c : Cx} {x : Value} (h : RV c .nilf x) : x = .nilFunc := by cases h with | g h => cases h; rfl
theorem RV.nili_inv {c : Cx} {x : Value} (h : RV c .nili x) : x = .nilIface := by cases h with | g h => cases h; rfl
theorem RV.emp_inv {c : Cx} {x : Value} (h : RV c .emp x) : ∃ a, x = .slice (some a) 0 0 := by cases h with | g h => cases h with | emp a => exact ⟨a, rfl⟩
theorem RV.agg_inv {c : Cx} {cs : List V} {x : Value} (h : RV c (.agg cs) x) : ∃ xs, x = .agg xs ∧ RVs c cs xs.toList := by
 cases h with
 | g h => cases h with
  | agg _ xs hl k => exact ⟨xs, rfl, by simpa using hl, fun i v x hv hx => .g (k i v x hv (by simpa using hx))⟩
 | agg _ xs hl k => exact ⟨xs, rfl, by simpa using hl, fun i v x hv hx => k i v x hv (by simpa using hx)⟩
theorem RV.tup_inv {c : Cx} {cs : List V} {x : Value} (h : RV c (.tup cs) x) : ∃ xs, x = .tuple xs ∧ RVs c cs xs.toList := by
 cases h with
 | g h => cases h with
  | tup _ xs hl k => exact ⟨xs, rfl, by simpa using hl, fun i v x hv hx => .g (k i v x hv (by simpa using hx))⟩
 | tup _ xs hl k => exact ⟨xs, rfl, by simpa using hl, fun i v x hv hx => k i v x hv (by simpa using hx)⟩
theorem RV.fn_inv {c : Cx} {f : Fn} {cs : List V} {x : Value} (h : RV c (.fn f cs) x) : ∃ xs, x = .func f #[] xs ∧ RVs c cs xs.toList := by
 cases h with
 | g h => cases h with
  | fn _ _ xs hl k => exact ⟨xs, rfl, by simpa using hl, fun i v x hv hx => .g (k i v x hv (by simpa using hx))⟩
 | fn _ _ xs hl k => exact ⟨xs, rfl, by simpa using hl, fun i v x hv hx => k i v x hv (by simpa using hx)⟩
theorem RV.bm_inv {c : Cx} {f : FuncId} {cs : List V} {x : Value} (h : RV c (.bm f cs) x) : ∃ xs, x = .func (.func f) xs #[] ∧ RVs c cs xs.toList := by
 cases h with
 | g h => cases h
 | bm _ _ xs hl k => exact ⟨xs, rfl, by simpa using hl, fun i v x hv hx => k i v x hv (by simpa using hx)⟩
theorem RV.ifc_inv {c : Cx} {t : TypeId} {v : V} {x : Value} (h : RV c (.ifc t v) x) (hj : v ≠ .junk) : ∃ y, x = .iface t y ∧ RV c v y := by
 cases h with
 | g h => cases h with
  | ifc _ _ y k => exact ⟨y, rfl, .g k⟩
  | ifo _ _ _ => exact absurd rfl hj
 | ifc _ _ y k => exact ⟨y, rfl, k⟩
theorem RV.ifc_any {c : Cx} {t : TypeId} {v : V} {x : Value} (h : RV c (.ifc t v) x) : ∃ u y, x = .iface u y := by
 cases h with
 | g h => cases h with
  | ifc _ _ y k => exact ⟨_, y, rfl⟩
  | ifo _ _ y => exact ⟨_, y, rfl⟩
 | ifc _ _ y k => exact ⟨_, y, rfl⟩
theorem RV.ptr_inv {c : Cx} {b o sz : Nat} {x : Value} (h : RV c (.ptr b o sz) x) (hs : hsz c.h b = some sz) : x = .pointer (some ⟨(c.ρ b).1, (c.ρ b).2 + o, none⟩) := by
 cases h with
 | g h => cases h
 | ptr _ _ _ _ _ _ _ hx => exact hx hs
theorem RV.rop_inv {c : Cx} {cs : List V} {x : Value} (h : RV c (.rop cs) x) : ∃ (a : Addr) (f : Nat → Value), x = .pointer (some a) ∧ (∀ j, j < cs.length → c.w.cell? (a.add j) = some (f j)) ∧ (∀ (j : Nat) (v : V), cs[j]? = some v → RG c.ro c.w v (f j)) ∧ (cs ≠ [] → c.ro a.block) := by
 cases h with | g h => cases h with | rop _ a f h1 h2 h3 => exact ⟨a, f, rfl, h1, h2, h3⟩
theorem RV.lst_inv {c : Cx} {e : Nat} {es : List V} {x : Value} (h : RV c (.lst e es) x) : ∃ (a : Addr) (cap : Nat) (f : Nat → Nat → Value), x = .slice (some a) es.length cap ∧ (∀ (i : Nat) (v : V), es[i]? = some v → v.cells.length = e) ∧
  (∀ i j, i < es.length → j < e → c.w.cell? (a.add (i * e + j)) = some (f i j)) ∧ (∀ (i j : Nat) (v u : V), es[i]? = some v → v.cells[j]? = some u → RG c.ro c.w u (f i j)) ∧ (es ≠ [] → c.ro a.block) ∧ es.length ≤ cap ∧ (∀ (i : Nat) (v : V), es[i]? = some v → v.cells.all V.isCell = true) := by
 cases h with | g h => cases h with | lst _ a cap e f h0 h1 h2 h3 h4 h5 => exact ⟨a, cap, f, rfl, h0, h1, h2, h3, h4, h5⟩
theorem RV.sl_inv {c : Cx} {b o e len cap sz : Nat} {x : Value} (h : RV c (.sl b o e len cap sz) x) (hs : hsz c.h b = some sz) :
  ∃ cap' C T fz, x = .slice (some ⟨(c.ρ b).1, (c.ρ b).2 + o, none⟩) len cap' ∧ cap ≤ cap' ∧ c.w.heap[(c.ρ b).1]? = some (.cells C T fz) ∧ (c.ρ b).2 + o + cap' * e ≤ C.size := by
 cases h with
 | g h => cases h
 | sl _ _ _ _ _ _ _ _ _ _ hx => exact hx hs
theorem RV.mp_inv {c : Cx} {b : Nat} {x : Value} (h : RV c (.mp b) x) (hm : isMap c.h b) : x = .map (some (c.ρ b).1) := by
 cases h with
 | g h => cases h
 | mp _ _ _ _ hx => exact hx hm
theorem RV.it_inv {c : Cx} {b : Nat} {x : Value} (h : RV c (.it b) x) (hm : yez c.h b) : x = .func (.yield (c.ρ b).1) #[] #[] := by
 cases h with
 | g h => cases h
 | it _ _ _ _ hx => exact hx hm
theorem RV.agg_mk {c : Cx} {cs : List V} {xs : List Value} (h : RVs c cs xs) : RV c (.agg cs) (.agg ⟨xs⟩) :=
 .agg cs ⟨xs⟩ (by simpa using h.1) fun i v x hv hx => h.2 i v x hv (by simpa using hx)
theorem RV.tup_mk {c : Cx} {cs : List V} {xs : List Value} (h : RVs c cs xs) : RV c (.tup cs) (.tuple ⟨xs⟩) :=
 .tup cs ⟨xs⟩ (by simpa using h.1) fun i v x hv hx => h.2 i v x hv (by simpa using hx)
theorem RV.fn_mk {c : Cx} {f : Fn} {cs : List V} {xs : List Value} (h : RVs c cs xs) : RV c (.fn f cs) (.func f #[] ⟨xs⟩) :=
 .fn f cs ⟨xs⟩ (by simpa using h.1) fun i v x hv hx => h.2 i v x hv (by simpa using hx)
theorem RV.bm_mk {c : Cx} {f : FuncId} {cs : List V} {xs : List Value} (h : RVs c cs xs) : RV c (.bm f cs) (.func (.func f) ⟨xs⟩ #[]) :=
 .bm f cs ⟨xs⟩ (by simpa using h.1) fun i v x hv hx => h.2 i v x hv (by simpa using hx)
theorem RV.undM (c : Cx) : RV c Sb.und undef := RV.tup_mk (RVs.nil c)
theorem RV.und_inv {c : Cx} {x : Value} (h : RV c Sb.und x) : x = undef := by
 obtain ⟨xs, rfl, hs⟩ := h.tup_inv
 have := hs.nil_left
 cases xs; simp at this; subst this; rfl
theorem RV.cells {c : Cx} {v : V} {x : Value} (h : RV c v x) (hc : v.cells.all V.isCell = true) : RVs c v.cells x.cells.toList := by
 cases v with
 | agg cs => obtain ⟨xs, rfl, hs⟩ := h.agg_inv; exact hs
 | junk => simp [V.cells, V.isCell] at hc
 | raw => simp [V.cells, V.isCell] at hc
 | tup cs => simp [V.cells, V.isCell] at hc
 | ptr b o sz =>
  have : x.cells = #[x] := by cases h with | g h => cases h | ptr _ _ _ _ hp _ _ _ => obtain ⟨a, rfl⟩ := hp; rfl
  rw [this]; exact RVs.cons h (RVs.nil c)
 | sl b o e len cap sz =>
  have : x.cells = #[x] := by cases h with | g h => cases h | sl _ _ _ _ _ _ _ hp _ _ _ => obtain ⟨a, m, rfl, _⟩ := hp; rfl
  rw [this]; exact RVs.cons h (RVs.nil c)
 | it b =>
  have : x.cells = #[x] := by cases h with | g h => cases h | it _ _ hp _ _ => obtain ⟨a, rfl⟩ := hp; rfl
  rw [this]; exact RVs.cons h (RVs.nil c)
 | mp b =>
  have : x.cells = #[x] := by cases h with | g h => cases h | mp _ _ hp _ _ => obtain ⟨a, rfl⟩ := hp; rfl
  rw [this]; exact RVs.cons h (RVs.nil c)
 | _ =>
  have : x.cells = #[x] := by
   cases h with
   | g h => cases h <;> rfl
   | _ => rfl
  rw [this]; exact RVs.cons h (RVs.nil c)
def live (h : Heap) (b : Nat) : Prop := ∃ k, h[b]? = some k ∧ k ≠ .dead
def FzE (lo hi n : Nat) : Prop := lo = hi ∨ n ≤ lo
def CellsOk (c : Cx) (b : Nat) (T : TypeId) (cs : List V) : Prop :=
 ∃ (C : Array Value) (lo hi : Nat), c.w.heap[(c.ρ b).1]? = some (.cells C T (lo, hi)) ∧ (c.ρ b).2 + cs.length ≤ C.size ∧
  (∀ (j : Nat) (v : V), cs[j]? = some v → ∃ x, C[(c.ρ b).2 + j]? = some x ∧ RV c v x) ∧ (∀ j, (c.ρ b).2 ≤ j → j < C.size → ¬ (lo ≤ j ∧ j < hi)) ∧ cs.all V.isCell = true ∧ FzE lo hi C.size
def MapOk (c : Cx) (b : Nat) (es : List (V × V)) : Prop :=
 ∃ (xs : Array MapEntry) (clock : Nat), c.w.heap[(c.ρ b).1]? = some (.map xs clock) ∧ xs.size = es.length ∧ (clock = xs.size ∧ ∀ (i : Nat) (e : MapEntry), xs[i]? = some e → e.born = i) ∧
  ∀ (i : Nat) (k v : V), es[i]? = some (k, v) → ∃ e, xs[i]? = some e ∧ RV c k e.key ∧ RV c v e.val
def pendC : Option Nat → Code
 | none => .ret
 | some i => .exit i
structure LoopOk (c : Cx) (L : LoopD) (lp : Loop) : Prop where
 st : lp.state = L.st
 pend : lp.pending = L.pend.map pendC
 ps : lp.params.toList = L.params
 asg : lp.assign = L.assign
 body : lp.body = L.body
 tmps : RVs c L.tmps lp.tmps.toList
def IterOk (c : Cx) (b : Nat) (L : LoopD) : Prop := ∃ lp, c.w.heap[(c.ρ b).1]? = some (.loop lp) ∧ LoopOk c L lp
theorem LoopOk.mono {c c' : Cx} (hE : Ext c c') {L : LoopD} {lp : Loop} (h : LoopOk c L lp) : LoopOk c' L lp := ⟨h.st, h.pend, h.ps, h.asg, h.body, h.tmps.mono hE⟩
theorem IterOk.mono {c c' : Cx} (hE : Ext c c') {b : Nat} {L : LoopD} (h : IterOk c b L) (hw : c'.w.heap[(c.ρ b).1]? = c.w.heap[(c.ρ b).1]?) (hρ : c'.ρ b = c.ρ b) : IterOk c' b L := by
 obtain ⟨lp, h1, h2⟩ := h
 exact ⟨lp, by rw [hρ, hw]; exact h1, h2.mono hE⟩
structure Rel (E : Env) (c : Cx) : Prop where
 cells : ∀ b T cs, c.h[b]? = some (.cells T cs) → CellsOk c b T cs
 maps : ∀ b es, c.h[b]? = some (.map es) → MapOk c b es
 iters : ∀ b L, c.h[b]? = some (.siter L) → IterOk c b L
 own : ∀ b, live c.h b → ¬ c.ro (c.ρ b).1
 inj : ∀ b b', live c.h b → live c.h b' → (c.ρ b).1 = (c.ρ b').1 → b = b'
 rolt : ∀ r, c.ro r → r < c.w.heap.size
 gl : ∀ g cs, E.gl g = some cs → GlOk c.ro c.w g cs
 mine : ∀ b, live c.h b → c.my (c.ρ b).1
 ali : ∀ b T cs d, c.h[b]? = some (.cells T cs) → E.ty T = some d → (c.ρ b).2 % d.size = 0
theorem Rel.lt {E : Env} {c : Cx} (hR : Rel E c) {b : Nat} (hl : live c.h b) : (c.ρ b).1 < c.w.heap.size := by
 obtain ⟨k, hk, hne⟩ := hl
 cases k with
 | dead => exact absurd rfl hne
 | cells T cs => obtain ⟨C, lo, hi, h, _⟩ := hR.cells b T cs hk; exact (Array.getElem?_eq_some_iff.1 h).1
 | map es => obtain ⟨C, lo, h, _⟩ := hR.maps b es hk; exact (Array.getElem?_eq_some_iff.1 h).1
 | siter L => obtain ⟨lp, h, _⟩ := hR.iters b L hk; exact (Array.getElem?_eq_some_iff.1 h).1
theorem CellsOk.mono {c c' : Cx} (hE : Ext c c') {b : Nat} {T : TypeId} {cs : List V} (h : CellsOk c b T cs) (hw : c'.w.heap[(c.ρ b).1]? = c.w.heap[(c.ρ b).1]?) (hρ : c'.ρ b = c.ρ b) : CellsOk c' b T cs := by
 obtain ⟨C, lo, hi, h1, h2, h3, h4, h5⟩ := h
 refine ⟨C, lo, hi, by rw [hρ, hw]; exact h1, by rw [hρ]; exact h2, fun j v hv => ?_, by rw [hρ]; exact h4, h5⟩
 obtain ⟨x, hx, hr⟩ := h3 j v hv
 exact ⟨x, by rw [hρ]; exact hx, hr.mono hE⟩
theorem MapOk.mono {c c' : Cx} (hE : Ext c c') {b : Nat} {es : List (V × V)} (h : MapOk c b es) (hw : c'.w.heap[(c.ρ b).1]? = c.w.heap[(c.ρ b).1]?) (hρ : c'.ρ b = c.ρ b) : MapOk c' b es := by
 obtain ⟨xs, clock, h1, h2, h0, h3⟩ := h
 refine ⟨xs, clock, by rw [hρ, hw]; exact h1, h2, h0, fun i k v hv => ?_⟩
 obtain ⟨e, he, hk, hr⟩ := h3 i k v hv
 exact ⟨e, he, hk.mono hE, hr.mono hE⟩
theorem Rel.touch {E : Env} {c c' : Cx} (hR : Rel E c) (hE : Ext c c') (b0 : Nat) (hro : c'.ro = c.ro)
  (hh : ∀ b, b ≠ b0 → c'.h[b]? = c.h[b]?) (hρ : ∀ b, b ≠ b0 → c'.ρ b = c.ρ b)
  (hw : ∀ b, b ≠ b0 → live c.h b → c'.w.heap[(c.ρ b).1]? = c.w.heap[(c.ρ b).1]?) (hsz : c.w.heap.size ≤ c'.w.heap.size)
  (hmy : ∀ r, c.my r → c'.my r) (hmy0 : live c'.h b0 → c'.my (c'.ρ b0).1)
  (hal0 : ∀ T cs d, c'.h[b0]? = some (.cells T cs) → E.ty T = some d → (c'.ρ b0).2 % d.size = 0)
  (h0c : ∀ T cs, c'.h[b0]? = some (.cells T cs) → CellsOk c' b0 T cs) (h0m : ∀ es, c'.h[b0]? = some (.map es) → MapOk c' b0 es)
  (h0i : ∀ L, c'.h[b0]? = some (.siter L) → IterOk c' b0 L)
  (h0o : live c'.h b0 → ¬ c.ro (c'.ρ b0).1 ∧ ∀ b, b ≠ b0 → live c.h b → (c.ρ b).1 ≠ (c'.ρ b0).1) : Rel E c' := by
 have hl : ∀ b, b ≠ b0 → live c'.h b → live c.h b := fun b hb ⟨k, hk, hne⟩ => ⟨k, by rw [← hh b hb]; exact hk, hne⟩
 refine ⟨fun b T cs hb => ?_, fun b es hb => ?_, fun b L hb => ?_, fun b hb => ?_, fun b b' hb hb' he => ?_, fun r hr => ?_, fun g cs hg => ?_, fun b hb => ?_, fun b T cs d hb hd => ?_⟩
 ·by_cases e : b = b0
  ·subst e; exact h0c T cs hb
  ·rw [hh b e] at hb
   exact (hR.cells b T cs hb).mono hE (hw b e ⟨_, hb, by simp⟩) (hρ b e)
 ·by_cases e : b = b0
  ·subst e; exact h0m es hb
  ·rw [hh b e] at hb
   exact (hR.maps b es hb).mono hE (hw b e ⟨_, hb, by simp⟩) (hρ b e)
 ·by_cases e : b = b0
  ·subst e; exact h0i L hb
  ·rw [hh b e] at hb
   exact (hR.iters b L hb).mono hE (hw b e ⟨_, hb, by simp⟩) (hρ b e)
 ·rw [hro]
  by_cases e : b = b0
  ·subst e; exact (h0o hb).1
  ·rw [hρ b e]; exact hR.own b (hl b e hb)
 ·by_cases e : b = b0
  ·by_cases e' : b' = b0
   ·omega
   ·subst e; exact absurd (by rw [hρ b' e'] at he; exact he.symm) ((h0o hb).2 b' e' (hl b' e' hb'))
  ·by_cases e' : b' = b0
   ·subst e'; exact absurd (by rw [hρ b e] at he; exact he) ((h0o hb').2 b e (hl b e hb))
   ·rw [hρ b e, hρ b' e'] at he; exact hR.inj b b' (hl b e hb) (hl b' e' hb') he
 ·rw [hro] at hr; exact Nat.lt_of_lt_of_le (hR.rolt r hr) hsz
 ·exact (hR.gl g cs hg).mono hE.ro hE.same
 ·by_cases e : b = b0
  ·subst e; exact hmy0 hb
  ·rw [hρ b e]; exact hmy _ (hR.mine b (hl b e hb))
 ·by_cases e : b = b0
  ·subst e; exact hal0 T cs d hb hd
  ·rw [hρ b e]; rw [hh b e] at hb; exact hR.ali b T cs d hb hd
end Go.Sb
