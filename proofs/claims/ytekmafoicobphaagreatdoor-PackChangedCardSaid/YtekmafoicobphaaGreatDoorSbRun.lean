/- The evaluator once more, ars a proposition: what has to be shown for it to answer, and what then holds of its answer. Symbolic values. -/
import Derived.Test.YtekmafoicobphaaGreatDoorSbLib
set_option linter.unusedVariables false
set_option linter.unusedSimpArgs false
namespace Go.Sb
def Evt (p : Nat → Prop) : Prop := ∃ N, ∀ n, N ≤ n → p n
theorem Evt.all {p : Nat → Prop} (h : ∀ n, p n) : Evt p := ⟨0, fun n _ => h n⟩
theorem Evt.and {p q r : Nat → Prop} (hp : Evt p) (hq : Evt q) (h : ∀ n, p n → q n → r n) : Evt r := by
 obtain ⟨N, h1⟩ := hp
 obtain ⟨M, h2⟩ := hq
 exact ⟨max N M, fun n hn => h n (h1 n (by omega)) (h2 n (by omega))⟩
theorem Evt.imp {p q : Nat → Prop} (hp : Evt p) (h : ∀ n, p n → q n) : Evt q := by
 obtain ⟨N, h1⟩ := hp
 exact ⟨N, fun n hn => h n (h1 n hn)⟩
theorem Evt.ge (k : Nat) : Evt (fun n => k ≤ n) := ⟨k, fun n h => h⟩
def Has (E : Env) (m : Mode) (f : FuncId) (args : List V) (h : Heap) (r : OpR) : Prop := Evt fun n => callN E n m f args h = some r
def bindK {α : Type} (x : Option α) (K : α → Prop) : Prop := match x with | some v => K v | none => False
theorem bindK_iff {α : Type} {x : Option α} {K : α → Prop} : bindK x K ↔ ∃ v, x = some v ∧ K v := by
 cases x <;> simp [bindK]
theorem yab {α : Type} {x : Option α} {K : α → Prop} {v : α} (h : x = some v) (k : K v) : bindK x K := by rw [h]; exact k
theorem ybx {α : Type} {x : Option α} {K : α → Prop} (h : bindK x K) : ∃ v, x = some v ∧ K v := bindK_iff.1 h
def bindR (x : Option OpR) (K : V → Heap → Prop) : Prop := match x with | some (.val v h) => K v h | _ => False
theorem ypz {x : Option OpR} {K : V → Heap → Prop} (h : bindR x K) : ∃ v g, x = some (.val v g) ∧ K v g := by
 unfold bindR at h
 split at h
 ·exact ⟨_, _, rfl, h⟩
 ·exact h.elim
theorem ycn {x : Option OpR} {K : V → Heap → Prop} {v : V} {h : Heap} (e : x = some (.val v h)) (k : K v h) : bindR x K := by rw [e]; exact k
def bindP (x : Option (V × Heap)) (K : V → Heap → Prop) : Prop := match x with | some (v, h) => K v h | none => False
theorem bindP_to {x : Option (V × Heap)} {K : V → Heap → Prop} (h : bindP x K) : ∃ p, x = some p ∧ K p.1 p.2 := by
 cases x with
 | none => exact h.elim
 | some p => exact ⟨p, rfl, h⟩
theorem yep {x : Option (V × Heap)} {K : V → Heap → Prop} {v : V} {h : Heap} (e : x = some (v, h)) (k : K v h) : bindP x K := by rw [e]; exact k
def CallK (E : Env) (m : Mode) (f : FuncId) (args : List V) (h : Heap) (K : V → Heap → Prop) : Prop := ∃ v g, Has E m f args h (.val v g) ∧ K v g
theorem CallK.of {E : Env} {m : Mode} {f : FuncId} {args : List V} {h : Heap} {K : V → Heap → Prop} {v : V} {g : Heap} (e : Has E m f args h (.val v g)) (k : K v g) : CallK E m f args h K := ⟨v, g, e, k⟩
def runBin (E : Env) (op : BinOp) (t : TypeId) (x y : V) (K : V → Prop) : Prop :=
 match op, x, y with
 | .shl, .int k a, .int _ b => 0 ≤ b ∧ K (.int k (k.wrap (a * 2 ^ (min b.toNat k.bits))))
 | .shr, .int k a, .int _ b => 0 ≤ b ∧ K (.int k (a.fdiv (2 ^ (min b.toNat k.bits))))
 | .quo, .int k a, .int l b => k = l ∧ b ≠ 0 ∧ K (.int k (k.wrap (a.tdiv b)))
 | .rem, .int k a, .int l b => k = l ∧ b ≠ 0 ∧ K (.int k (a.tmod b))
 | .add, .str a, .str b => (a.length + b.length : Nat) ≤ 2 ^ 62 ∧ K (.str (a ++ b))
 | .eql, .int k a, .int l b => if k = l then (a = b → K (.bool true)) ∧ (a ≠ b → K (.bool false)) else False
 | .neq, .int k a, .int l b => if k = l then (a = b → K (.bool false)) ∧ (a ≠ b → K (.bool true)) else False
 | .lss, .int k a, .int l b => if k = l then (a < b → K (.bool true)) ∧ (b ≤ a → K (.bool false)) else False
 | .leq, .int k a, .int l b => if k = l then (a ≤ b → K (.bool true)) ∧ (b < a → K (.bool false)) else False
 | .gtr, .int k a, .int l b => if k = l then (b < a → K (.bool true)) ∧ (a ≤ b → K (.bool false)) else False
 | .geq, .int k a, .int l b => if k = l then (b ≤ a → K (.bool true)) ∧ (a < b → K (.bool false)) else False
 | .eql, .str a, .str b => (a = b → K (.bool true)) ∧ (a ≠ b → K (.bool false))
 | .neq, .str a, .str b => (a = b → K (.bool false)) ∧ (a ≠ b → K (.bool true))
 | op, x, y => bindK (evBin E op t x y) K
theorem yvq {E : Env} {op : BinOp} {t : TypeId} {x y : V} {K : V → Prop} (h : runBin E op t x y K) : ∃ v, evBin E op t x y = some v ∧ K v := by
 unfold runBin at h
 split at h
 ·obtain ⟨h1, h2⟩ := h; exact ⟨_, by simp only [evBin]; rw [if_neg (by omega)], h2⟩
 ·obtain ⟨h1, h2⟩ := h; exact ⟨_, by simp only [evBin]; rw [if_neg (by omega)], h2⟩
 ·obtain ⟨h1, h2, h3⟩ := h; subst h1; exact ⟨_, by simp only [evBin]; simp [h2], h3⟩
 ·obtain ⟨h1, h2, h3⟩ := h; subst h1; exact ⟨_, by simp only [evBin]; simp [h2], h3⟩
 ·obtain ⟨h1, h2⟩ := h; exact ⟨_, by simp only [evBin]; rw [if_pos h1], h2⟩
 ·rename_i k a l b
  split at h
  ·rename_i hk; subst hk
   by_cases e : a = b
   ·exact ⟨.bool true, by simp [evBin, e], h.1 e⟩
   ·exact ⟨.bool false, by simp [evBin, e], h.2 e⟩
  ·exact h.elim
 ·rename_i k a l b
  split at h
  ·rename_i hk; subst hk
   by_cases e : a = b
   ·exact ⟨.bool false, by simp [evBin, e], h.1 e⟩
   ·exact ⟨.bool true, by simp [evBin, e], h.2 e⟩
  ·exact h.elim
 ·rename_i k a l b
  split at h
  ·rename_i hk; subst hk
   by_cases e : a < b
   ·exact ⟨.bool true, by simp [evBin, e], h.1 e⟩
   ·exact ⟨.bool false, by simp [evBin]; omega, h.2 (by omega)⟩
  ·exact h.elim
 ·rename_i k a l b
  split at h
  ·rename_i hk; subst hk
   by_cases e : a ≤ b
   ·exact ⟨.bool true, by simp [evBin, e], h.1 e⟩
   ·exact ⟨.bool false, by simp [evBin]; omega, h.2 (by omega)⟩
  ·exact h.elim
 ·rename_i k a l b
  split at h
  ·rename_i hk; subst hk
   by_cases e : b < a
   ·exact ⟨.bool true, by simp [evBin, e], h.1 e⟩
   ·exact ⟨.bool false, by simp [evBin]; omega, h.2 (by omega)⟩
  ·exact h.elim
 ·rename_i k a l b
  split at h
  ·rename_i hk; subst hk
   by_cases e : b ≤ a
   ·exact ⟨.bool true, by simp [evBin, e], h.1 e⟩
   ·exact ⟨.bool false, by simp [evBin]; omega, h.2 (by omega)⟩
  ·exact h.elim
 ·rename_i a b
  by_cases e : a = b
  ·exact ⟨.bool true, by simp [evBin, e], h.1 e⟩
  ·exact ⟨.bool false, by simp [evBin, e], h.2 e⟩
 ·rename_i a b
  by_cases e : a = b
  ·exact ⟨.bool false, by simp [evBin, e], h.1 e⟩
  ·exact ⟨.bool true, by simp [evBin, e], h.2 e⟩
 ·exact ybx h
def yqa (E : Env) (t : TypeId) (x i : V) (K : V → Prop) : Prop :=
 bindK (E.ty t) fun d =>
  match d.u, x, i with
  | .str, .str s, .int _ i => 0 ≤ i ∧ ∃ b, s[i.toNat]? = some b ∧ K (.int .u8 b.toNat)
  | _, x, i => bindK (yhk E t x i) K
theorem yvr {E : Env} {t : TypeId} {x i : V} {K : V → Prop} (h : yqa E t x i K) : ∃ v, yhk E t x i = some v ∧ K v := by
 replace h := ybx h; obtain ⟨d, hd, h⟩ := h
 split at h
 ·rename_i e
  obtain ⟨h1, b, h2, h3⟩ := h
  exact ⟨_, by unfold yhk; simp only [hd, Option.bind_some, e]; rw [if_pos h1, h2]; rfl, h3⟩
 ·exact ybx h
def yqb (E : Env) (t : TypeId) (x i : V) (K : V → Prop) : Prop :=
 bindK (E.ty t) fun d =>
  match d.u, x, i with
  | .array n e, .ptr b o sz, .int _ i => bindK (E.ty e) fun y => (0 ≤ i ∧ i < (n : Int)) ∧ K (.ptr b (o + i.toNat * y.size) sz)
  | .array n e, .rop cs, .int _ i => bindK (E.ty e) fun y => (0 ≤ i ∧ i < (n : Int)) ∧ K (.rop (cs.drop (i.toNat * y.size)))
  | .slice e, .sl b o z len _ sz, .int _ i => bindK (E.ty e) fun y => (0 ≤ i ∧ i < (len : Int)) ∧ y.size = z ∧ K (.ptr b (o + i.toNat * z) sz)
  | .slice e, .lst z es, .int _ i => bindK (E.ty e) fun y => 0 ≤ i ∧ y.size = z ∧ ∃ v, es[i.toNat]? = some v ∧ K (.rop v.cells)
  | _, _, _ => False
theorem yvs {E : Env} {t : TypeId} {x i : V} {K : V → Prop} (h : yqb E t x i K) : ∃ v, yfm E t x i = some v ∧ K v := by
 replace h := ybx h; obtain ⟨d, hd, h⟩ := h
 split at h
 ·rename_i e; obtain ⟨y, hy, h1, h2⟩ := ybx h
  exact ⟨_, by unfold yfm; simp only [hd, Option.bind_some, e, hy]; rw [if_pos h1], h2⟩
 ·rename_i e; obtain ⟨y, hy, h1, h2⟩ := ybx h
  exact ⟨_, by unfold yfm; simp only [hd, Option.bind_some, e, hy]; rw [if_pos h1], h2⟩
 ·rename_i e; obtain ⟨y, hy, h1, h2, h3⟩ := ybx h
  exact ⟨_, by unfold yfm; simp only [hd, Option.bind_some, e, hy]; rw [if_pos ⟨h1.1, h1.2, h2⟩], h3⟩
 ·rename_i e; obtain ⟨y, hy, h1, h2, v, h3, h4⟩ := ybx h
  exact ⟨_, by unfold yfm; simp only [hd, Option.bind_some, e, hy]; rw [if_pos ⟨h1, h2⟩, h3]; rfl, h4⟩
 ·exact h.elim
def bndK (x : Option V) (dflt : Nat) (K : Nat → Prop) : Prop :=
 match x with
 | none => K dflt
 | some (.int _ i) => 0 ≤ i ∧ K i.toNat
 | some _ => False
theorem yej {x : Option V} {n : Nat} {K : Nat → Prop} (h : bndK x n K) : ∃ m, bnd x n = some m ∧ K m := by
 unfold bndK at h
 split at h
 ·exact ⟨_, rfl, h⟩
 ·exact ⟨_, by simp [bnd, h.1], h.2⟩
 ·exact h.elim
def yqc (E : Env) (t : TypeId) (x : V) (lo hi mx : Option V) (K : V → Prop) : Prop :=
 bindK (E.ty t) fun d =>
  match d.u, x, mx with
  | .str, .str s, none => bndK hi s.length fun h => bndK lo 0 fun l => (l ≤ h ∧ h ≤ s.length) ∧ K (.str ((s.take h).drop l))
  | .slice el, .lst e es, none => bindK (E.ty el) fun y => bndK hi es.length fun h => bndK lo 0 fun l => y.size = e ∧ (l ≤ h ∧ h ≤ es.length) ∧ K (.lst e ((es.take h).drop l))
  | .slice el, .sl b o e len cap sz, none => bindK (E.ty el) fun y => bndK hi len fun h => bndK lo 0 fun l => y.size = e ∧ (l ≤ h ∧ h ≤ cap ∧ l < cap) ∧ K (.sl b (o + l * e) e (h - l) (cap - l) sz)
  | .slice el, .nils, none => bindK (E.ty el) fun _ => bndK hi 0 fun h => bndK lo 0 fun l => (l = 0 ∧ h = 0) ∧ K .nils
  | .slice el, .emp, none => bindK (E.ty el) fun _ => bndK hi 0 fun h => bndK lo 0 fun l => (l = 0 ∧ h = 0) ∧ K .emp
  | _, x, mx => bindK (yem E t x lo hi mx) K
theorem yvt {E : Env} {t : TypeId} {x : V} {lo hi mx : Option V} {K : V → Prop} (h : yqc E t x lo hi mx K) : ∃ v, yem E t x lo hi mx = some v ∧ K v := by
 replace h := ybx h; obtain ⟨d, hd, h⟩ := h
 split at h
 ·rename_i e
  obtain ⟨m, h1, h⟩ := yej h
  obtain ⟨l, h2, h3, h4⟩ := yej h
  exact ⟨_, by unfold yem; simp only [hd, Option.bind_some, e, h1, h2]; rw [if_pos h3], h4⟩
 ·rename_i e
  obtain ⟨y, hy, h⟩ := ybx h
  obtain ⟨m, h1, h⟩ := yej h
  obtain ⟨l, h2, h3, h4, h5⟩ := yej h
  exact ⟨_, by unfold yem; simp only [hd, Option.bind_some, e, h1, h2, hy]; rw [if_pos ⟨h4.1, h4.2, h3⟩], h5⟩
 ·rename_i e
  obtain ⟨y, hy, h⟩ := ybx h
  obtain ⟨m, h1, h⟩ := yej h
  obtain ⟨l, h2, h3, h4, h5⟩ := yej h
  exact ⟨_, by unfold yem; simp only [hd, Option.bind_some, e, h1, h2, hy]; rw [if_pos ⟨h4.1, h4.2.1, h4.2.2, h3⟩], h5⟩
 ·rename_i e
  obtain ⟨y, hy, h⟩ := ybx h
  obtain ⟨m, h1, h⟩ := yej h
  obtain ⟨l, h2, h3, h4⟩ := yej h
  exact ⟨_, by unfold yem; simp only [hd, Option.bind_some, e, h1, h2, hy]; rw [if_pos h3], h4⟩
 ·rename_i e
  obtain ⟨y, hy, h⟩ := ybx h
  obtain ⟨m, h1, h⟩ := yej h
  obtain ⟨l, h2, h3, h4⟩ := yej h
  exact ⟨_, by unfold yem; simp only [hd, Option.bind_some, e, h1, h2, hy]; rw [if_pos h3], h4⟩
 ·exact ybx h
def yek : CallF := fun _ _ _ _ => none
def litK (x : Value) (K : V → Prop) : Prop :=
 match x with
 | .bool b => K (.bool b)
 | .int k n => K (.int k n)
 | .string s => K (.str s.data.toList)
 | .pointer none => K .nilp
 | .slice none 0 0 => K .nils
 | .map none => K .nilm
 | .nilFunc => K .nilf
 | .nilIface => K .nili
 | x => K (litV x)
theorem litK_eq (x : Value) (K : V → Prop) : litK x K = K (litV x) := by
 unfold litK; split <;> rfl
def getTK : List V → Nat → (V → Prop) → Prop
 | [], _, K => K und
 | x :: _, 0, K => K x
 | _ :: xs, n + 1, K => getTK xs n K
theorem yqd : ∀ (s : List V) (n : Nat) (K : V → Prop), getTK s n K = K (s.getD n und)
 | [], n, K => by simp [getTK]
 | x :: xs, 0, K => by simp [getTK]
 | x :: xs, n + 1, K => by rw [getTK, yqd xs n K]; simp
def opdK (E : Env) (s : List V) (o : Operand) (K : V → Prop) : Prop :=
 match o with
 | .tmp t => getTK s (t + 1) K
 | .const v => litK v K
 | .global g => match E.gl g with | some cs => K (.rop cs) | none => K .junk
 | .func f => K (.fn (.func f) [])
theorem ybq (E : Env) (s : List V) (o : Operand) (K : V → Prop) : opdK E s o K = K (opd E s o) := by
 cases o with
 | tmp t => simp only [opdK, yqd, opd, getT]
 | const v => simp only [opdK, litK_eq, opd]
 | global g => simp only [opdK, opd]; cases E.gl g <;> rfl
 | func f => rfl
def opdsK (E : Env) (s : List V) : List Operand → (List V → Prop) → Prop
 | [], K => K []
 | o :: os, K => opdK E s o fun v => opdsK E s os fun vs => K (v :: vs)
theorem yjz (E : Env) (s : List V) : ∀ (os : List Operand) (K : List V → Prop), opdsK E s os K = K (os.map (opd E s))
 | [], K => rfl
 | o :: os, K => by rw [opdsK, ybq, yjz E s os]; rfl
def yhv (E : Env) (s : List V) : List (Nat × Operand) → (List (Nat × V) → Prop) → Prop
 | [], K => K []
 | o :: os, K => opdK E s o.2 fun v => yhv E s os fun vs => K ((o.1, v) :: vs)
theorem ymj (E : Env) (s : List V) : ∀ (os : List (Nat × Operand)) (K : List (Nat × V) → Prop), yhv E s os K = K (os.map fun p => (p.1, opd E s p.2))
 | [], K => rfl
 | o :: os, K => by rw [yhv, ybq, ymj E s os]; rfl
def optK (E : Env) (s : List V) (o : Option Operand) (K : Option V → Prop) : Prop := match o with | none => K none | some o => opdK E s o fun v => K (some v)
theorem ymk (E : Env) (s : List V) (o : Option Operand) (K : Option V → Prop) : optK E s o K = K (o.map (opd E s)) := by
 cases o with
 | none => rfl
 | some o => simp only [optK, ybq]; rfl
def brK (b : Bool) (A B : Prop) : Prop := match b with | true => A | false => B
theorem brK.mk {b : Bool} {A B : Prop} (ht : b = true → A) (hf : b = false → B) : brK b A B := by
 cases b
 ·exact hf rfl
 ·exact ht rfl
theorem brK_to {b : Bool} {A B : Prop} (h : brK b A B) : (b = true ∧ A) ∨ (b = false ∧ B) := by
 cases b
 ·exact .inr ⟨rfl, h⟩
 ·exact .inl ⟨rfl, h⟩
def runOp (E : Env) (md : FuncId → Mode) (o : Op) (s : List V) (h : Heap) (K : V → Heap → Prop) : Prop :=
 match o with
 | .move x | .assign x => opdK E s x fun v => K v h
 | .binOp op t x y _ => opdK E s x fun a => opdK E s y fun b => if yja E t = true then bindK (yiz E op t a b h) fun v => K v h else match yhm x y a b with | true => bindK (evNil E op t) fun v => K v h | false => runBin E op t a b fun v => K v h
 | .pick c x y => opdK E s c fun cv => opdK E s x fun a => opdK E s y fun b => match cv with
  | .bool t => (match a, b with
   | .bool p, .bool q => K (.bool (cond t p q)) h
   | a, b => brK t (K a h) (K b h))
  | _ => False
 | .unOp op _ x => opdK E s x fun a => bindK (evUn op a) fun v => K v h
 | .convert a b x => opdK E s x fun u => bindP (ydn E a b u h) K
 | .makeInterface t x => opdK E s x fun u => bindK (ylh E t u) fun v => K v h
 | .box t x => opdK E s x fun u => bindP (evBox t u h) K
 | .alloc t => bindP (yit E t h) K
 | .build t ps => yhv E s ps.toList fun l => bindK (yiu E t l) fun v => K v h
 | .buildSlice t n ps => yhv E s ps.toList fun l => bindP (yhj E t n l h) K
 | .load t a => opdK E s a fun p => bindK (yde E t p h) fun v => K v h
 | .store t a x => opdK E s a fun p => opdK E s x fun v => bindK (yex E t p v h) fun g => K und g
 | .fieldAddr t x f => opdK E s x fun u => bindK (yld E t u f) fun v => K v h
 | .field t x f => opdK E s x fun u => bindK (yle E t u f) fun v => K v h
 | .extract x i => opdK E s x fun u => bindK (yiy u i) fun v => K v h
 | .index t x i => opdK E s x fun a => opdK E s i fun b => yqa E t a b fun v => K v h
 | .indexAddr t x i => opdK E s x fun a => opdK E s i fun b => yqb E t a b fun v => K v h
 | .slice t x lo hi mx => opdK E s x fun a => optK E s lo fun lo => optK E s hi fun hi => optK E s mx fun mx => yqc E t a lo hi mx fun v => K v h
 | .call c => match c.callee with
  | .value f => opdK E s f fun fv => opdsK E s c.args.toList fun ars => match fv with
   | .fn (.func g) caps => match E.ext g with
    | some p => bindK (p (ars ++ caps)) fun v => K v h
    | none => CallK E (nrm (md g)) g (ars ++ caps) h K
   | .it b => CallK E .round b ars h K
   | .bm g cs => CallK E (nrm (md g)) g (cs ++ ars) h K
   | _ => False
  | .builtin b => opdsK E s c.args.toList fun ars => bindR (yeh E b c.argTypes.toList ars h) K
  | .invoke _ _ => False
 | o => bindR (evOp E md yek o s h) K
theorem yhw {E : Env} {md : FuncId → Mode} {o : Op} {s : List V} {h : Heap} {r : OpR} (call : CallF) (hr : evOp E md yek o s h = some r) : evOp E md call o s h = some r := by
 cases o
 case call c =>
  obtain ⟨callee, args, ats⟩ := c
  cases callee
  case value f =>
   simp only [evOp, ydo] at hr ⊢
   split at hr
   ·split at hr
    ·exact hr
    ·cases hr
   ·cases hr
   ·cases hr
   ·cases hr
  all_goals exact hr
 case makeFunc fn first caps => cases fn <;> exact hr
 case makeMap t n => cases n <;> exact hr
 all_goals exact hr
theorem yft {E : Env} {md : FuncId → Mode} {o : Op} {s : List V} {h : Heap} {K : V → Heap → Prop} (hr : runOp E md o s h K) : ∃ v g, K v g ∧ Evt fun n => evOp E md (callN E n) o s h = some (.val v g) := by
 have gen : bindR (evOp E md yek o s h) K → ∃ v g, K v g ∧ Evt fun n => evOp E md (callN E n) o s h = some (.val v g) := fun hb => by
  obtain ⟨v, g, h1, h2⟩ := ypz hb
  exact ⟨v, g, h2, .all fun n => yhw _ h1⟩
 have one : ∀ {x : Option V}, bindK x (fun v => K v h) → (evOp E md yek o s h = val x h) → ∃ v g, K v g ∧ Evt fun n => evOp E md (callN E n) o s h = some (.val v g) := fun hb he => by
  obtain ⟨v, h1, h2⟩ := ybx hb
  exact ⟨v, h, h2, .all fun n => yhw _ (by rw [he, h1]; rfl)⟩
 have two : ∀ {x : Option (V × Heap)}, bindP x K → (evOp E md yek o s h = valH x) → ∃ v g, K v g ∧ Evt fun n => evOp E md (callN E n) o s h = some (.val v g) := fun hb he => by
  obtain ⟨p, h1, h2⟩ := bindP_to hb
  exact ⟨p.1, p.2, h2, .all fun n => yhw _ (by rw [he, h1]; rfl)⟩
 unfold runOp at hr
 split at hr
 ·rw [ybq] at hr; exact ⟨_, h, hr, .all fun n => rfl⟩
 ·rw [ybq] at hr; exact ⟨_, h, hr, .all fun n => rfl⟩
 ·rename_i op t x y z
  rw [ybq, ybq] at hr
  split at hr
  ·rename_i hp; exact one hr (by simp only [evOp]; rw [if_pos hp])
  ·rename_i hp
   split at hr
   ·rename_i hb
    exact one hr (by simp only [evOp]; rw [if_neg hp, hb]; rfl)
   ·rename_i hb
    obtain ⟨v, h1, h2⟩ := yvq hr
    exact ⟨v, h, h2, .all fun n => by simp only [evOp]; rw [if_neg hp, hb]; simp only [cond_false]; rw [h1]; rfl⟩
 ·rename_i cc x y
  rw [ybq, ybq, ybq] at hr
  split at hr
  ·rename_i t ht
   split at hr
   ·rename_i p q e1 e2
    exact ⟨_, h, hr, .all fun n => by simp only [evOp, ht, e1, e2]⟩
   ·rename_i hne
    have key : ∀ {v : V}, v = (if t = true then opd E s x else opd E s y) → evOp E md yek (.pick cc x y) s h = some (.val v h) := fun {v} hv => by
     simp only [evOp, ht]
     congr 2
     rw [hv]
    rcases brK_to hr with ⟨e, hr⟩ | ⟨e, hr⟩
    ·exact ⟨_, h, hr, .all fun n => yhw _ (key (by rw [e]; rfl))⟩
    ·exact ⟨_, h, hr, .all fun n => yhw _ (key (by rw [e]; rfl))⟩
  ·exact hr.elim
 ·rw [ybq] at hr; exact one hr rfl
 ·rw [ybq] at hr; exact two hr rfl
 ·rw [ybq] at hr; exact one hr rfl
 ·rw [ybq] at hr; exact two hr rfl
 ·exact two hr rfl
 ·rw [ymj] at hr; exact one hr rfl
 ·rw [ymj] at hr; exact two hr rfl
 ·rw [ybq] at hr; exact one hr rfl
 ·rw [ybq, ybq] at hr
  obtain ⟨g, h1, h2⟩ := ybx hr
  exact ⟨und, g, h2, .all fun n => by simp only [evOp]; rw [h1]; rfl⟩
 ·rw [ybq] at hr; exact one hr rfl
 ·rw [ybq] at hr; exact one hr rfl
 ·rw [ybq] at hr; exact one hr rfl
 ·rw [ybq, ybq] at hr
  obtain ⟨v, h1, h2⟩ := yvr hr
  exact ⟨v, h, h2, .all fun n => by simp only [evOp]; rw [h1]; rfl⟩
 ·rw [ybq, ybq] at hr
  obtain ⟨v, h1, h2⟩ := yvs hr
  exact ⟨v, h, h2, .all fun n => by simp only [evOp]; rw [h1]; rfl⟩
 ·rw [ybq, ymk, ymk, ymk] at hr
  obtain ⟨v, h1, h2⟩ := yvt hr
  exact ⟨v, h, h2, .all fun n => by simp only [evOp]; rw [h1]; rfl⟩
 ·rename_i c
  obtain ⟨callee, args, ats⟩ := c
  simp only at hr
  split at hr
  ·rename_i f
   rw [ybq, yjz] at hr
   split at hr
   ·rename_i g caps hf
    split at hr
    ·rename_i p hp
     obtain ⟨v, h1, h2⟩ := ybx hr
     exact ⟨v, h, h2, .all fun n => by simp only [evOp, ydo, hf, hp]; rw [h1]; rfl⟩
    ·rename_i hp
     obtain ⟨v, g', h1, h2⟩ := hr
     exact ⟨v, g', h2, h1.imp fun n hn => by simp only [evOp, ydo, hf, hp]; exact hn⟩
   ·rename_i b hf
    obtain ⟨v, g', h1, h2⟩ := hr
    exact ⟨v, g', h2, h1.imp fun n hn => by simp only [evOp, ydo, hf]; exact hn⟩
   ·rename_i b cs hf
    obtain ⟨v, g', h1, h2⟩ := hr
    exact ⟨v, g', h2, h1.imp fun n hn => by simp only [evOp, ydo, hf]; exact hn⟩
   ·exact hr.elim
  ·rw [yjz] at hr
   obtain ⟨v, g, h1, h2⟩ := ypz hr
   exact ⟨v, g, h2, .all fun n => by simp only [evOp]; exact h1⟩
  ·exact hr.elim
 ·exact gen hr
def yas (l : List V) (K : List V → Prop) : Prop := match l with | [] => K [] | x :: xs => yas xs fun ys => K (x :: ys)
theorem yat : ∀ (l : List V) (K : List V → Prop), yas l K = K l
 | [], K => rfl
 | x :: xs, K => by rw [yas, yat xs]
theorem yqe : ∀ (s : List V) (n : Nat) (v : V), s[n]? = some v → setL s n v = s
 | [], _, _, h => by simp at h
 | x :: xs, 0, v, h => by simp at h; subst h; rfl
 | x :: xs, n + 1, v, h => by rw [setL, yqe xs n v (by simpa using h)]
theorem yfu {s : List V} {t : Nat} {b : Bool} (h : getT s t = .bool b) : setT s t (.bool b) = s := by
 refine yqe s (t + 1) _ ?_
 unfold getT at h
 rw [List.getD_eq_getElem?_getD] at h
 cases hq : s[t + 1]? with
 | none => rw [hq] at h; simp [und] at h
 | some v => rw [hq] at h; simp at h; rw [h]
structure ROp where
 op : Op
 dst : Option Tmp
 gd : Option (Tmp × Bool)
def ydc (all : List Oper) : List Oper → (List ROp → Prop) → Prop
 | [], K => K []
 | o :: os, K => match o with
  | ⟨dst, op, _, _, _, none⟩ => ydc all os fun rs => K (⟨op, dst, none⟩ :: rs)
  | ⟨dst, op, _, _, _, some (j, w)⟩ => match (all[j]?).bind (·.dst) with
   | some t => ydc all os fun rs => K (⟨op, dst, some (t, w)⟩ :: rs)
   | none => False
def yqf (all : List Oper) (o : Oper) (r : ROp) : Prop := r.op = o.op ∧ r.dst = o.dst ∧ match o.guard with
 | none => r.gd = none
 | some (j, w) => ∃ t, (all[j]?).bind (·.dst) = some t ∧ r.gd = some (t, w)
def yfv (all : List Oper) : List Oper → List ROp → Prop
 | [], [] => True
 | o :: os, r :: rs => yqf all o r ∧ yfv all os rs
 | _, _ => False
theorem yfw {all : List Oper} : ∀ {os : List Oper} {K : List ROp → Prop}, ydc all os K → ∃ rs, yfv all os rs ∧ K rs
 | [], K, h => ⟨[], trivial, h⟩
 | ⟨dst, op, ty, pos, after, none⟩ :: os, K, h => by
  obtain ⟨rs, h1, h2⟩ := yfw (os := os) h
  exact ⟨⟨op, dst, none⟩ :: rs, ⟨⟨rfl, rfl, rfl⟩, h1⟩, h2⟩
 | ⟨dst, op, ty, pos, after, some (j, w)⟩ :: os, K, h => by
  unfold ydc at h
  simp only at h
  split at h
  ·rename_i t ht
   obtain ⟨rs, h1, h2⟩ := yfw (os := os) h
   exact ⟨⟨op, dst, some (t, w)⟩ :: rs, ⟨⟨rfl, rfl, t, ht, rfl⟩, h1⟩, h2⟩
  ·exact h.elim
def wantK (s : List V) (o : ROp) (A B : List V → Prop) : Prop :=
 match o.gd with
 | none => A s
 | some (t, want) =>
  match getT s t with
  | .bool b => brK (b == want) (yas (setT s t (.bool want)) A) (yas (setT s t (.bool !want)) B)
  | .tup [] => B s
  | _ => False
theorem yfx {ops : List Oper} {s : List V} {o : Oper} {r : ROp} (hr : yqf ops o r) {A B : List V → Prop} (h : wantK s r A B) : (ycd ops s o = some true ∧ A s) ∨ (ycd ops s o = some false ∧ B s) := by
 obtain ⟨_, _, hr⟩ := hr
 unfold wantK at h
 unfold ycd
 cases hg : o.guard with
 | none => rw [hg] at hr; simp only at hr; rw [hr] at h; exact .inl ⟨rfl, h⟩
 | some jw =>
  obtain ⟨j, want⟩ := jw
  rw [hg] at hr
  obtain ⟨t, ht, hgd⟩ := hr
  rw [hgd] at h
  simp only [ht] at h ⊢
  split at h
  ·rename_i b hb
   rw [hb]
   rcases brK_to h with ⟨e, h'⟩ | ⟨e, h'⟩
   ·have eb : b = want := by simpa using e
    rw [eb] at hb
    rw [yat, yfu hb] at h'
    exact .inl ⟨by show some (b == want) = _; rw [e], h'⟩
   ·have eb : b = !want := by cases b <;> cases want <;> simp_all
    rw [eb] at hb
    rw [yat, yfu hb] at h'
    exact .inr ⟨by show some (b == want) = _; rw [e], h'⟩
  ·rename_i hb; rw [hb]; exact .inr ⟨rfl, h⟩
  ·exact h.elim
def yag (E : Env) (md : FuncId → Mode) : List ROp → List V → Heap → (List V → Heap → Prop) → Prop
 | [], s, h, K => K s h
 | o :: os, s, h, K => wantK s o (fun s => runOp E md o.op s h fun v g => yas (putT s o.dst v) fun s' => yag E md os s' g K) (fun s => yas (putT s o.dst und) fun s' => yag E md os s' h K)
theorem yml {E : Env} {md : FuncId → Mode} {all : List Oper} : ∀ {os : List Oper} {rs : List ROp} {s : List V} {h : Heap} {K : List V → Heap → Prop}, yfv all os rs → yag E md rs s h K → ∃ s' g, K s' g ∧ Evt fun n => evOps E md (callN E n) all os s h = some (.normal, s', g)
 | [], [], s, h, K, _, hr => ⟨s, h, hr, .all fun n => rfl⟩
 | o :: os, r :: rs, s, h, K, hR, hr => by
  obtain ⟨hR1, hR2⟩ := hR
  have e1 := hR1.1
  have e2 := hR1.2.1
  rcases yfx hR1 hr with ⟨hw, hr⟩ | ⟨hw, hr⟩
  ·rw [e1, e2] at hr
   obtain ⟨v, g, h1, h2⟩ := yft hr
   rw [yat] at h1
   obtain ⟨s', g', k1, k2⟩ := yml hR2 h1
   exact ⟨s', g', k1, h2.and k2 fun n e1 e2 => by simp only [evOps, hw, Option.bind_some, if_true, e1]; exact e2⟩
  ·rw [yat, e2] at hr
   obtain ⟨s', g', k1, k2⟩ := yml hR2 hr
   exact ⟨s', g', k1, k2.imp fun n e2 => by simp only [evOps, hw, Option.bind_some]; rw [if_neg (by simp)]; exact e2⟩
 | [], _ :: _, _, _, _, hR, _ => hR.elim
 | _ :: _, [], _, _, _, hR, _ => hR.elim
def StillK (E : Env) (md : FuncId → Mode) (p : Nat × Op × List V × V) (h : Heap) : Prop := ∃ g, Evt fun n => evOp E md (callN E n) p.2.1 p.2.2.1 h = some (.val p.2.2.2 g)
theorem StillK.of {E : Env} {md : FuncId → Mode} {p : Nat × Op × List V × V} {h : Heap} (hr : runOp E md p.2.1 p.2.2.1 h fun v _ => v = p.2.2.2) : StillK E md p h := by
 obtain ⟨v, g, h1, h2⟩ := yft hr
 exact ⟨g, by rw [← h1]; exact h2⟩
def accK (E : Env) (md : FuncId → Mode) (A : List Nat) (h : Heap) : List (Nat × Op × List V × V) → Prop → Prop
 | [], K => K
 | p :: ps, K => if A.contains p.1 = true then accK E md A h ps K else StillK E md p h ∧ accK E md A h ps K
theorem yfy {E : Env} {md : FuncId → Mode} {A : List Nat} {h : Heap} : ∀ {ps : List (Nat × Op × List V × V)} {K : Prop}, accK E md A h ps K → K ∧ Evt fun n => ps.all (fun p => A.contains p.1 || ydz E md (callN E n) p h) = true
 | [], K, hk => ⟨hk, .all fun n => rfl⟩
 | p :: ps, K, hk => by
  unfold accK at hk
  split at hk
  ·rename_i hc
   obtain ⟨h1, h2⟩ := yfy hk
   exact ⟨h1, h2.imp fun n e => by simp only [List.all_cons, hc, Bool.true_or, Bool.true_and]; exact e⟩
  ·obtain ⟨⟨g, hs⟩, hk⟩ := hk
   obtain ⟨h1, h2⟩ := yfy hk
   exact ⟨h1, hs.and h2 fun n e1 e2 => by
    have e3 : ydz E md (callN E n) p h = true := by simp [ydz, e1]
    simp only [List.all_cons, e3, Bool.or_true, Bool.true_and]; exact e2⟩
def yaq (E : Env) (md : FuncId → Mode) (A : List (List Nat)) : Nat → List ROp → List (Nat × Op × List V × V) → List V → Heap → (List V → Heap → Prop) → Prop
 | _, [], _, s, h, K => K s h
 | k, o :: os, acc, s, h, K => wantK s o
   (fun s => runOp E md o.op s h fun v g =>
    if yai E md o.op = 2 then accK E md (A.getD k []) g acc (yas (putT s o.dst v) fun s' => yaq E md A (k + 1) os acc s' g K)
    else if yai E md o.op = 1 then yas (putT s o.dst v) fun s' => yaq E md A (k + 1) os ((k, o.op, s, v) :: acc) s' g K
    else yas (putT s o.dst v) fun s' => yaq E md A (k + 1) os acc s' g K)
   (fun s => if yai E md o.op = 2 then accK E md (A.getD k []) h acc (yas (putT s o.dst und) fun s' => yaq E md A (k + 1) os acc s' h K)
    else yas (putT s o.dst und) fun s' => yaq E md A (k + 1) os acc s' h K)
theorem ygw {E : Env} {md : FuncId → Mode} {A : List (List Nat)} {all : List Oper} : ∀ {os : List Oper} {rs : List ROp} {k : Nat} {acc : List (Nat × Op × List V × V)} {s : List V} {h : Heap} {K : List V → Heap → Prop}, yfv all os rs → yaq E md A k rs acc s h K →
  ∃ s' g, K s' g ∧ Evt fun n => ych E md (callN E n) A all k os acc s h = some (.normal, s', g)
 | [], [], k, acc, s, h, K, _, hr => ⟨s, h, hr, .all fun n => rfl⟩
 | o :: os, r :: rs, k, acc, s, h, K, hR, hr => by
  obtain ⟨hR1, hR2⟩ := hR
  have e1 := hR1.1
  have e2 := hR1.2.1
  rcases yfx hR1 hr with ⟨hw, hr⟩ | ⟨hw, hr⟩
  ·rw [e1, e2] at hr
   obtain ⟨v, g, h1, h2⟩ := yft hr
   split at h1
   ·rename_i hk
    obtain ⟨h1, h3⟩ := yfy h1
    rw [yat] at h1
    obtain ⟨s', g', k1, k2⟩ := ygw hR2 h1
    exact ⟨s', g', k1, (h2.and h3 fun n e1 e2 => And.intro e1 e2).and k2 fun n e1 e2 => by
     simp only [ych, hw, Option.bind_some, if_true, e1.1, hk, e1.2]; exact e2⟩
   ·rename_i hk
    split at h1
    ·rename_i hk1
     rw [yat] at h1
     obtain ⟨s', g', k1, k2⟩ := ygw hR2 h1
     exact ⟨s', g', k1, h2.and k2 fun n e1 e2 => by
      simp only [ych, hw, Option.bind_some, if_true, e1, hk1]; simpa using e2⟩
    ·rename_i hk1
     rw [yat] at h1
     obtain ⟨s', g', k1, k2⟩ := ygw hR2 h1
     exact ⟨s', g', k1, h2.and k2 fun n e1 e2 => by
      simp only [ych, hw, Option.bind_some, if_true, e1, hk, hk1, if_false, false_and]; exact e2⟩
  ·rw [e1, e2] at hr
   split at hr
   ·rename_i hk
    obtain ⟨h1, h3⟩ := yfy hr
    rw [yat] at h1
    obtain ⟨s', g', k1, k2⟩ := ygw hR2 h1
    exact ⟨s', g', k1, h3.and k2 fun n e1 e2 => by
     simp only [ych, hw, Option.bind_some, hk, if_true, Bool.false_eq_true, if_false, e1]
     exact e2⟩
   ·rename_i hk
    rw [yat] at hr
    obtain ⟨s', g', k1, k2⟩ := ygw hR2 hr
    exact ⟨s', g', k1, k2.imp fun n e2 => by
     simp only [ych, hw, Option.bind_some, hk, if_false]
     simpa using e2⟩
 | [], _ :: _, _, _, _, _, _, hR, _ => hR.elim
 | _ :: _, [], _, _, _, _, _, hR, _ => hR.elim
def LoopK (E : Env) (md : FuncId → Mode) (c : Code) (s : List V) (h : Heap) (Q : Ex → List V → Heap → Prop) : Prop :=
 ∃ e s' g, Q e s' g ∧ ∃ N, ∀ n m, N ≤ n → N ≤ m → ydy (fun s h => yap E md (callN E n) n c s h) m s h = some (e, s', g)
def seqK (B : List V → Heap → Prop) (Q : Ex → List V → Heap → Prop) (e : Ex) (s : List V) (h : Heap) : Prop := match e with | .normal => B s h | e => Q e s h
def yhx (id : Nat) (Q : Ex → List V → Heap → Prop) (e : Ex) (s : List V) (h : Heap) : Prop := match e with | .exit i => if i = id then Q .normal s h else Q (.exit i) s h | e => Q e s h
def run (E : Env) (md : FuncId → Mode) : Code → List V → Heap → (Ex → List V → Heap → Prop) → Prop
 | .skip, s, h, Q => Q .normal s h
 | .region _ ops draw, s, h, Q => if draw = true then yei E md ops = true ∧ ydc ops.toList ops.toList fun rs => yaq E md (ancT ops.toList []) 0 rs [] s h fun s' h' => Q .normal s' h' else ydc ops.toList ops.toList fun rs => yag E md rs s h fun s' h' => Q .normal s' h'
 | .seq a b, s, h, Q => run E md a s h (seqK (fun s' h' => run E md b s' h' Q) Q)
 | .cond c a b, s, h, Q => match opd E s c with
  | .bool t => brK t (run E md a s h Q) (run E md b s h Q)
  | _ => False
 | .block id c, s, h, Q => run E md c s h (yhx id Q)
 | .loop c, s, h, Q => LoopK E md c s h Q
 | .exit id, s, h, Q => Q (.exit id) s h
 | .ret, s, h, Q => Q .ret s h
 | _, _, _, _ => False
theorem run_ok {E : Env} {md : FuncId → Mode} : ∀ {c : Code} {s : List V} {h : Heap} {Q : Ex → List V → Heap → Prop}, run E md c s h Q → ∃ e s' g, Q e s' g ∧ Evt fun n => yap E md (callN E n) n c s h = some (e, s', g) := by
 intro c
 induction c with
 | skip => intro s h Q hr; exact ⟨_, _, _, hr, .all fun n => rfl⟩
 | region x ops draw =>
  intro s h Q hr
  unfold run at hr
  split at hr
  ·rename_i hd
   obtain ⟨rs, hrs, hr2⟩ := yfw hr.2
   obtain ⟨s', g, h1, h2⟩ := ygw hrs hr2
   exact ⟨_, s', g, h1, h2.imp fun n e => by unfold yap; rw [if_pos hd, if_pos hr.1]; exact e⟩
  ·rename_i hd
   obtain ⟨rs, hrs, hr2⟩ := yfw hr
   obtain ⟨s', g, h1, h2⟩ := yml hrs hr2
   exact ⟨_, s', g, h1, h2.imp fun n e => by unfold yap; rw [if_neg hd]; exact e⟩
 | seq a b iha ihb =>
  intro s h Q hr
  obtain ⟨e, s1, g1, h1, h2⟩ := iha hr
  cases e with
  | normal =>
   obtain ⟨e, s2, g2, k1, k2⟩ := ihb h1
   exact ⟨e, s2, g2, k1, h2.and k2 fun n e1 e2 => by simp only [yap, e1, Option.bind_some]; exact e2⟩
  | _ => exact ⟨_, s1, g1, h1, h2.imp fun n e1 => by simp only [yap, e1, Option.bind_some]⟩
 | cond x a b iha ihb =>
  intro s h Q hr
  unfold run at hr
  split at hr
  ·rename_i t ht
   rcases brK_to hr with ⟨e, hr⟩ | ⟨e, hr⟩
   ·obtain ⟨e', s1, g1, h1, h2⟩ := iha hr
    exact ⟨e', s1, g1, h1, h2.imp fun n e1 => by simp only [yap, ht, e, if_true]; exact e1⟩
   ·obtain ⟨e', s1, g1, h1, h2⟩ := ihb hr
    exact ⟨e', s1, g1, h1, h2.imp fun n e1 => by simp only [yap, ht, e]; rw [if_neg (by simp)]; exact e1⟩
  ·exact hr.elim
 | block id c ih =>
  intro s h Q hr
  obtain ⟨e, s1, g1, h1, h2⟩ := ih hr
  cases e with
  | exit i =>
   simp only [yhx] at h1
   by_cases hi : i = id
   ·rw [if_pos hi] at h1
    exact ⟨_, s1, g1, h1, h2.imp fun n e1 => by simp only [yap, e1, Option.bind_some]; rw [if_pos hi]⟩
   ·rw [if_neg hi] at h1
    exact ⟨_, s1, g1, h1, h2.imp fun n e1 => by simp only [yap, e1, Option.bind_some]; rw [if_neg hi]⟩
  | _ => exact ⟨_, s1, g1, h1, h2.imp fun n e1 => by simp only [yap, e1, Option.bind_some]⟩
 | loop c ih =>
  intro s h Q hr
  obtain ⟨e, s', g, h1, N, h2⟩ := hr
  exact ⟨e, s', g, h1, N, fun n hn => by simp only [yap]; exact h2 n n hn hn⟩
 | exit id => intro s h Q hr; exact ⟨_, _, _, hr, .all fun n => rfl⟩
 | ret => intro s h Q hr; exact ⟨_, _, _, hr, .all fun n => rfl⟩
 | _ => intro s h Q hr; exact (show False from hr).elim
theorem LoopK.of {E : Env} {md : FuncId → Mode} {c : Code} {Q : Ex → List V → Heap → Prop} (I : Nat → List V → Heap → Prop)
  (step : ∀ k s h, I k s h → run E md c s h fun e s' h' => match e with | .normal => ∃ j, j < k ∧ I j s' h' | e => Q e s' h') : ∀ k s h, I k s h → LoopK E md c s h Q := by
 intro k
 induction k using Nat.strongRecOn with
 | _ k ih =>
  intro s h hI
  obtain ⟨e, s', g, h1, N, h2⟩ := run_ok (step k s h hI)
  cases e with
  | normal =>
   obtain ⟨j, hj, hIj⟩ := h1
   obtain ⟨e, s2, g2, k1, M, k2⟩ := ih j hj s' g hIj
   refine ⟨e, s2, g2, k1, max N M + 1, fun n m hn hm => ?_⟩
   obtain ⟨m, rfl⟩ : ∃ m', m = m' + 1 := ⟨m - 1, by omega⟩
   simp only [ydy, h2 n (by omega), Option.bind_some]
   exact k2 n m (by omega) (by omega)
  | _ =>
   refine ⟨_, s', g, h1, N + 1, fun n m hn hm => ?_⟩
   obtain ⟨m, rfl⟩ : ∃ m', m = m' + 1 := ⟨m - 1, by omega⟩
   simp only [ydy, h2 n (by omega), Option.bind_some]
def fnK (E : Env) (d : FnD) (args : List V) (h : Heap) (K : V → Heap → Prop) : Prop :=
 args.length ≤ d.nt ∧ yas (initT d.nt args) fun s => run E d.md d.body s h fun e s' h' =>
  match e with
  | .normal | .ret => getDf s' = und ∧ bindK (ybp E d.res s' h') fun v => K v h'
  | _ => False
theorem yka {E : Env} {d : FnD} {args : List V} {h : Heap} {K : V → Heap → Prop} (hr : fnK E d args h K) : ∃ v g, K v g ∧ Evt fun n => evFn E (callN E n) n d args h = some (.val v g) := by
 obtain ⟨h0, hr⟩ := hr
 rw [yat] at hr
 obtain ⟨e, s', g, h1, h2⟩ := run_ok hr
 have key : (e = .normal ∨ e = .ret) ∧ getDf s' = und ∧ bindK (ybp E d.res s' g) fun v => K v g := by
  cases e with
  | normal => exact ⟨.inl rfl, h1⟩
  | ret => exact ⟨.inr rfl, h1⟩
  | _ => exact h1.elim
 obtain ⟨he, k1, k2⟩ := key
 obtain ⟨v, hv, hK⟩ := ybx k2
 refine ⟨v, g, hK, h2.imp fun n hn => ?_⟩
 unfold evFn
 rw [if_pos h0, hn]
 rcases he with rfl | rfl
 ·simp only [Option.bind_some]; rw [if_pos k1, hv]; rfl
 ·simp only [Option.bind_some]; rw [if_pos k1, hv]; rfl
theorem Has.own {E : Env} {f : FuncId} {args a : List V} {h : Heap} {d : FnD} {v : V} (h1 : args.mapM (fz E h ycb) = some a) (h2 : E.lib f = none) (h3 : E.fn f = some d)
  (h4 : fnK E d a [] fun v' h' => fz E h' ycb v' = some v ∧ (V.norefs args || v.flat) = true) : Has E .own f args h (.val v h) := by
 obtain ⟨v', g, ⟨h5, h6⟩, N, h7⟩ := yka h4
 refine ⟨N + 1, fun n hn => ?_⟩
 obtain ⟨n, rfl⟩ : ∃ n', n = n' + 1 := ⟨n - 1, by omega⟩
 simp only [callN, evAny, h1, Option.bind_some, h2, h3, h7 n (by omega), yea, h5]
 rw [if_pos h6]
theorem Has.ownE {E : Env} {f : FuncId} {args a : List V} {h : Heap} {d : FnD} {R : V → Prop} (h1 : args.mapM (fz E h ycb) = some a) (h2 : E.lib f = none) (h3 : E.fn f = some d)
  (h4 : fnK E d a [] fun v' h' => ∃ v, fz E h' ycb v' = some v ∧ (V.norefs args || v.flat) = true ∧ R v) : ∃ v, Has E .own f args h (.val v h) ∧ R v := by
 obtain ⟨v', g, ⟨v, h5, h6, hR⟩, N, h7⟩ := yka h4
 refine ⟨v, ⟨N + 1, fun n hn => ?_⟩, hR⟩
 obtain ⟨n, rfl⟩ : ∃ n', n = n' + 1 := ⟨n - 1, by omega⟩
 simp only [callN, evAny, h1, Option.bind_some, h2, h3, h7 n (by omega), yea, h5]
 rw [if_pos h6]
theorem Has.told {E : Env} {f : FuncId} {args a : List V} {h : Heap} {p : List V → Option V} {v : V} (h1 : args.mapM (fz E h ycb) = some a) (h2 : E.lib f = some p) (h3 : p a = some v) (h4 : (V.norefs args || v.flat) = true) : Has E .own f args h (.val v h) := by
 refine ⟨1, fun n hn => ?_⟩
 obtain ⟨n, rfl⟩ : ∃ n', n = n' + 1 := ⟨n - 1, by omega⟩
 simp only [callN, evAny, h1, Option.bind_some, h2, h3]
 rw [if_pos h4]
theorem Has.shared {E : Env} {f : FuncId} {args : List V} {h g : Heap} {d : FnD} {v : V} (h3 : E.fn f = some d) (h4 : fnK E d args h fun v' h' => v' = v ∧ h' = g) : Has E .shared f args h (.val v g) := by
 obtain ⟨v', g', ⟨rfl, rfl⟩, N, h7⟩ := yka h4
 refine ⟨N + 1, fun n hn => ?_⟩
 obtain ⟨n, rfl⟩ : ∃ n', n = n' + 1 := ⟨n - 1, by omega⟩
 simp only [callN, evAny, h3, Option.bind_some, h7 n (by omega)]
end Go.Sb
