/- What it means that a plain value stands for a value of the machine, and a plain memory for its world. -/
import Derived.Test.YtkjhnpmgieplgaaGreatDoorSbEv
import Derived.Calls
set_option linter.unusedVariables false
set_option linter.unusedSimpArgs false
namespace Go.Sb

/-- 'v' stands for 'x', all that 'x' leads to lies in blocks that nobody writes ('ro'). -/
inductive RG (ro : Nat → Prop) (w : World) : V → Value → Prop
  | bool (b : Bool) : RG ro w (.bool b) (.bool b)
  | int (k : IntKind) (n : Int) : RG ro w (.int k n) (.int k n)
  | ub (k : IntKind) (n : Int) : RG ro w (.ub k) (.int k n)
  | str (l : List UInt8) : RG ro w (.str l) (.string ⟨⟨l⟩⟩)
  | nilp : RG ro w .nilp (.pointer none)
  | nils : RG ro w .nils (.slice none 0 0)
  | nilm : RG ro w .nilm (.map none)
  | nilf : RG ro w .nilf .nilFunc
  | nili : RG ro w .nili .nilIface
  | emp (a : Addr) : RG ro w .emp (.slice (some a) 0 0)
  | rop (cs : List V) (a : Addr) (f : Nat → Value) (h1 : ∀ j, j < cs.length → w.cell? (a.add j) = some (f j)) (h2 : ∀ (j : Nat) (v : V), cs[j]? = some v → RG ro w v (f j)) (h3 : cs ≠ [] → ro a.block) : RG ro w (.rop cs) (.pointer (some a))
  | lst (es : List V) (a : Addr) (cap e : Nat) (f : Nat → Nat → Value) (h0 : ∀ (i : Nat) (v : V), es[i]? = some v → v.cells.length = e)
      (h1 : ∀ i j, i < es.length → j < e → w.cell? (a.add (i * e + j)) = some (f i j)) (h2 : ∀ (i j : Nat) (v u : V), es[i]? = some v → v.cells[j]? = some u → RG ro w u (f i j)) (h3 : es ≠ [] → ro a.block) (h4 : es.length ≤ cap) (h5 : ∀ (i : Nat) (v : V), es[i]? = some v → v.cells.all V.isCell = true) : RG ro w (.lst e es) (.slice (some a) es.length cap)
  | fn (f : Fn) (cs : List V) (xs : Array Value) (hl : cs.length = xs.size) (h : ∀ (i : Nat) (v : V) (x : Value), cs[i]? = some v → xs[i]? = some x → RG ro w v x) : RG ro w (.fn f cs) (.func f #[] xs)
  | ifc (t : TypeId) (v : V) (x : Value) (h : RG ro w v x) : RG ro w (.ifc t v) (.iface t x)
  | ifo (t u : TypeId) (x : Value) : RG ro w (.ifc t .junk) (.iface u x)
  | agg (cs : List V) (xs : Array Value) (hl : cs.length = xs.size) (h : ∀ (i : Nat) (v : V) (x : Value), cs[i]? = some v → xs[i]? = some x → RG ro w v x) : RG ro w (.agg cs) (.agg xs)
  | tup (cs : List V) (xs : Array Value) (hl : cs.length = xs.size) (h : ∀ (i : Nat) (v : V) (x : Value), cs[i]? = some v → xs[i]? = some x → RG ro w v x) : RG ro w (.tup cs) (.tuple xs)

theorem World.cell?_congr {w w' : World} {a : Addr} (h : w'.heap[a.block]? = w.heap[a.block]?) : w'.cell? a = w.cell? a := by
  unfold World.cell?; rw [h]

theorem Addr.block_add (a : Addr) (n : Nat) : (a.add n).block = a.block := by
  unfold Addr.add; split <;> rfl

theorem Addr.add_add (a : Addr) (m n : Nat) : (a.add m).add n = a.add (m + n) := by
  unfold Addr.add
  by_cases hm : m = 0
  · subst hm; simp
  · by_cases hn : n = 0
    · subst hn; simp
    · rw [if_neg hm, if_neg hn, if_neg (by omega)]
      simp [Nat.add_assoc]

theorem Addr.add_zero (a : Addr) : a.add 0 = a := by unfold Addr.add; simp

theorem Addr.add_mk (b o n : Nat) : (⟨b, o, none⟩ : Addr).add n = ⟨b, o + n, none⟩ := by
  unfold Addr.add
  by_cases h : n = 0
  · subst h; simp
  · rw [if_neg h]

theorem RG.mono {ro ro' : Nat → Prop} {w w' : World} (h1 : ∀ r, ro r → ro' r) (h2 : ∀ r, ro r → w'.heap[r]? = w.heap[r]?) {v : V} {x : Value} (h : RG ro w v x) : RG ro' w' v x := by
  induction h with
  | bool b => exact .bool b
  | int k n => exact .int k n
  | ub k n => exact .ub k n
  | str l => exact .str l
  | nilp => exact .nilp
  | nils => exact .nils
  | nilm => exact .nilm
  | nilf => exact .nilf
  | nili => exact .nili
  | emp a => exact .emp a
  | rop cs a f k1 k2 k3 ih =>
    refine .rop cs a f (fun j hj => ?_) (fun j v hv => ih j v hv) (fun hne => h1 _ (k3 hne))
    have hr : ro a.block := k3 (by intro e; simp [e] at hj)
    exact (World.cell?_congr (w := w) (w' := w') (by rw [Addr.block_add]; exact h2 _ hr)).trans (k1 j hj)
  | lst es a cap e f k0 k1 k2 k3 k4 k5 ih =>
    refine .lst es a cap e f k0 (fun i j hi hj => ?_) (fun i j v u hv hu => ih i j v u hv hu) (fun hne => h1 _ (k3 hne)) k4 k5
    have hr : ro a.block := k3 (by intro e; simp [e] at hi)
    exact (World.cell?_congr (w := w) (w' := w') (by rw [Addr.block_add]; exact h2 _ hr)).trans (k1 i j hi hj)
  | fn f cs xs hl k ih => exact .fn f cs xs hl fun i v x hv hx => ih i v x hv hx
  | ifc t v x k ih => exact .ifc t v x ih
  | ifo t u x => exact .ifo t u x
  | agg cs xs hl k ih => exact .agg cs xs hl fun i v x hv hx => ih i v x hv hx
  | tup cs xs hl k ih => exact .tup cs xs hl fun i v x hv hx => ih i v x hv hx

/-- A table of the program's: what it holds, and that this is all of it. -/
structure GlOk (ro : Nat → Prop) (w : World) (g : Nat) (cs : List V) : Prop where
  rg : RG ro w (.rop cs) (.pointer (some ⟨g, 0, none⟩))
  ro : ro g
  blk : ∃ C T fz, w.heap[g]? = some (.cells C T fz) ∧ C.size = cs.length

theorem GlOk.mono {ro ro' : Nat → Prop} {w w' : World} {g : Nat} {cs : List V} (h : GlOk ro w g cs) (h1 : ∀ r, ro r → ro' r) (h2 : ∀ r, ro r → w'.heap[r]? = w.heap[r]?) : GlOk ro' w' g cs := by
  obtain ⟨C, T, fz, b1, b2⟩ := h.blk
  exact ⟨h.rg.mono h1 h2, h1 _ h.ro, C, T, fz, (h2 _ h.ro).trans b1, b2⟩

/-- Where each plain block lies, the plain memory, the blocks that nobody writes, the world; the blocks that it may write ('my'). -/
structure Cx where
  ρ : Nat → Nat × Nat
  h : Heap
  ro : Nat → Prop
  w : World
  my : Nat → Prop

def hsz (h : Heap) (b : Nat) : Option Nat := match h[b]? with | some (.cells _ cs) => some cs.length | _ => none

def isMap (h : Heap) (b : Nat) : Prop := ∃ es, h[b]? = some (.map es)
def isIter (h : Heap) (b : Nat) : Prop := ∃ L, h[b]? = some (.siter L)

inductive RV (c : Cx) : V → Value → Prop
  | g {v : V} {x : Value} (h : RG c.ro c.w v x) : RV c v x
  | ptr (b o sz : Nat) (x : Value) (hp : ∃ a, x = .pointer (some a)) (hb : b < c.h.length) (hs : ∀ n, hsz c.h b = some n → sz ≤ n) (hx : hsz c.h b = some sz → x = .pointer (some ⟨(c.ρ b).1, (c.ρ b).2 + o, none⟩)) : RV c (.ptr b o sz) x
  | sl (b o e len cap sz : Nat) (x : Value) (hp : ∃ a m, x = .slice (some a) len m ∧ cap ≤ m) (hb : b < c.h.length) (hs : ∀ n, hsz c.h b = some n → sz ≤ n)
      (hx : hsz c.h b = some sz → ∃ cap' C T fz, x = .slice (some ⟨(c.ρ b).1, (c.ρ b).2 + o, none⟩) len cap' ∧ cap ≤ cap' ∧ c.w.heap[(c.ρ b).1]? = some (.cells C T fz) ∧ (c.ρ b).2 + o + cap' * e ≤ C.size) : RV c (.sl b o e len cap sz) x
  | mp (b : Nat) (x : Value) (hp : ∃ r, x = .map (some r)) (hb : b < c.h.length) (hx : isMap c.h b → x = .map (some (c.ρ b).1)) : RV c (.mp b) x
  | it (b : Nat) (x : Value) (hp : ∃ l, x = .func (.yield l) #[] #[]) (hb : b < c.h.length) (hx : isIter c.h b → x = .func (.yield (c.ρ b).1) #[] #[]) : RV c (.it b) x
  | fn (f : Fn) (cs : List V) (xs : Array Value) (hl : cs.length = xs.size) (h : ∀ (i : Nat) (v : V) (x : Value), cs[i]? = some v → xs[i]? = some x → RV c v x) : RV c (.fn f cs) (.func f #[] xs)
  | bm (f : FuncId) (cs : List V) (xs : Array Value) (hl : cs.length = xs.size) (h : ∀ (i : Nat) (v : V) (x : Value), cs[i]? = some v → xs[i]? = some x → RV c v x) : RV c (.bm f cs) (.func (.func f) xs #[])
  | ifc (t : TypeId) (v : V) (x : Value) (h : RV c v x) : RV c (.ifc t v) (.iface t x)
  | agg (cs : List V) (xs : Array Value) (hl : cs.length = xs.size) (h : ∀ (i : Nat) (v : V) (x : Value), cs[i]? = some v → xs[i]? = some x → RV c v x) : RV c (.agg cs) (.agg xs)
  | tup (cs : List V) (xs : Array Value) (hl : cs.length = xs.size) (h : ∀ (i : Nat) (v : V) (x : Value), cs[i]? = some v → xs[i]? = some x → RV c v x) : RV c (.tup cs) (.tuple xs)
  | junk (x : Value) : RV c .junk x

/-- The later context speaks of all that the earlier one does. -/
structure Ext (c c' : Cx) : Prop where
  ro : ∀ r, c.ro r → c'.ro r
  same : ∀ r, c.ro r → c'.w.heap[r]? = c.w.heap[r]?
  len : c.h.length ≤ c'.h.length
  blk : ∀ b, b < c.h.length → ∀ n', hsz c'.h b = some n' → ∃ n, hsz c.h b = some n ∧ n ≤ n' ∧ (n = n' → c'.ρ b = c.ρ b)
  mp : ∀ b, b < c.h.length → isMap c'.h b → isMap c.h b ∧ c'.ρ b = c.ρ b
  it : ∀ b, b < c.h.length → isIter c'.h b → isIter c.h b ∧ c'.ρ b = c.ρ b
  size : ∀ (r : Nat) C T fz, c.w.heap[r]? = some (.cells C T fz) → ∃ C' fz', c'.w.heap[r]? = some (.cells C' T fz') ∧ C'.size = C.size
  grow : c.w.heap.size ≤ c'.w.heap.size
  mine : ∀ r, c'.my r → c.my r ∨ c.w.heap.size ≤ r
  frame : ∀ r, r < c.w.heap.size → ¬ c.my r → c'.w.heap[r]? = c.w.heap[r]?
  ro2 : ∀ r, c'.ro r → c.ro r ∨ c.w.heap.size ≤ r
  rest : c'.w.os = c.w.os ∧ c'.w.tape = c.w.tape ∧ c'.w.output = c.w.output

theorem Ext.refl (c : Cx) : Ext c c := ⟨fun _ h => h, fun _ _ => rfl, Nat.le_refl _, fun _ _ n hn => ⟨n, hn, Nat.le_refl _, fun _ => rfl⟩, fun _ _ h => ⟨h, rfl⟩, fun _ _ h => ⟨h, rfl⟩, fun _ C _ fz h => ⟨C, fz, h, rfl⟩, Nat.le_refl _, fun _ h => .inl h, fun _ _ _ => rfl, fun _ h => .inl h, ⟨rfl, rfl, rfl⟩⟩

theorem Ext.trans {a b c : Cx} (h1 : Ext a b) (h2 : Ext b c) : Ext a c where
  ro r h := h2.ro r (h1.ro r h)
  same r h := (h2.same r (h1.ro r h)).trans (h1.same r h)
  len := Nat.le_trans h1.len h2.len
  blk i hi n' hn' := by
    obtain ⟨n, e1, e2, e3⟩ := h2.blk i (Nat.lt_of_lt_of_le hi h1.len) n' hn'
    obtain ⟨m, d1, d2, d3⟩ := h1.blk i hi n e1
    exact ⟨m, d1, Nat.le_trans d2 e2, fun e => by
      have : n = n' := by omega
      have : m = n := by omega
      rw [e3 (by omega), d3 (by omega)]⟩
  mp i hi hm := by
    obtain ⟨d1, d2⟩ := h2.mp i (Nat.lt_of_lt_of_le hi h1.len) hm
    obtain ⟨e1, e2⟩ := h1.mp i hi d1
    exact ⟨e1, d2.trans e2⟩
  it i hi hm := by
    obtain ⟨d1, d2⟩ := h2.it i (Nat.lt_of_lt_of_le hi h1.len) hm
    obtain ⟨e1, e2⟩ := h1.it i hi d1
    exact ⟨e1, d2.trans e2⟩
  size r C T fz hr := by
    obtain ⟨C', fz', e1, e2⟩ := h1.size r C T fz hr
    obtain ⟨C'', fz'', d1, d2⟩ := h2.size r C' T fz' e1
    exact ⟨C'', fz'', d1, d2.trans e2⟩
  grow := Nat.le_trans h1.grow h2.grow
  mine r h := (h2.mine r h).elim (h1.mine r) (fun k => .inr (Nat.le_trans h1.grow k))
  frame r hr h := (h2.frame r (Nat.lt_of_lt_of_le hr h1.grow) (fun k => (h1.mine r k).elim h (fun q => by omega))).trans (h1.frame r hr h)
  ro2 r h := (h2.ro2 r h).elim (h1.ro2 r) (fun k => .inr (Nat.le_trans h1.grow k))
  rest := ⟨h2.rest.1.trans h1.rest.1, h2.rest.2.1.trans h1.rest.2.1, h2.rest.2.2.trans h1.rest.2.2⟩

/-- What of it values ask. -/
structure ExtW (c c' : Cx) : Prop where
  ro : ∀ r, c.ro r → c'.ro r
  same : ∀ r, c.ro r → c'.w.heap[r]? = c.w.heap[r]?
  len : c.h.length ≤ c'.h.length
  blk : ∀ b, b < c.h.length → ∀ n', hsz c'.h b = some n' → ∃ n, hsz c.h b = some n ∧ n ≤ n' ∧ (n = n' → c'.ρ b = c.ρ b)
  mp : ∀ b, b < c.h.length → isMap c'.h b → isMap c.h b ∧ c'.ρ b = c.ρ b
  it : ∀ b, b < c.h.length → isIter c'.h b → isIter c.h b ∧ c'.ρ b = c.ρ b
  size : ∀ (r : Nat) C T fz, c.w.heap[r]? = some (.cells C T fz) → ∃ C' fz', c'.w.heap[r]? = some (.cells C' T fz') ∧ C'.size = C.size
theorem Ext.wk {c c' : Cx} (h : Ext c c') : ExtW c c' := ⟨h.ro, h.same, h.len, h.blk, h.mp, h.it, h.size⟩

theorem RV.monoW {c c' : Cx} (hE : ExtW c c') {v : V} {x : Value} (h : RV c v x) : RV c' v x := by
  induction h with
  | g h => exact .g (h.mono hE.ro hE.same)
  | ptr b o sz x hp hb hs hx =>
    refine .ptr b o sz x hp (Nat.lt_of_lt_of_le hb hE.len) (fun n hn => ?_) (fun hn => ?_)
    · obtain ⟨m, e1, e2, _⟩ := hE.blk b hb n hn
      exact Nat.le_trans (hs m e1) e2
    · obtain ⟨m, e1, e2, e3⟩ := hE.blk b hb sz hn
      have := hs m e1
      have hm : m = sz := by omega
      subst hm
      rw [e3 rfl]; exact hx e1
  | sl b o e len cap sz x hp hb hs hx =>
    refine .sl b o e len cap sz x hp (Nat.lt_of_lt_of_le hb hE.len) (fun n hn => ?_) (fun hn => ?_)
    · obtain ⟨m, e1, e2, _⟩ := hE.blk b hb n hn
      exact Nat.le_trans (hs m e1) e2
    · obtain ⟨m, e1, e2, e3⟩ := hE.blk b hb sz hn
      have := hs m e1
      have hm : m = sz := by omega
      subst hm
      rw [e3 rfl]
      obtain ⟨cap', C, T, fz, q1, q2, q3, q4⟩ := hx e1
      obtain ⟨C', fz', r1, r2⟩ := hE.size _ C T fz q3
      exact ⟨cap', C', T, fz', q1, q2, r1, by omega⟩
  | mp b x hp hb hx =>
    refine .mp b x hp (Nat.lt_of_lt_of_le hb hE.len) fun hm => ?_
    obtain ⟨e1, e2⟩ := hE.mp b hb hm
    rw [e2]; exact hx e1
  | it b x hp hb hx =>
    refine .it b x hp (Nat.lt_of_lt_of_le hb hE.len) fun hm => ?_
    obtain ⟨e1, e2⟩ := hE.it b hb hm
    rw [e2]; exact hx e1
  | fn f cs xs hl k ih => exact .fn f cs xs hl fun i v x hv hx => ih i v x hv hx
  | bm f cs xs hl k ih => exact .bm f cs xs hl fun i v x hv hx => ih i v x hv hx
  | ifc t v x k ih => exact .ifc t v x ih
  | agg cs xs hl k ih => exact .agg cs xs hl fun i v x hv hx => ih i v x hv hx
  | tup cs xs hl k ih => exact .tup cs xs hl fun i v x hv hx => ih i v x hv hx
  | junk x => exact .junk x

theorem RV.mono {c c' : Cx} (hE : Ext c c') {v : V} {x : Value} (h : RV c v x) : RV c' v x := h.monoW hE.wk

/-- Row by row. -/
def RVs (c : Cx) (vs : List V) (xs : List Value) : Prop := vs.length = xs.length ∧ ∀ (i : Nat) (v : V) (x : Value), vs[i]? = some v → xs[i]? = some x → RV c v x

theorem RVs.nil (c : Cx) : RVs c [] [] := ⟨rfl, fun i v x h => by simp at h⟩
theorem RVs.cons {c : Cx} {v : V} {x : Value} {vs : List V} {xs : List Value} (h : RV c v x) (hs : RVs c vs xs) : RVs c (v :: vs) (x :: xs) :=
  ⟨by simp [hs.1], fun i u y hu hy => by
    cases i with
    | zero => simp at hu hy; subst hu; subst hy; exact h
    | succ i => simp at hu hy; exact hs.2 i u y hu hy⟩
theorem RVs.head {c : Cx} {v : V} {x : Value} {vs : List V} {xs : List Value} (h : RVs c (v :: vs) (x :: xs)) : RV c v x := h.2 0 v x rfl rfl
theorem RVs.tail {c : Cx} {v : V} {x : Value} {vs : List V} {xs : List Value} (h : RVs c (v :: vs) (x :: xs)) : RVs c vs xs :=
  ⟨by have := h.1; simpa using this, fun i u y hu hy => h.2 (i + 1) u y (by simpa using hu) (by simpa using hy)⟩
theorem RVs.cons_left {c : Cx} {v : V} {vs : List V} {ys : List Value} (h : RVs c (v :: vs) ys) : ∃ x xs, ys = x :: xs ∧ RV c v x ∧ RVs c vs xs := by
  cases ys with
  | nil => have := h.1; simp at this
  | cons x xs => exact ⟨x, xs, rfl, h.head, h.tail⟩
theorem RVs.nil_left {c : Cx} {ys : List Value} (h : RVs c [] ys) : ys = [] := by
  cases ys with
  | nil => rfl
  | cons x xs => have := h.1; simp at this
theorem RVs.append {c : Cx} {vs us : List V} {xs ys : List Value} (h1 : RVs c vs xs) (h2 : RVs c us ys) : RVs c (vs ++ us) (xs ++ ys) := by
  refine ⟨by simp [h1.1, h2.1], fun i v x hv hx => ?_⟩
  by_cases hi : i < vs.length
  · rw [List.getElem?_append_left hi] at hv
    rw [List.getElem?_append_left (by rw [← h1.1]; exact hi)] at hx
    exact h1.2 i v x hv hx
  · rw [List.getElem?_append_right (by omega)] at hv
    rw [List.getElem?_append_right (by rw [← h1.1]; omega), ← h1.1] at hx
    exact h2.2 _ v x hv hx
theorem RVs.take {c : Cx} {vs : List V} {xs : List Value} (h : RVs c vs xs) (n : Nat) : RVs c (vs.take n) (xs.take n) :=
  ⟨by simp [h.1], fun i v x hv hx => by
    rw [List.getElem?_take] at hv hx
    split at hv
    · rename_i hi; rw [if_pos hi] at hx; exact h.2 i v x hv hx
    · cases hv⟩
theorem RVs.drop {c : Cx} {vs : List V} {xs : List Value} (h : RVs c vs xs) (n : Nat) : RVs c (vs.drop n) (xs.drop n) :=
  ⟨by simp [h.1], fun i v x hv hx => by
    rw [List.getElem?_drop] at hv hx
    exact h.2 _ v x hv hx⟩
theorem RVs.monoW {c c' : Cx} (hE : ExtW c c') {vs : List V} {xs : List Value} (h : RVs c vs xs) : RVs c' vs xs := ⟨h.1, fun i v x hv hx => (h.2 i v x hv hx).monoW hE⟩
theorem RVs.mono {c c' : Cx} (hE : Ext c c') {vs : List V} {xs : List Value} (h : RVs c vs xs) : RVs c' vs xs := ⟨h.1, fun i v x hv hx => (h.2 i v x hv hx).mono hE⟩
theorem RVs.get {c : Cx} {vs : List V} {xs : List Value} (h : RVs c vs xs) {i : Nat} {v : V} (hv : vs[i]? = some v) : ∃ x, xs[i]? = some x ∧ RV c v x := by
  have hi : i < xs.length := by rw [← h.1]; exact (List.getElem?_eq_some_iff.1 hv).1
  exact ⟨xs[i], List.getElem?_eq_getElem hi, h.2 i v _ hv (List.getElem?_eq_getElem hi)⟩

/-! Opening -/
theorem RV.bool_inv {c : Cx} {b : Bool} {x : Value} (h : RV c (.bool b) x) : x = .bool b := by cases h with | g h => cases h; rfl
theorem RV.int_inv {c : Cx} {k : IntKind} {n : Int} {x : Value} (h : RV c (.int k n) x) : x = .int k n := by cases h with | g h => cases h; rfl
theorem RG.ub_inv {ro : Nat → Prop} {w : World} {k : IntKind} {x : Value} (h : RG ro w (.ub k) x) : ∃ n, x = .int k n := by cases h with | ub k n => exact ⟨n, rfl⟩
theorem RV.str_inv {c : Cx} {l : List UInt8} {x : Value} (h : RV c (.str l) x) : x = .string ⟨⟨l⟩⟩ := by cases h with | g h => cases h; rfl
theorem RV.nilp_inv {c : Cx} {x : Value} (h : RV c .nilp x) : x = .pointer none := by cases h with | g h => cases h; rfl
theorem RV.nils_inv {c : Cx} {x : Value} (h : RV c .nils x) : x = .slice none 0 0 := by cases h with | g h => cases h; rfl
theorem RV.nilm_inv {c : Cx} {x : Value} (h : RV c .nilm x) : x = .map none := by cases h with | g h => cases h; rfl
theorem RV.nilf_inv {c : Cx} {x : Value} (h : RV c .nilf x) : x = .nilFunc := by cases h with | g h => cases h; rfl
theorem RV.nili_inv {c : Cx} {x : Value} (h : RV c .nili x) : x = .nilIface := by cases h with | g h => cases h; rfl
theorem RV.emp_inv {c : Cx} {x : Value} (h : RV c .emp x) : ∃ a, x = .slice (some a) 0 0 := by cases h with | g h => cases h with | emp a => exact ⟨a, rfl⟩
theorem RV.agg_inv {c : Cx} {cs : List V} {x : Value} (h : RV c (.agg cs) x) : ∃ xs, x = .agg xs ∧ RVs c cs xs.toList := by
  cases h with
  | g h => cases h with
    | agg _ xs hl k => exact ⟨xs, rfl, by simpa using hl, fun i v x hv hx => .g (k i v x hv (by simpa using hx))⟩
  | agg _ xs hl k => exact ⟨xs, rfl, by simpa using hl, fun i v x hv hx => k i v x hv (by simpa using hx)⟩
theorem RV.tup_inv {c : Cx} {cs : List V} {x : Value} (h : RV c (.tup cs) x) : ∃ xs, x = .tuple xs ∧ RVs c cs xs.toList := by
  cases h with
  | g h => cases h with
    | tup _ xs hl k => exact ⟨xs, rfl, by simpa using hl, fun i v x hv hx => .g (k i v x hv (by simpa using hx))⟩
  | tup _ xs hl k => exact ⟨xs, rfl, by simpa using hl, fun i v x hv hx => k i v x hv (by simpa using hx)⟩
theorem RV.fn_inv {c : Cx} {f : Fn} {cs : List V} {x : Value} (h : RV c (.fn f cs) x) : ∃ xs, x = .func f #[] xs ∧ RVs c cs xs.toList := by
  cases h with
  | g h => cases h with
    | fn _ _ xs hl k => exact ⟨xs, rfl, by simpa using hl, fun i v x hv hx => .g (k i v x hv (by simpa using hx))⟩
  | fn _ _ xs hl k => exact ⟨xs, rfl, by simpa using hl, fun i v x hv hx => k i v x hv (by simpa using hx)⟩
theorem RV.bm_inv {c : Cx} {f : FuncId} {cs : List V} {x : Value} (h : RV c (.bm f cs) x) : ∃ xs, x = .func (.func f) xs #[] ∧ RVs c cs xs.toList := by
  cases h with
  | g h => cases h
  | bm _ _ xs hl k => exact ⟨xs, rfl, by simpa using hl, fun i v x hv hx => k i v x hv (by simpa using hx)⟩
theorem RV.ifc_inv {c : Cx} {t : TypeId} {v : V} {x : Value} (h : RV c (.ifc t v) x) (hj : v ≠ .junk) : ∃ y, x = .iface t y ∧ RV c v y := by
  cases h with
  | g h => cases h with
    | ifc _ _ y k => exact ⟨y, rfl, .g k⟩
    | ifo _ _ _ => exact absurd rfl hj
  | ifc _ _ y k => exact ⟨y, rfl, k⟩
/-- Some value with its type, whichever. -/
theorem RV.ifc_any {c : Cx} {t : TypeId} {v : V} {x : Value} (h : RV c (.ifc t v) x) : ∃ u y, x = .iface u y := by
  cases h with
  | g h => cases h with
    | ifc _ _ y k => exact ⟨_, y, rfl⟩
    | ifo _ _ y => exact ⟨_, y, rfl⟩
  | ifc _ _ y k => exact ⟨_, y, rfl⟩
theorem RV.ptr_inv {c : Cx} {b o sz : Nat} {x : Value} (h : RV c (.ptr b o sz) x) (hs : hsz c.h b = some sz) : x = .pointer (some ⟨(c.ρ b).1, (c.ρ b).2 + o, none⟩) := by
  cases h with
  | g h => cases h
  | ptr _ _ _ _ _ _ _ hx => exact hx hs
theorem RV.rop_inv {c : Cx} {cs : List V} {x : Value} (h : RV c (.rop cs) x) : ∃ (a : Addr) (f : Nat → Value), x = .pointer (some a) ∧ (∀ j, j < cs.length → c.w.cell? (a.add j) = some (f j)) ∧ (∀ (j : Nat) (v : V), cs[j]? = some v → RG c.ro c.w v (f j)) ∧ (cs ≠ [] → c.ro a.block) := by
  cases h with | g h => cases h with | rop _ a f h1 h2 h3 => exact ⟨a, f, rfl, h1, h2, h3⟩
theorem RV.lst_inv {c : Cx} {e : Nat} {es : List V} {x : Value} (h : RV c (.lst e es) x) : ∃ (a : Addr) (cap : Nat) (f : Nat → Nat → Value), x = .slice (some a) es.length cap ∧ (∀ (i : Nat) (v : V), es[i]? = some v → v.cells.length = e) ∧
    (∀ i j, i < es.length → j < e → c.w.cell? (a.add (i * e + j)) = some (f i j)) ∧ (∀ (i j : Nat) (v u : V), es[i]? = some v → v.cells[j]? = some u → RG c.ro c.w u (f i j)) ∧ (es ≠ [] → c.ro a.block) ∧ es.length ≤ cap ∧ (∀ (i : Nat) (v : V), es[i]? = some v → v.cells.all V.isCell = true) := by
  cases h with | g h => cases h with | lst _ a cap e f h0 h1 h2 h3 h4 h5 => exact ⟨a, cap, f, rfl, h0, h1, h2, h3, h4, h5⟩
theorem RV.sl_inv {c : Cx} {b o e len cap sz : Nat} {x : Value} (h : RV c (.sl b o e len cap sz) x) (hs : hsz c.h b = some sz) :
    ∃ cap' C T fz, x = .slice (some ⟨(c.ρ b).1, (c.ρ b).2 + o, none⟩) len cap' ∧ cap ≤ cap' ∧ c.w.heap[(c.ρ b).1]? = some (.cells C T fz) ∧ (c.ρ b).2 + o + cap' * e ≤ C.size := by
  cases h with
  | g h => cases h
  | sl _ _ _ _ _ _ _ _ _ _ hx => exact hx hs
theorem RV.mp_inv {c : Cx} {b : Nat} {x : Value} (h : RV c (.mp b) x) (hm : isMap c.h b) : x = .map (some (c.ρ b).1) := by
  cases h with
  | g h => cases h
  | mp _ _ _ _ hx => exact hx hm
theorem RV.it_inv {c : Cx} {b : Nat} {x : Value} (h : RV c (.it b) x) (hm : isIter c.h b) : x = .func (.yield (c.ρ b).1) #[] #[] := by
  cases h with
  | g h => cases h
  | it _ _ _ _ hx => exact hx hm

theorem RV.agg_mk {c : Cx} {cs : List V} {xs : List Value} (h : RVs c cs xs) : RV c (.agg cs) (.agg ⟨xs⟩) :=
  .agg cs ⟨xs⟩ (by simpa using h.1) fun i v x hv hx => h.2 i v x hv (by simpa using hx)
theorem RV.tup_mk {c : Cx} {cs : List V} {xs : List Value} (h : RVs c cs xs) : RV c (.tup cs) (.tuple ⟨xs⟩) :=
  .tup cs ⟨xs⟩ (by simpa using h.1) fun i v x hv hx => h.2 i v x hv (by simpa using hx)
theorem RV.fn_mk {c : Cx} {f : Fn} {cs : List V} {xs : List Value} (h : RVs c cs xs) : RV c (.fn f cs) (.func f #[] ⟨xs⟩) :=
  .fn f cs ⟨xs⟩ (by simpa using h.1) fun i v x hv hx => h.2 i v x hv (by simpa using hx)
theorem RV.bm_mk {c : Cx} {f : FuncId} {cs : List V} {xs : List Value} (h : RVs c cs xs) : RV c (.bm f cs) (.func (.func f) ⟨xs⟩ #[]) :=
  .bm f cs ⟨xs⟩ (by simpa using h.1) fun i v x hv hx => h.2 i v x hv (by simpa using hx)
theorem RV.undM (c : Cx) : RV c Sb.und undef := RV.tup_mk (RVs.nil c)
theorem RV.und_inv {c : Cx} {x : Value} (h : RV c Sb.und x) : x = undef := by
  obtain ⟨xs, rfl, hs⟩ := h.tup_inv
  have := hs.nil_left
  cases xs; simp at this; subst this; rfl

/-- The cells of a value. -/
theorem RV.cells {c : Cx} {v : V} {x : Value} (h : RV c v x) (hc : v.cells.all V.isCell = true) : RVs c v.cells x.cells.toList := by
  cases v with
  | agg cs => obtain ⟨xs, rfl, hs⟩ := h.agg_inv; exact hs
  | junk => simp [V.cells, V.isCell] at hc
  | tup cs => simp [V.cells, V.isCell] at hc
  | ptr b o sz =>
    have : x.cells = #[x] := by cases h with | g h => cases h | ptr _ _ _ _ hp _ _ _ => obtain ⟨a, rfl⟩ := hp; rfl
    rw [this]; exact RVs.cons h (RVs.nil c)
  | sl b o e len cap sz =>
    have : x.cells = #[x] := by cases h with | g h => cases h | sl _ _ _ _ _ _ _ hp _ _ _ => obtain ⟨a, m, rfl, _⟩ := hp; rfl
    rw [this]; exact RVs.cons h (RVs.nil c)
  | it b =>
    have : x.cells = #[x] := by cases h with | g h => cases h | it _ _ hp _ _ => obtain ⟨a, rfl⟩ := hp; rfl
    rw [this]; exact RVs.cons h (RVs.nil c)
  | mp b =>
    have : x.cells = #[x] := by cases h with | g h => cases h | mp _ _ hp _ _ => obtain ⟨a, rfl⟩ := hp; rfl
    rw [this]; exact RVs.cons h (RVs.nil c)
  | _ =>
    have : x.cells = #[x] := by
      cases h with
      | g h => cases h <;> rfl
      | _ => rfl
    rw [this]; exact RVs.cons h (RVs.nil c)

def live (h : Heap) (b : Nat) : Prop := ∃ k, h[b]? = some k ∧ k ≠ .dead

def CellsOk (c : Cx) (b : Nat) (T : TypeId) (cs : List V) : Prop :=
  ∃ (C : Array Value) (lo hi : Nat), c.w.heap[(c.ρ b).1]? = some (.cells C T (lo, hi)) ∧ (c.ρ b).2 + cs.length ≤ C.size ∧
    (∀ (j : Nat) (v : V), cs[j]? = some v → ∃ x, C[(c.ρ b).2 + j]? = some x ∧ RV c v x) ∧ (∀ j, (c.ρ b).2 ≤ j → j < C.size → ¬ (lo ≤ j ∧ j < hi)) ∧ cs.all V.isCell = true
def MapOk (c : Cx) (b : Nat) (es : List (V × V)) : Prop :=
  ∃ (xs : Array MapEntry) (clock : Nat), c.w.heap[(c.ρ b).1]? = some (.map xs clock) ∧ xs.size = es.length ∧
    ∀ (i : Nat) (k v : V), es[i]? = some (k, v) → ∃ e, xs[i]? = some e ∧ RV c k e.key ∧ RV c v e.val
/-- The jump by which a round was left. -/
def pendC : Option Nat → Code
  | none => .ret
  | some i => .exit i
/-- A loop's record. -/
structure LoopOk (c : Cx) (L : LoopD) (lp : Loop) : Prop where
  st : lp.state = L.st
  pend : lp.pending = L.pend.map pendC
  ps : lp.params.toList = L.params
  asg : lp.assign = L.assign
  body : lp.body = L.body
  tmps : RVs c L.tmps lp.tmps.toList
def IterOk (c : Cx) (b : Nat) (L : LoopD) : Prop := ∃ lp, c.w.heap[(c.ρ b).1]? = some (.loop lp) ∧ LoopOk c L lp
theorem LoopOk.mono {c c' : Cx} (hE : Ext c c') {L : LoopD} {lp : Loop} (h : LoopOk c L lp) : LoopOk c' L lp := ⟨h.st, h.pend, h.ps, h.asg, h.body, h.tmps.mono hE⟩
theorem IterOk.mono {c c' : Cx} (hE : Ext c c') {b : Nat} {L : LoopD} (h : IterOk c b L) (hw : c'.w.heap[(c.ρ b).1]? = c.w.heap[(c.ρ b).1]?) (hρ : c'.ρ b = c.ρ b) : IterOk c' b L := by
  obtain ⟨lp, h1, h2⟩ := h
  exact ⟨lp, by rw [hρ, hw]; exact h1, h2.mono hE⟩

/-- The plain memory stands for (a part of) the world. -/
structure Rel (E : Env) (c : Cx) : Prop where
  cells : ∀ b T cs, c.h[b]? = some (.cells T cs) → CellsOk c b T cs
  maps : ∀ b es, c.h[b]? = some (.map es) → MapOk c b es
  iters : ∀ b L, c.h[b]? = some (.siter L) → IterOk c b L
  own : ∀ b, live c.h b → ¬ c.ro (c.ρ b).1
  inj : ∀ b b', live c.h b → live c.h b' → (c.ρ b).1 = (c.ρ b').1 → b = b'
  rolt : ∀ r, c.ro r → r < c.w.heap.size
  gl : ∀ g cs, E.gl g = some cs → GlOk c.ro c.w g cs
  mine : ∀ b, live c.h b → c.my (c.ρ b).1
  ali : ∀ b T cs d, c.h[b]? = some (.cells T cs) → E.ty T = some d → (c.ρ b).2 % d.size = 0

theorem Rel.lt {E : Env} {c : Cx} (hR : Rel E c) {b : Nat} (hl : live c.h b) : (c.ρ b).1 < c.w.heap.size := by
  obtain ⟨k, hk, hne⟩ := hl
  cases k with
  | dead => exact absurd rfl hne
  | cells T cs => obtain ⟨C, lo, hi, h, _⟩ := hR.cells b T cs hk; exact (Array.getElem?_eq_some_iff.1 h).1
  | map es => obtain ⟨C, lo, h, _⟩ := hR.maps b es hk; exact (Array.getElem?_eq_some_iff.1 h).1
  | siter L => obtain ⟨lp, h, _⟩ := hR.iters b L hk; exact (Array.getElem?_eq_some_iff.1 h).1

theorem CellsOk.mono {c c' : Cx} (hE : Ext c c') {b : Nat} {T : TypeId} {cs : List V} (h : CellsOk c b T cs) (hw : c'.w.heap[(c.ρ b).1]? = c.w.heap[(c.ρ b).1]?) (hρ : c'.ρ b = c.ρ b) : CellsOk c' b T cs := by
  obtain ⟨C, lo, hi, h1, h2, h3, h4, h5⟩ := h
  refine ⟨C, lo, hi, by rw [hρ, hw]; exact h1, by rw [hρ]; exact h2, fun j v hv => ?_, by rw [hρ]; exact h4, h5⟩
  obtain ⟨x, hx, hr⟩ := h3 j v hv
  exact ⟨x, by rw [hρ]; exact hx, hr.mono hE⟩
theorem MapOk.mono {c c' : Cx} (hE : Ext c c') {b : Nat} {es : List (V × V)} (h : MapOk c b es) (hw : c'.w.heap[(c.ρ b).1]? = c.w.heap[(c.ρ b).1]?) (hρ : c'.ρ b = c.ρ b) : MapOk c' b es := by
  obtain ⟨xs, clock, h1, h2, h3⟩ := h
  refine ⟨xs, clock, by rw [hρ, hw]; exact h1, h2, fun i k v hv => ?_⟩
  obtain ⟨e, he, hk, hr⟩ := h3 i k v hv
  exact ⟨e, he, hk.mono hE, hr.mono hE⟩

/-- One plain block (an old or the next one) turns. -/
theorem Rel.touch {E : Env} {c c' : Cx} (hR : Rel E c) (hE : Ext c c') (b0 : Nat) (hro : c'.ro = c.ro)
    (hh : ∀ b, b ≠ b0 → c'.h[b]? = c.h[b]?) (hρ : ∀ b, b ≠ b0 → c'.ρ b = c.ρ b)
    (hw : ∀ b, b ≠ b0 → live c.h b → c'.w.heap[(c.ρ b).1]? = c.w.heap[(c.ρ b).1]?) (hsz : c.w.heap.size ≤ c'.w.heap.size)
    (hmy : ∀ r, c.my r → c'.my r) (hmy0 : live c'.h b0 → c'.my (c'.ρ b0).1)
    (hal0 : ∀ T cs d, c'.h[b0]? = some (.cells T cs) → E.ty T = some d → (c'.ρ b0).2 % d.size = 0)
    (h0c : ∀ T cs, c'.h[b0]? = some (.cells T cs) → CellsOk c' b0 T cs) (h0m : ∀ es, c'.h[b0]? = some (.map es) → MapOk c' b0 es)
    (h0i : ∀ L, c'.h[b0]? = some (.siter L) → IterOk c' b0 L)
    (h0o : live c'.h b0 → ¬ c.ro (c'.ρ b0).1 ∧ ∀ b, b ≠ b0 → live c.h b → (c.ρ b).1 ≠ (c'.ρ b0).1) : Rel E c' := by
  have hl : ∀ b, b ≠ b0 → live c'.h b → live c.h b := fun b hb ⟨k, hk, hne⟩ => ⟨k, by rw [← hh b hb]; exact hk, hne⟩
  refine ⟨fun b T cs hb => ?_, fun b es hb => ?_, fun b L hb => ?_, fun b hb => ?_, fun b b' hb hb' he => ?_, fun r hr => ?_, fun g cs hg => ?_, fun b hb => ?_, fun b T cs d hb hd => ?_⟩
  · by_cases e : b = b0
    · subst e; exact h0c T cs hb
    · rw [hh b e] at hb
      exact (hR.cells b T cs hb).mono hE (hw b e ⟨_, hb, by simp⟩) (hρ b e)
  · by_cases e : b = b0
    · subst e; exact h0m es hb
    · rw [hh b e] at hb
      exact (hR.maps b es hb).mono hE (hw b e ⟨_, hb, by simp⟩) (hρ b e)
  · by_cases e : b = b0
    · subst e; exact h0i L hb
    · rw [hh b e] at hb
      exact (hR.iters b L hb).mono hE (hw b e ⟨_, hb, by simp⟩) (hρ b e)
  · rw [hro]
    by_cases e : b = b0
    · subst e; exact (h0o hb).1
    · rw [hρ b e]; exact hR.own b (hl b e hb)
  · by_cases e : b = b0
    · by_cases e' : b' = b0
      · omega
      · subst e; exact absurd (by rw [hρ b' e'] at he; exact he.symm) ((h0o hb).2 b' e' (hl b' e' hb'))
    · by_cases e' : b' = b0
      · subst e'; exact absurd (by rw [hρ b e] at he; exact he) ((h0o hb').2 b e (hl b e hb))
      · rw [hρ b e, hρ b' e'] at he; exact hR.inj b b' (hl b e hb) (hl b' e' hb') he
  · rw [hro] at hr; exact Nat.lt_of_lt_of_le (hR.rolt r hr) hsz
  · exact (hR.gl g cs hg).mono hE.ro hE.same
  · by_cases e : b = b0
    · subst e; exact hmy0 hb
    · rw [hρ b e]; exact hmy _ (hR.mine b (hl b e hb))
  · by_cases e : b = b0
    · subst e; exact hal0 T cs d hb hd
    · rw [hρ b e]; rw [hh b e] at hb; exact hR.ali b T cs d hb hd

end Go.Sb
