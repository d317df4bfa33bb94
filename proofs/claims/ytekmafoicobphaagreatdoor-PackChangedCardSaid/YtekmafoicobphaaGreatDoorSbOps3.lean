/- Each operation: what the evaluator answers is what the machine does. -/
import Derived.Test.YtekmafoicobphaaGreatDoorSbMem2
import GoSem.Dispatch
set_option linter.unusedVariables false
set_option linter.unusedSimpArgs false
namespace Go.Sb
def zeroX : V → Value
 | .bool b => .bool b
 | .int k n => .int k n
 | .str l => .string ⟨⟨l⟩⟩
 | .nilp => .pointer none
 | .nils => .slice none 0 0
 | .nilm => .map none
 | .nilf => .nilFunc
 | .nili => .nilIface
 | _ => .tuple #[]
def yeb : V → Bool
 | .bool _ | .int _ _ | .str _ | .nilp | .nils | .nilm | .nilf | .nili => true
 | _ => false
def TyD.zeroV (d : TyD) : Value := if d.agg then .agg (d.zero.map zeroX).toArray else zeroX (d.zero.headD .nili)
structure TyOk (P : Program) (t : TypeId) (d : TyD) : Prop where
 u : (P.underlying t).map TyU.of = some d.u
 s : (P.info? t).map (fun i => (i.size, i.bytes)) = some (d.size, d.bytes)
 z : (P.info? t).bind (·.zero) = some d.zeroV
 zo : d.zero.all yeb = true
 zl : d.agg = false → d.zero.length = 1
 zs : d.zero.length = d.size
structure FnOk (P : Program) (f : FuncId) (d : FnD) : Prop where
 fn : ∃ F, P.funcs[f]? = some F ∧ F.body = some d.body ∧ F.ntmps = d.nt ∧ F.results.toList = d.res ∧ (F.name == "runtime.NumGoroutine") = false
def seqs : List Code → Code → Code
 | [], c => c
 | x :: xs, c => .seq x (seqs xs c)
structure GuardOk (P : Program) (f : FuncId) (G : GuardD) : Prop where
 fn : FnOk P f G.d
 gn : FnOk P G.g G.gd
 body : G.d.body = seqs G.first (.seq (.region G.id #[G.mkf, G.df] false) G.rest)
 gbody : G.gd.body = .seq (.region G.gid #[G.rc] false) G.grest
 mkf : G.mkf.guard = none ∧ ∃ f cs, G.mkf.op = .makeFunc (.func f) #[] cs
 pl : (∀ x ∈ G.first, ycv x = true) ∧ ycv G.rest = true ∧ ycv G.grest = true
 df : G.df.guard = none ∧ ∃ ts, G.df.op = .defer { callee := .value (.tmp G.t), args := #[], argTypes := ts }
 rc : G.rc.guard = none ∧ ∃ ts, G.rc.op = .call { callee := .builtin .recover, args := #[], argTypes := ts }
def ExtOk (P : Program) (f : FuncId) (p : List V → Option V) : Prop :=
 ∀ (c : Cx) (vs : List V) (xs : List Value) (v : V), RVs c vs xs → p vs = some v → ∃ x, (callFunc f ⟨xs⟩).run P c.w = .ok (.value x) c.w ∧ RV c v x
def LibOk (P : Program) (E : Env) (f : FuncId) (p : List V → Option V) : Prop :=
 ∀ (ro : Nat → Prop) (w : World) (vs : List V) (xs : List Value) (v : V), (∀ r, ro r → r < w.heap.size) → (∀ g cs, E.gl g = some cs → GlOk ro w g cs) →
  vs.length = xs.length → (∀ (i : Nat) (u : V) (x : Value), vs[i]? = some u → xs[i]? = some x → RG ro w u x) → p vs = some v →
  Calls P f ⟨xs⟩ w fun e w' => (w'.os = w.os ∧ w'.tape = w.tape ∧ w'.output = w.output) ∧ w.heap.size ≤ w'.heap.size ∧ (∀ r, r < w.heap.size → w'.heap[r]? = w.heap[r]?) ∧ ∃ x, e = .returned x ∧ RG (fun r => ro r ∨ (w.heap.size ≤ r ∧ r < w'.heap.size)) w' v x
structure EnvOk (P : Program) (E : Env) : Prop where
 ty : ∀ t d, E.ty t = some d → TyOk P t d
 fn : ∀ f d, E.fn f = some d → FnOk P f d
 ext : ∀ f p, E.ext f = some p → ExtOk P f p
 lib : ∀ f p, E.lib f = some p → LibOk P E f p ∧ ∃ F, P.funcs[f]? = some F ∧ F.body.isSome = true ∧ (F.name == "runtime.NumGoroutine") = false
 eqs : ∀ t f, E.eqs t = some f → P.eqGuardType P.depth t = false ∧ ∀ (c : Cx) (a b : List V) (xs ys : List Value) (r : Bool), RVs c a xs → RVs c b ys → f a b = some r → (Op.equal t (.agg ⟨xs⟩) (.agg ⟨ys⟩)).run P c.w = .ok r c.w
 mixed : P.follows .mixedOrders = true
 gd : ∀ f G, E.gd f = some G → GuardOk P f G := by intro f G h; cases h
section
variable {P : Program} {E : Env} {c : Cx}
theorem TyOk.und {t : TypeId} {d : TyD} (h : TyOk P t d) : ∃ u, P.underlying t = some u ∧ TyU.of u = d.u := by
 have := h.u
 cases hu : P.underlying t with
 | none => rw [hu] at this; cases this
 | some u => rw [hu] at this; exact ⟨u, rfl, by simpa using this⟩
theorem TyOk.info {t : TypeId} {d : TyD} (h : TyOk P t d) : ∃ i, P.info? t = some i ∧ i.size = d.size ∧ i.bytes = d.bytes ∧ i.zero = some d.zeroV := by
 have h1 := h.s
 have h2 := h.z
 cases hu : P.info? t with
 | none => rw [hu] at h1; cases h1
 | some i => rw [hu] at h1 h2; simp at h1 h2; exact ⟨i, rfl, h1.1, h1.2, h2⟩
theorem yaj {t : TypeId} {u : TypeDesc} (h : P.underlying t = some u) (w : World) : (underlying t).run P w = .ok u w := by
 simp [underlying, h]
theorem ygm {t : TypeId} {i : TypeInfo} (h : P.info? t = some i) (w : World) : (typeInfo t).run P w = .ok i w := by
 simp [typeInfo, h]
theorem TyOk.run_size {t : TypeId} {d : TyD} (h : TyOk P t d) (w : World) : (sizeOf t).run P w = .ok d.size w := by
 obtain ⟨i, h1, h2, _, _⟩ := h.info
 simp [sizeOf, ygm h1, h2]
theorem TyOk.run_zero {t : TypeId} {d : TyD} (h : TyOk P t d) (w : World) : (zeroValue t).run P w = .ok d.zeroV w := by
 obtain ⟨i, h1, _, _, h2⟩ := h.info
 simp [zeroValue, ygm h1, h2]
theorem TyOk.run_agg {t : TypeId} {d : TyD} (h : TyOk P t d) (w : World) : (isAgg t).run P w = .ok d.agg w := by
 obtain ⟨u, h1, h2⟩ := h.und
 simp only [isAgg, Sem.run_bind, yaj h1, Result.andThen_ok]
 cases u <;> simp [TyU.of] at h2 <;> simp [TyD.agg, ← h2]
theorem ybj {u : TypeDesc} {e : TypeId} (h : TyU.of u = .slice e) : u = .slice e := by cases u <;> simp [TyU.of] at h; rw [h]
theorem yfo {u : TypeDesc} {n : Nat} {e : TypeId} (h : TyU.of u = .array n e) : u = .array n e := by cases u <;> simp [TyU.of] at h; rw [h.1, h.2]
theorem yfp {u : TypeDesc} {k e : TypeId} (h : TyU.of u = .map k e) : u = .map k e := by cases u <;> simp [TyU.of] at h; rw [h.1, h.2]
theorem yec {u : TypeDesc} (h : TyU.of u = .str) : u = .string := by cases u <;> simp [TyU.of] at h; rfl
theorem yfa {u : TypeDesc} {k : IntKind} (h : TyU.of u = .int k) : u = .int k := by cases u <;> simp [TyU.of] at h; rw [h]
theorem yhp {u : TypeDesc} (h : TyU.of u = .bool) : u = .bool := by cases u <;> simp [TyU.of] at h; rfl
theorem yen {u : TypeDesc} {e : TypeId} (h : TyU.of u = .ptr e) : u = .pointer e := by cases u <;> simp [TyU.of] at h; rw [h]
theorem yji {u : TypeDesc} {l : List (TypeId × Nat)} (h : TyU.of u = .struct l) : ∃ fs : Array Field, u = .struct fs ∧ fs.toList.map (fun f => (f.type, f.offset)) = l := by
 cases u <;> simp [TyU.of] at h; exact ⟨_, rfl, h⟩
theorem yln {u : TypeDesc} (h : TyU.of u = .func) : ∃ a b v, u = .func a b v := by cases u <;> simp [TyU.of] at h; exact ⟨_, _, _, rfl⟩
theorem ylo {u : TypeDesc} (h : TyU.of u = .iface) : ∃ ms, u = .interface ms := by cases u <;> simp [TyU.of] at h; exact ⟨_, rfl⟩
theorem ylp {v : V} (h : yeb v = true) : RG c.ro c.w v (zeroX v) := by
 cases v <;> simp [yeb] at h <;> simp only [zeroX] <;> constructor
theorem ygn {l : List V} (h : l.all yeb = true) : RVs c l (l.map zeroX) := by
 refine ⟨by simp, fun i v x hv hx => ?_⟩
 rw [List.getElem?_map, hv] at hx; simp at hx; subst hx
 exact .g (ylp (List.all_eq_true.1 h _ (List.mem_of_getElem? hv)))
theorem ytl {v : V} : (zeroX v).cells = #[zeroX v] := by cases v <;> rfl
theorem TyOk.zero_cells {t : TypeId} {d : TyD} (h : TyOk P t d) : d.zeroV.cells = (d.zero.map zeroX).toArray := by
 unfold TyD.zeroV
 by_cases ha : d.agg
 ·rw [if_pos ha]; rfl
 ·rw [if_neg ha, ytl]
  have := h.zl (by simpa using ha)
  match hz : d.zero, this with
  | [v], _ => simp
theorem ylq {l : List V} (h : l.all yeb = true) : l.all V.isCell = true := by
 rw [List.all_eq_true] at h ⊢
 intro v hv
 have := h v hv
 cases v <;> simp [yeb] at this <;> rfl
def Does (P : Program) (E : Env) (c : Cx) (s : Sem Value) (v : V) (h' : Heap) : Prop :=
 ∃ x c', s.run P c.w = .ok x c'.w ∧ Ext c c' ∧ Rel E c' ∧ c'.h = h' ∧ RV c' v x
theorem Does.same (hR : Rel E c) {s : Sem Value} {v : V} {x : Value} (h : s.run P c.w = .ok x c.w) (hx : RV c v x) : Does P E c s v c.h := ⟨x, c, h, Ext.refl c, hR, rfl, hx⟩
def CellsAt (c : Cx) (a : Addr) (cs : List V) : Prop := ∃ ys : List Value, RVs c cs ys ∧ ∀ (j : Nat) (y : Value), ys[j]? = some y → c.w.cell? (a.add j) = some y
theorem CellsAt.drop {a : Addr} {cs : List V} (h : CellsAt c a cs) (n : Nat) : CellsAt c (a.add n) (cs.drop n) := by
 obtain ⟨ys, h1, h2⟩ := h
 exact ⟨ys.drop n, h1.drop n, fun j y hj => by rw [List.getElem?_drop] at hj; rw [Addr.add_add]; exact h2 _ _ hj⟩
theorem yjj (hR : Rel E c) {b sz : Nat} {p : TypeId × List V} (h : yaz c.h b sz = some p) (o : Nat) : CellsAt c ⟨(c.ρ b).1, (c.ρ b).2 + o, none⟩ (p.2.drop o) := by
 obtain ⟨hb, _⟩ := ycj h
 obtain ⟨C, lo, hi, g1, g2, g3, g4, _⟩ := (hR.cells b _ _ hb).row
 refine ⟨_, g3.drop o, fun j y hj => ?_⟩
 rw [List.getElem?_drop, List.getElem?_take] at hj
 split at hj
 ·rw [List.getElem?_drop] at hj
  rw [Addr.add_mk]
  simp only [World.cell?, g1]
  have : C[(c.ρ b).2 + (o + j)]? = some y := by simpa using hj
  simpa [Nat.add_assoc] using this
 ·cases hj
theorem rop_at {cs : List V} {x : Value} (h : RV c (.rop cs) x) : ∃ a, x = .pointer (some a) ∧ CellsAt c a cs := by
 obtain ⟨a, f, rfl, h1, h2, h3⟩ := h.rop_inv
 refine ⟨a, rfl, (List.range cs.length).map f, ⟨by simp, fun j v y hv hy => ?_⟩, fun j y hj => ?_⟩
 ·have hj : j < cs.length := (List.getElem?_eq_some_iff.1 hv).1
  rw [List.getElem?_map, List.getElem?_range hj] at hy; cases hy
  exact .g (h2 j v hv)
 ·rw [List.getElem?_map] at hj
  obtain ⟨k, hk, rfl⟩ := Option.map_eq_some_iff.1 hj
  have hlt : j < cs.length := by have := (List.getElem?_eq_some_iff.1 hk).1; simpa using this
  rw [List.getElem?_range hlt] at hk; cases hk
  exact h1 j hlt
theorem yjk (hE : EnvOk P E) {t : TypeId} {a : Addr} {cs : List V} {v : V} (h : CellsAt c a cs) (hr : rd E t cs = some v) : ∃ y, (loadVar t a).run P c.w = .ok y c.w ∧ RV c v y := by
 obtain ⟨d, hd, hr⟩ := Option.bind_eq_some_iff.1 hr
 have hT := hE.ty t d hd
 obtain ⟨ys, h1, h2⟩ := h
 simp only [loadVar, Sem.run_bind, hT.run_agg, Result.andThen_ok]
 split at hr
 ·rename_i ha
  split at hr
  ·rename_i hl
   cases hr
   rw [ha]
   simp only [if_true, Sem.run_bind, hT.run_size, Result.andThen_ok, ylm c.w a ys h2 d.size (by rw [← h1.1]; exact hl), Sem.run_pure]
   exact ⟨_, rfl, RV.agg_mk (h1.take d.size)⟩
  ·cases hr
 ·rename_i ha
  simp only [ha, if_false, Bool.false_eq_true]
  cases cs with
  | nil => cases hr
  | cons u us =>
   cases hr
   obtain ⟨y, ys', rfl, h3, _⟩ := h1.cons_left
   refine ⟨y, ?_, h3⟩
   have := h2 0 y rfl
   rw [Addr.add_zero] at this
   simp [this]
theorem ytm (hE : EnvOk P E) (hR : Rel E c) {t : TypeId} {p v : V} {x : Value} (hp : RV c p x) (h : yde E t p c.h = some v) : Does P E c (Instr.loadAt t x) v c.h := by
 cases p <;> simp only [yde] at h
 case ptr b o sz =>
  obtain ⟨q, hq, hr⟩ := Option.bind_eq_some_iff.1 h
  obtain ⟨hb, hbl⟩ := ycj hq
  rw [hp.ptr_inv (by rw [yci hb, hbl])]
  obtain ⟨y, h1, h2⟩ := yjk hE (yjj hR hq o) hr
  exact Does.same hR (by simp [Instr.loadAt, Instr.sureAddr, h1]) h2
 case rop cs =>
  obtain ⟨a, rfl, ha⟩ := rop_at hp
  obtain ⟨y, h1, h2⟩ := yjk hE ha h
  exact Does.same hR (by simp [Instr.loadAt, Instr.sureAddr, h1]) h2
 all_goals cases h
theorem yjl (hR : Rel E c) {b sz : Nat} {p : TypeId × List V} (h : yaz c.h b sz = some p) (o : Nat) {vs : List V} {xs : List Value} (hv : RVs c vs xs) (hone : vs.all V.isCell = true) (ho : o ≤ p.2.length)
  (hl : ∀ (C : Array Value) (T : TypeId) (fz : Nat × Nat), c.w.heap[(c.ρ b).1]? = some (.cells C T fz) → (c.ρ b).2 + o + vs.length ≤ C.size) :
  ∃ c', (storeCells ⟨(c.ρ b).1, (c.ρ b).2 + o, none⟩ xs).run P c.w = .ok () c'.w ∧ Ext c c' ∧ Rel E c' ∧ c'.h = c.h.set b (.cells p.1 (splice p.2 o vs)) ∧ c'.ρ = c.ρ ∧ c'.ro = c.ro := by
 obtain ⟨hb, _⟩ := ycj h
 obtain ⟨C, lo, hi, g1, g2, g3, g4, _⟩ := hR.cells b _ _ hb
 have hC := hl C _ _ g1
 obtain ⟨k1, k2⟩ := hR.write hb g1 o hv ho hC hone
 refine ⟨_, ?_, k1, k2, rfl, rfl, rfl⟩
 have := yob P (c.ρ b).1 ((c.ρ b).2 + o) p.1 lo hi xs 0 C c.w g1 (fun j h1 h2 => g4 j (by omega) (by rw [← hv.1] at h2; omega)) (by rw [← hv.1]; omega) (hv.one hone)
 simpa [ybz] using this
theorem ytn (hE : EnvOk P E) (hR : Rel E c) {t : TypeId} {p v : V} {x y : Value} {h' : Heap} (hp : RV c p x) (hv : RV c v y) (h : yex E t p v c.h = some h') :
  ∃ c', (Instr.storeAt t x y).run P c.w = .ok () c'.w ∧ Ext c c' ∧ Rel E c' ∧ c'.h = h' := by
 cases p <;> simp only [yex] at h
 case ptr b o sz =>
  replace h := Option.bind_eq_some_iff.1 h; obtain ⟨q, hq, h⟩ := h
  replace h := Option.bind_eq_some_iff.1 h; obtain ⟨d, hd, h⟩ := h
  split at h
  ·rename_i hc
   cases h
   obtain ⟨hb, hbl⟩ := ycj hq
   have hT := hE.ty t d hd
   rw [hp.ptr_inv (by rw [yci hb, hbl])]
   have hcs := hv.cells hc.2.1
   obtain ⟨c', k1, k2, k3, k4, _⟩ := yjl (P := P) hR hq o hcs hc.2.1 (by omega) (fun C T fz hC => by
    obtain ⟨C', lo, hi, g1, g2, _⟩ := hR.cells b _ _ hb
    rw [g1] at hC; cases hC; rw [hc.1]; omega)
   refine ⟨c', ?_, k2, k3, k4⟩
   have hsz : y.cells.size = d.size := by have := hcs.1; rw [hc.1] at this; simpa using this.symm
   simp [Instr.storeAt, Instr.sureAddr, storeVar, hT.run_size, hsz, k1]
  ·cases h
 all_goals cases h
theorem RVs.toArray {vs : List V} {xs : Array Value} (h : RVs c vs xs.toList) : RVs c vs (xs.toList.take vs.length) := by
 rw [List.take_of_length_le (by rw [h.1]; exact Nat.le_refl _)]; exact h
theorem yog (hR : Rel E c) (T : TypeId) {vs : List V} {x : Value} (hv : RVs c vs x.cells.toList) (hone : vs.all V.isCell = true) :
  Does P E c (do pure (.pointer (some (← newVar T x)))) (.ptr c.h.length 0 vs.length) (push c.h (.cells T vs)) := by
 obtain ⟨k1, k2⟩ := ygk hR T vs x.cells 0 0 (by rw [hv.1]; simp) hv.toArray (Or.inr rfl) hone
 refine ⟨_, pushC c (.cells T vs) (.cells x.cells T (0, 0)), ?_, k1, k2, rfl, push_ptr T vs _⟩
 simp [newVar, newRow, pushC]
theorem yto (hE : EnvOk P E) (hR : Rel E c) {t : TypeId} {v : V} {h' : Heap} (h : yit E t c.h = some (v, h')) : Does P E c (Instr.alloc t true (.tuple #[])) v h' := by
 replace h := Option.bind_eq_some_iff.1 h; obtain ⟨d, hd, h⟩ := h
 split at h
 ·rename_i hc
  cases h
  have hT := hE.ty t d hd
  have hz : RVs c d.zero d.zeroV.cells.toList := by rw [hT.zero_cells]; exact ygn hT.zo
  have := yog (P := P) hR t hz (ylq hT.zo)
  rw [hc] at this
  obtain ⟨x, c', q1, q2⟩ := this
  exact ⟨x, c', by simpa [Instr.alloc, hT.run_zero] using q1, q2⟩
 ·cases h
theorem box_does (hR : Rel E c) {t : TypeId} {u v : V} {x : Value} {h' : Heap} (hu : RV c u x) (h : evBox t u c.h = some (v, h')) : Does P E c (Instr.box t x) v h' := by
 unfold evBox at h
 split at h
 ·rename_i hc
  cases h
  exact yog hR t (hu.cells hc) hc
 ·cases h
end
end Go.Sb

/- Operations: values put together, places, cuts. -/

namespace Go.Sb
section
variable {P : Program} {E : Env} {c : Cx}
theorem RVs.splice {cs vs : List V} {C xs : Array Value} (h : RVs c cs C.toList) (hv : RVs c vs xs.toList) (o : Nat) (hl : o + vs.length ≤ cs.length) :
  RVs c (splice cs o vs) (xs.zipIdx.foldl (fun cs (x, j) => cs.setIfInBounds (o + j) x) C).toList := by
 have key : ∀ (l : List Value) (k : Nat) (D : Array Value), o + k + l.length ≤ D.size →
   ((l.zipIdx k).foldl (fun cs (x, j) => cs.setIfInBounds (o + j) x) D).toList = D.toList.take (o + k) ++ l ++ D.toList.drop (o + k + l.length) := by
  intro l
  induction l with
  | nil => intro k D _; simp
  | cons y l ih =>
   intro k D hD
   simp at hD
   simp only [List.zipIdx_cons, List.foldl_cons]
   rw [ih (k + 1) _ (by simp; omega)]
   apply List.ext_getElem?
   intro j
   have e1 : (D.setIfInBounds (o + k) y).toList = D.toList.set (o + k) y := by simp [Array.toList_setIfInBounds]
   rw [e1]
   by_cases h1 : j < o + k
   ·rw [List.append_assoc, List.getElem?_append_left (by simp; omega), List.getElem?_take, if_pos (by omega), List.getElem?_set_ne (by omega)]
    rw [List.append_assoc, List.getElem?_append_left (by simp; omega), List.getElem?_take, if_pos h1]
   ·by_cases h2 : j = o + k
    ·subst h2
     rw [List.append_assoc, List.getElem?_append_left (by simp; omega), List.getElem?_take, if_pos (by omega), List.getElem?_set_self (by simp; omega)]
     rw [List.append_assoc, List.getElem?_append_right (by simp; omega)]
     have : o + k - (List.take (o + k) D.toList).length = 0 := by simp; omega
     rw [this]; simp
    ·by_cases h3 : j < o + k + 1 + l.length
     ·rw [List.append_assoc, List.getElem?_append_right (by simp; omega), List.getElem?_append_left (by simp; omega)]
      rw [List.append_assoc, List.getElem?_append_right (by simp; omega), List.getElem?_append_left (by simp; omega)]
      simp only [List.length_take, List.length_set, Array.length_toList]
      rw [show j - min (o + k) D.size = (j - min (o + (k + 1)) D.size) + 1 by omega]; simp
     ·rw [List.getElem?_append_right (by simp; omega), List.getElem?_append_right (by simp; omega), List.getElem?_drop, List.getElem?_drop]
      rw [List.getElem?_set_ne (by simp; omega)]
      congr 1; simp; omega
 have hx : xs.zipIdx.foldl (fun cs (x, j) => cs.setIfInBounds (o + j) x) C = (xs.toList.zipIdx 0).foldl (fun cs (x, j) => cs.setIfInBounds (o + j) x) C := by
  rw [← Array.foldl_toList]; simp [Array.toList_zipIdx]
 rw [hx, key xs.toList 0 C (by rw [← hv.1]; have := h.1; simp at this; omega)]
 have := (h.take o).append hv |>.append (h.drop (o + vs.length))
 simpa [Sb.splice, hv.1] using this
theorem yjm {placeV : Nat → Option (Nat × Nat)} {place : Nat → Option (Nat × Nat)} (hp : ∀ i p, placeV i = some p → place i = some p) : ∀ (ps : List (Nat × V)) (qs : List (Nat × Value)) (cs cs' : List V) (C : Array Value),
  ps.length = qs.length → (∀ (i : Nat) (p : Nat × V) (q : Nat × Value), ps[i]? = some p → qs[i]? = some q → p.1 = q.1 ∧ RV c p.2 q.2) →
  RVs c cs C.toList → fillV placeV cs ps = some cs' → ∃ C', Instr.fill place C qs = some C' ∧ RVs c cs' C'.toList
 | [], [], cs, cs', C, _, _, h, hf => by simp [fillV] at hf; subst hf; exact ⟨C, rfl, h⟩
 | [], _ :: _, _, _, _, hl, _, _, _ => by simp at hl
 | _ :: _, [], _, _, _, hl, _, _, _ => by simp at hl
 | (i, v) :: ps, (k, x) :: qs, cs, cs', C, hl, hr, h, hf => by
  obtain ⟨e1, e3⟩ := hr 0 _ _ rfl rfl
  simp only at e1 e3; subst e1
  simp only [fillV] at hf
  obtain ⟨p, hpl, hf⟩ := Option.bind_eq_some_iff.1 hf
  split at hf
  ·rename_i hc
   have hcs := e3.cells hc.2.2
   have hsz : x.cells.size = v.cells.length := by have := hcs.1; simpa using this.symm
   have hC : C.size = cs.length := by have := h.1; simpa using this.symm
   simp only [Instr.fill, hp i p hpl]
   rw [if_neg (by simp; omega)]
   exact yjm hp ps qs _ cs' _ (by simpa using hl) (fun j p q a b => hr (j + 1) p q (by simpa using a) (by simpa using b)) (h.splice hcs p.1 hc.2.1) hf
  ·cases hf
theorem ylr {t : TypeId} {d : TyD} (hE : EnvOk P E) (hd : E.ty t = some d) {l : List (TypeId × Nat)} (hu : d.u = .struct l) : ∃ fs : Array Field, P.underlying t = some (.struct fs) ∧ fs.toList.map (fun f => (f.type, f.offset)) = l := by
 obtain ⟨u, h1, h2⟩ := (hE.ty t d hd).und
 rw [hu] at h2
 obtain ⟨fs, rfl, h3⟩ := yji h2
 exact ⟨fs, h1, h3⟩
theorem yls {fs : Array Field} {l : List (TypeId × Nat)} (h : fs.toList.map (fun f => (f.type, f.offset)) = l) {i : Nat} {g : TypeId × Nat} (hg : l[i]? = some g) : ∃ f, fs[i]? = some f ∧ f.type = g.1 ∧ f.offset = g.2 := by
 subst h
 rw [List.getElem?_map] at hg
 obtain ⟨f, hf, rfl⟩ := Option.map_eq_some_iff.1 hg
 exact ⟨f, by simpa using hf, rfl, rfl⟩
theorem ytp {w : World} (hE : EnvOk P E) (fs : List Field) : (∀ f ∈ fs, ∃ d, E.ty f.type = some d) → (fs.mapM (fun f => do pure (f.offset, ← sizeOf f.type) : Field → Sem (Nat × Nat))).run P w = .ok (fs.map fun f => (f.offset, P.cellsOf f.type)) w := by
 induction fs with
 | nil => intro _; simp
 | cons f fs ih =>
  intro h
  obtain ⟨d, hd⟩ := h f (by simp)
  have hT := hE.ty _ d hd
  have e : P.cellsOf f.type = d.size := by obtain ⟨i, a, b, _⟩ := hT.info; simp [Program.cellsOf, a, b]
  simp only [List.mapM_cons, Sem.run_bind, hT.run_size, Result.andThen_ok, Sem.run_pure, ih (fun g hg => h g (by simp [hg])), e, List.map_cons]
def ylt (c : Cx) (ps : List (Nat × V)) (qs : List (Nat × Value)) : Prop :=
 ps.length = qs.length ∧ ∀ (i : Nat) (p : Nat × V) (q : Nat × Value), ps[i]? = some p → qs[i]? = some q → p.1 = q.1 ∧ RV c p.2 q.2
theorem ytq {w : World} (fs : Array Field) (g : Field → Sem (Nat × Nat)) (l : List (Nat × Nat)) (h : (fs.toList.mapM g).run P w = .ok l w) : (fs.mapM g).run P w = .ok l.toArray w := by
 rw [Array.mapM_eq_mapM_toList]
 simp [h]
theorem ytr (hE : EnvOk P E) (hR : Rel E c) {t : TypeId} {ps : List (Nat × V)} {qs : Array (Nat × Value)} {v : V} (hp : ylt c ps qs.toList) (h : yiu E t ps = some v) : Does P E c (Instr.build t qs) v c.h := by
 replace h := Option.bind_eq_some_iff.1 h; obtain ⟨d, hd, h⟩ := h
 have hT := hE.ty t d hd
 have hz : RVs c d.zero d.zeroV.cells.toList := by rw [hT.zero_cells]; exact ygn hT.zo
 cases hu : d.u <;> rw [hu] at h <;> simp only at h
 case struct l =>
  obtain ⟨fs, h1, h2⟩ := ylr hE hd hu
  split at h
  ·cases h
  ·rename_i hall
   obtain ⟨cs, hf, rfl⟩ := Option.map_eq_some_iff.1 h
   have hall' : ∀ f ∈ fs.toList, ∃ d, E.ty f.type = some d := fun f hf => by
    have : l.all (fun f => (E.ty f.1).isSome) = true := by
     cases hq : l.all (fun f => (E.ty f.1).isSome) with
     | true => rfl
     | false => exact absurd hq hall
    have := List.all_eq_true.1 this (f.type, f.offset) (by rw [← h2]; exact List.mem_map.2 ⟨f, hf, rfl⟩)
    exact Option.isSome_iff_exists.1 this
   have hm := ytq fs _ _ (ytp (w := c.w) hE fs.toList hall')
   obtain ⟨C', k1, k2⟩ := yjm (c := c) (place := fun i => (fs.toList.map fun f => (f.offset, P.cellsOf f.type)).toArray[i]?) (fun i p hi => by
    obtain ⟨g, hg, hi⟩ := Option.bind_eq_some_iff.1 hi
    obtain ⟨y, hy, rfl⟩ := Option.map_eq_some_iff.1 hi
    obtain ⟨f, hf, e1, e2⟩ := yls h2 hg
    have hf' : fs.toList[i]? = some f := by simpa using hf
    obtain ⟨j, a, b, _⟩ := (hE.ty _ y hy).info
    simp [hf, e1, e2, Program.cellsOf, a, b]) ps qs.toList d.zero cs d.zeroV.cells hp.1 hp.2 hz hf
   refine Does.same hR (x := .agg C') ?_ (by have := RV.agg_mk k2; simpa using this)
   simp only [Instr.build, Sem.run_bind, hT.run_zero, Result.andThen_ok, yaj h1, hm]
   simp only [k1, Sem.run_pure]
 case array n e =>
  obtain ⟨u, h1, h2⟩ := hT.und
  rw [hu] at h2; have := yfo h2; subst this
  replace h := Option.bind_eq_some_iff.1 h; obtain ⟨y, hy, h⟩ := h
  obtain ⟨cs, hf, rfl⟩ := Option.map_eq_some_iff.1 h
  have hTe := hE.ty e y hy
  obtain ⟨C', k1, k2⟩ := yjm (c := c) (place := fun i => some (i * y.size, y.size)) (fun i p hi => hi) ps qs.toList d.zero cs d.zeroV.cells hp.1 hp.2 hz hf
  refine Does.same hR (x := .agg C') ?_ (by have := RV.agg_mk k2; simpa using this)
  simp only [Instr.build, Sem.run_bind, hT.run_zero, Result.andThen_ok, yaj h1, hTe.run_size]
  simp only [k1, Sem.run_pure]
 all_goals cases h
theorem ygo (zs : List V) : ∀ n, (yca zs n).length = n * zs.length
 | 0 => by simp [yca]
 | n + 1 => by simp [yca, ygo zs n, Nat.succ_mul]; omega
theorem ylu {zs : List V} (h : zs.all yeb = true) : ∀ n, (yca zs n).all V.isCell = true
 | 0 => rfl
 | n + 1 => by simp only [yca, List.all_append, ylq h, ylu h n, Bool.and_self]
theorem yoh (zs : List V) (h0 : 0 < zs.length) : ∀ (n j : Nat), j < n * zs.length → (yca zs n)[j]? = zs[j % zs.length]?
 | 0, j, h => by simp at h
 | n + 1, j, h => by
  simp only [yca]
  by_cases hj : j < zs.length
  ·rw [List.getElem?_append_left hj, Nat.mod_eq_of_lt hj]
  ·rw [List.getElem?_append_right (by omega), yoh zs h0 n _ (by rw [Nat.succ_mul] at h; omega)]
   congr 1
   rw [← Nat.sub_add_cancel (show zs.length ≤ j by omega)]; simp
theorem ylv {zs : List V} (hz : zs.all yeb = true) (h0 : 0 < zs.length) (n m : Nat) (hm : m = n * zs.length) (Z : Array Value) (hZ : Z = (zs.map zeroX).toArray) :
  RVs c (yca zs n) ((Array.range m).map fun q => Z[q % Z.size]!).toList := by
 subst hm; subst hZ
 refine ⟨by simp [ygo], fun i v x hv hx => ?_⟩
 have hi : i < n * zs.length := by have := (List.getElem?_eq_some_iff.1 hv).1; rwa [ygo] at this
 rw [yoh zs h0 n i hi] at hv
 have hx' : ((zs.map zeroX).toArray)[i % zs.length]? = some x := by
  have hlt : i % zs.length < (zs.map zeroX).toArray.size := by simpa using Nat.mod_lt i h0
  have : x = ((zs.map zeroX).toArray)[i % (zs.map zeroX).toArray.size]! := by
   simp only [Array.toList_map, List.getElem?_map] at hx
   have hr : (Array.range (n * zs.length)).toList[i]? = some i := by simp [Array.toList_range, hi]
   rw [hr] at hx
   simpa using hx.symm
  rw [this]
  have e : (zs.map zeroX).toArray.size = zs.length := by simp
  rw [e, Array.getElem?_eq_getElem hlt]
  exact congrArg some (getElem!_pos ((zs.map zeroX).toArray) (i % zs.length) hlt).symm
 have : (zs.map zeroX)[i % zs.length]? = some x := by simpa using hx'
 exact (ygn (c := c) hz).2 _ v x hv this
theorem yts (hE : EnvOk P E) (hR : Rel E c) {t : TypeId} {len : Nat} {ps : List (Nat × V)} {qs : Array (Nat × Value)} {v : V} {h' : Heap} (hp : ylt c ps qs.toList) (h : yhj E t len ps c.h = some (v, h')) :
  Does P E c (Instr.buildSlice t len qs) v h' := by
 replace h := Option.bind_eq_some_iff.1 h; obtain ⟨d, hd, h⟩ := h
 have hT := hE.ty t d hd
 cases hu : d.u <;> rw [hu] at h <;> simp only at h
 case slice e =>
  obtain ⟨u, h1, h2⟩ := hT.und
  rw [hu] at h2; have := ybj h2; subst this
  obtain ⟨y, hy, h5⟩ := Option.bind_eq_some_iff.1 h
  clear h
  have hTe := hE.ty e y hy
  split at h5
  ·cases h5
  ·rename_i hc
   simp only [not_or, Nat.not_lt, Decidable.not_not, gt_iff_lt] at hc
   obtain ⟨hc1, hc2, hc3⟩ := hc
   split at h5
   ·rename_i hl
    subst hl
    split at h5
    ·rename_i hemp
     cases h5
     have hq : qs.toList = [] := by
      have := hp.1
      have e0 : ps = [] := by simpa using hemp
      rw [e0] at this; simpa using this.symm
     obtain ⟨k1, k2⟩ := hR.grow { c.w with heap := c.w.heap.push (.cells #[] e (0, 0)) } (fun r hr => by simp only; rw [Array.getElem?_push, if_neg (by omega)]) (by simp)
     refine ⟨.slice (some ⟨c.w.heap.size, 0, none⟩) 0 0, _, ?_, k1, k2, rfl, .g (.emp _)⟩
     simp [Instr.buildSlice, yaj h1, hTe.run_size, hq, Instr.fill, newRow]
     have e0 : (Array.map (fun (_ : Nat) => (default : Value)) (Array.range 0)) = #[] := by apply Array.eq_empty_of_size_eq_zero; simp
     rw [e0]
    ·cases h5
   ·rename_i hl
    obtain ⟨cs, hf, h6⟩ := Option.bind_eq_some_iff.1 h5
    clear h5
    split at h6
    ·rename_i hone
     cases h6
     have hzl : 0 < y.zero.length := by omega
     have hz0 := ylv (c := c) hTe.zo hzl len (len * y.size) (by rw [hc2]) y.zeroV.cells hTe.zero_cells
     obtain ⟨C', k1, k2⟩ := yjm (c := c) (place := fun i => some (i * y.size, y.size)) (fun i p hi => hi) ps qs.toList _ cs _ hp.1 hp.2 hz0 hf
     have hlen : C'.size = len * y.size := by
      have := k2.1
      have hfl : ∀ (ps : List (Nat × V)) (cs cs' : List V), fillV (fun i => some (i * y.size, y.size)) cs ps = some cs' → cs'.length = cs.length := by
       intro ps
       induction ps with
       | nil => intro cs cs' h; simp [fillV] at h; rw [h]
       | cons p ps ih =>
        intro cs cs' h
        obtain ⟨i, v⟩ := p
        simp only [fillV, Option.bind_some] at h
        split at h
        ·rename_i hq; rw [ih _ _ h, yjf _ _ _ (by omega)]; omega
        ·cases h
      have e := hfl ps _ cs hf
      rw [ygo, hc2] at e
      simp at this; omega
     have hcl : cs.length = len * y.size := by have := k2.1; simp at this; omega
     obtain ⟨m1, m2⟩ := ygk hR e cs C' 0 0 (by omega) k2.toArray (Or.inr rfl) hone
     refine ⟨.slice (some ⟨c.w.heap.size, 0, none⟩) len len, _, ?_, m1, m2, rfl, ?_⟩
     ·simp only [Instr.buildSlice, Sem.run_bind, yaj h1, Result.andThen_ok, hTe.run_size]
      rw [if_neg (by omega), if_neg (by have := Nat.mul_pos (Nat.pos_of_ne_zero hl) (Nat.pos_of_ne_zero hc3); omega)]
      simp only [Sem.run_bind, hTe.run_zero, Result.andThen_ok, Sem.run_pure, k1, newRow, run_newObj]
      rfl
     ·have := yho (c := c) e cs C' (0, 0) y.size len len len (Nat.le_refl _) (by omega)
      rw [hcl] at this; exact this
    ·cases h6
 all_goals cases h
theorem ytt (hE : EnvOk P E) (hR : Rel E c) {t : TypeId} {l k v : V} {xl xk : Value} {h' : Heap} (hl : RV c l xl) (hk : RV c k xk) (h : yiv E t l k c.h = some (v, h')) : Does P E c (Instr.makeSlice t xl xk) v h' := by
 replace h := Option.bind_eq_some_iff.1 h; obtain ⟨d, hd, h⟩ := h
 have hT := hE.ty t d hd
 cases hu : d.u <;> rw [hu] at h
 case slice e =>
  obtain ⟨u, h1, h2⟩ := hT.und
  rw [hu] at h2; have := ybj h2; subst this
  cases l <;> cases k
  case int.int k1 l k2 m =>
   obtain ⟨y, hy, h5⟩ := Option.bind_eq_some_iff.1 h
   clear h
   have hTe := hE.ty e y hy
   obtain ⟨i, i1, i2, i3, i4⟩ := hTe.info
   rw [hl.int_inv, hk.int_inv]
   split at h5
   ·rename_i hc
    obtain ⟨c1, c2, c3, c4, c5, c6⟩ := hc
    have w1 : IntKind.i64.wrap l = l := by simp only [IntKind.wrap, IntKind.signed, IntKind.bits]; simp; omega
    have w2 : IntKind.i64.wrap m = m := by simp only [IntKind.wrap, IntKind.signed, IntKind.bits]; simp; omega
    have hrun : ∀ (X : Sem Value), (Instr.makeSlice t (.int k1 l) (.int k2 m)).run P c.w = (do
      let n := m.toNat * (← sizeOf e)
      let zero ← if n = 0 then pure #[] else do pure (← zeroValue e).cells
      let a ← newRow e ((Array.range n).map (zero[· % zero.size]!))
      pure (.slice (some a) l.toNat m.toNat) : Sem Value).run P c.w := by
     intro _
     simp only [Instr.makeSlice, Sem.run_bind, yaj h1, Result.andThen_ok, asInt, asIntOf, Sem.run_pure, ygm i1, w1, w2, i3]
     rw [if_neg (by simp; omega)]
     simp
    rw [show (Does P E c (Instr.makeSlice t (.int k1 l) (.int k2 m)) v h') = (∃ x c', (Instr.makeSlice t (.int k1 l) (.int k2 m)).run P c.w = .ok x c'.w ∧ Ext c c' ∧ Rel E c' ∧ c'.h = h' ∧ RV c' v x) from rfl, hrun (pure (.bool true))]
    split at h5
    ·rename_i hm
     cases h5
     obtain ⟨k1, k2⟩ := hR.grow { c.w with heap := c.w.heap.push (.cells #[] e (0, 0)) } (fun r hr => by simp only; rw [Array.getElem?_push, if_neg (by omega)]) (by simp)
     refine ⟨.slice (some ⟨c.w.heap.size, 0, none⟩) 0 0, _, ?_, k1, k2, rfl, .g (.emp _)⟩
     have : l = 0 := by omega
     subst this; subst hm
     have e0 : (Array.map (fun (_ : Nat) => (default : Value)) (Array.range 0)) = #[] := by apply Array.eq_empty_of_size_eq_zero; simp
     simp [hTe.run_size, newRow]
     rw [e0]
    ·rename_i hm
     cases h5
     have hz0 := ylv (c := c) hTe.zo (by omega) m.toNat (m.toNat * y.size) (by rw [c5]) y.zeroV.cells hTe.zero_cells
     have hcl : (yca y.zero m.toNat).length = m.toNat * y.size := by rw [ygo, c5]
     have hsz := hz0.1
     obtain ⟨m1, m2⟩ := ygk hR e (yca y.zero m.toNat) _ 0 0 (by simpa using Nat.le_of_eq hsz) hz0.toArray (Or.inr rfl) (ylu hTe.zo _)
     refine ⟨.slice (some ⟨c.w.heap.size, 0, none⟩) l.toNat m.toNat, _, ?_, m1, m2, rfl, ?_⟩
     ·simp only [Sem.run_bind, hTe.run_size, Result.andThen_ok]
      rw [if_neg (by have := Nat.mul_pos (show 0 < m.toNat by omega) c6; omega)]
      simp only [Sem.run_bind, hTe.run_zero, Result.andThen_ok, Sem.run_pure, newRow, run_newObj]
      rfl
     ·have := yho (c := c) e (yca y.zero m.toNat) ((Array.range (m.toNat * y.size)).map (y.zeroV.cells[· % y.zeroV.cells.size]!)) (0, 0) y.size l.toNat m.toNat m.toNat (Nat.le_refl _) (by simp)
      rw [hcl] at this; exact this
   ·cases h5
  all_goals cases h
 all_goals (cases h)
end
end Go.Sb

/- Operations: places, indexes, cuts, fields. -/

namespace Go.Sb
section
variable {P : Program} {E : Env} {c : Cx}
theorem RV.ptr_mk {b o sz : Nat} (hb : b < c.h.length) (hs : ∀ n, hsz c.h b = some n → sz ≤ n) (o0 : Nat) {x : Value} (hp : RV c (.ptr b o0 sz) x) :
  ∀ a, x = .pointer (some a) → RV c (.ptr b (o0 + o) sz) (.pointer (some (a.add o))) := by
 intro a ha
 refine .ptr _ _ _ _ ⟨_, rfl⟩ hb hs fun h => ?_
 have := hp.ptr_inv h
 rw [ha] at this; cases this
 rw [Addr.add_mk]; simp [Nat.add_assoc]
theorem RV.ptr_parts {b o sz : Nat} {x : Value} (h : RV c (.ptr b o sz) x) : b < c.h.length ∧ (∀ n, hsz c.h b = some n → sz ≤ n) ∧ ∃ a, x = .pointer (some a) := by
 cases h with
 | g h => cases h
 | ptr _ _ _ _ hp hb hs hx => exact ⟨hb, hs, hp⟩
theorem RV.ptr_add {b o sz : Nat} {x : Value} (h : RV c (.ptr b o sz) x) : ∃ a, x = .pointer (some a) ∧ ∀ n, RV c (.ptr b (o + n) sz) (.pointer (some (a.add n))) := by
 obtain ⟨hb, hs, a, rfl⟩ := h.ptr_parts
 exact ⟨a, rfl, fun n => RV.ptr_mk hb hs o h a rfl⟩
theorem RV.rop_drop {cs : List V} {x : Value} (h : RV c (.rop cs) x) : ∃ a, x = .pointer (some a) ∧ ∀ n, RV c (.rop (cs.drop n)) (.pointer (some (a.add n))) := by
 obtain ⟨a, f, rfl, h1, h2, h3⟩ := h.rop_inv
 refine ⟨a, rfl, fun n => .g (.rop _ _ (fun j => f (n + j)) (fun j hj => ?_) (fun j v hv => ?_) (fun hne => ?_))⟩
 ·rw [Addr.add_add]; exact h1 _ (by simp at hj; omega)
 ·rw [List.getElem?_drop] at hv; exact h2 _ v hv
 ·rw [Addr.block_add]; exact h3 (by intro e; subst e; simp at hne)
theorem ytu (hE : EnvOk P E) {f : Field} {y : TyD} (hy : E.ty f.type = some y) (h0 : y.size ≠ 0) (a : Addr) (w : World) : (fieldPlace a f).run P w = .ok (a.add f.offset) w := by
 simp [fieldPlace, (hE.ty _ y hy).run_size, h0]
theorem ytv (hE : EnvOk P E) (hR : Rel E c) {s : TypeId} {p v : V} {x : Value} {f : Nat} (hp : RV c p x) (h : yld E s p f = some v) : Does P E c (Instr.fieldAt s x f) v c.h := by
 replace h := Option.bind_eq_some_iff.1 h; obtain ⟨d, hd, h⟩ := h
 cases hu : d.u <;> rw [hu] at h
 case struct l =>
  obtain ⟨fs, h1, h2⟩ := ylr hE hd hu
  replace h := Option.bind_eq_some_iff.1 h; obtain ⟨g, hg, h⟩ := h
  replace h := Option.bind_eq_some_iff.1 h; obtain ⟨y, hy, h⟩ := h
  obtain ⟨fl, e1, e2, e3⟩ := yls h2 hg
  split at h
  ·cases h
  ·rename_i h0
   have hpl := fun a w => ytu (P := P) hE (f := fl) (by rw [e2]; exact hy) h0 a w
   cases p
   case ptr b o sz =>
    cases h
    obtain ⟨a, rfl, hadd⟩ := hp.ptr_add
    refine Does.same hR (x := .pointer (some (a.add fl.offset))) ?_ (by rw [e3]; exact hadd _)
    simp [Instr.fieldAt, yaj h1, e1, Instr.sureAddr, hpl]
   case rop cs =>
    cases h
    obtain ⟨a, rfl, hadd⟩ := hp.rop_drop
    refine Does.same hR (x := .pointer (some (a.add fl.offset))) ?_ (by rw [e3]; exact hadd _)
    simp [Instr.fieldAt, yaj h1, e1, Instr.sureAddr, hpl]
   all_goals cases h
 all_goals cases h
theorem yjn (hE : EnvOk P E) {t : TypeId} {cs : List V} {xs : Array Value} {o : Nat} {v : V} (hc : RVs c cs xs.toList) (h : partV E t cs o = some v) : ∃ y, (part t xs o).run P c.w = .ok y c.w ∧ RV c v y := by
 replace h := Option.bind_eq_some_iff.1 h; obtain ⟨d, hd, h⟩ := h
 have hT := hE.ty t d hd
 simp only [part, Sem.run_bind, hT.run_agg, Result.andThen_ok]
 have hdr := hc.drop o
 split at h
 ·rename_i ha
  split at h
  ·rename_i hl
   cases h
   rw [ha]
   simp only [if_true, Sem.run_bind, hT.run_size, Result.andThen_ok, Sem.run_pure]
   refine ⟨_, rfl, ?_⟩
   have := RV.agg_mk (hdr.take d.size)
   have e : (⟨(xs.toList.drop o).take d.size⟩ : Array Value) = xs.extract o (o + d.size) := by
    apply Array.ext'; simp [Array.toList_extract, List.extract_eq_take_drop]
   rw [e] at this; exact this
  ·cases h
 ·rename_i ha
  simp only [ha, if_false, Bool.false_eq_true]
  cases hcs : cs.drop o with
  | nil => rw [hcs] at h; cases h
  | cons u us =>
   rw [hcs] at h; cases h
   rw [hcs] at hdr
   obtain ⟨y, ys', e, h3, _⟩ := hdr.cons_left
   refine ⟨y, ?_, h3⟩
   have : xs[o]? = some y := by
    have : (xs.toList.drop o)[0]? = some y := by rw [e]; rfl
    rw [List.getElem?_drop] at this; simpa using this
   simp [this]
theorem ytw (hE : EnvOk P E) (hR : Rel E c) {s : TypeId} {p v : V} {x : Value} {f : Nat} (hp : RV c p x) (h : yle E s p f = some v) : Does P E c (Instr.field s x f) v c.h := by
 replace h := Option.bind_eq_some_iff.1 h; obtain ⟨d, hd, h⟩ := h
 cases hu : d.u <;> rw [hu] at h
 case struct l =>
  obtain ⟨fs, h1, h2⟩ := ylr hE hd hu
  cases p
  case agg cs =>
   replace h := Option.bind_eq_some_iff.1 h; obtain ⟨g, hg, h⟩ := h
   obtain ⟨fl, e1, e2, e3⟩ := yls h2 hg
   obtain ⟨xs, rfl, hxs⟩ := hp.agg_inv
   obtain ⟨y, k1, k2⟩ := yjn hE hxs h
   refine Does.same hR (x := y) ?_ k2
   simp [Instr.field, yaj h1, e1, asAgg, e2, e3, k1]
  all_goals cases h
 all_goals (cases p <;> cases h)
theorem ytx (hE : EnvOk P E) (hR : Rel E c) {t : TypeId} {p i v : V} {x xi : Value} (hp : RV c p x) (hi : RV c i xi) (h : yfm E t p i = some v) : Does P E c (Instr.indexAt t x xi) v c.h := by
 replace h := Option.bind_eq_some_iff.1 h; obtain ⟨d, hd, h⟩ := h
 obtain ⟨u, h1, h2⟩ := (hE.ty t d hd).und
 split at h
 ·rename_i n e b o sz k i hu
  rw [hu] at h2; have := yfo h2; subst this
  replace h := Option.bind_eq_some_iff.1 h; obtain ⟨y, hy, h⟩ := h
  split at h
  ·rename_i hc
   cases h
   rw [hi.int_inv]
   obtain ⟨a, rfl, hadd⟩ := hp.ptr_add
   refine Does.same hR (x := .pointer (some (a.add (i.toNat * y.size)))) ?_ (hadd _)
   simp [Instr.indexAt, yaj h1, asIntOf, Instr.sureAddr, hc, (hE.ty e y hy).run_size]
  ·cases h
 ·rename_i n e cs k i hu
  rw [hu] at h2; have := yfo h2; subst this
  replace h := Option.bind_eq_some_iff.1 h; obtain ⟨y, hy, h⟩ := h
  split at h
  ·rename_i hc
   cases h
   rw [hi.int_inv]
   obtain ⟨a, rfl, hadd⟩ := hp.rop_drop
   refine Does.same hR (x := .pointer (some (a.add (i.toNat * y.size)))) ?_ (hadd _)
   simp [Instr.indexAt, yaj h1, asIntOf, Instr.sureAddr, hc, (hE.ty e y hy).run_size]
  ·cases h
 ·rename_i e b o z len cap sz k i hu
  rw [hu] at h2; have := ybj h2; subst this
  replace h := Option.bind_eq_some_iff.1 h; obtain ⟨y, hy, h⟩ := h
  split at h
  ·rename_i hc
   cases h
   obtain ⟨c1, c2, c3⟩ := hc
   rw [hi.int_inv]
   have hTe := hE.ty e y hy
   cases hp with
   | g hp => cases hp
   | sl _ _ _ _ _ _ _ hsh hb hs hx =>
    obtain ⟨a, m, rfl, hcm⟩ := hsh
    refine Does.same hR (x := .pointer (some (a.add (i.toNat * z)))) ?_ (.ptr _ _ _ _ ⟨_, rfl⟩ hb hs fun hv => ?_)
    ·simp [Instr.indexAt, yaj h1, asIntOf, c1, c2, hTe.run_size, c3]
    ·obtain ⟨cap', C, T, fz, e0, e1, e2, e3⟩ := hx hv
     cases e0
     rw [Addr.add_mk, Nat.add_assoc]
  ·cases h
 ·rename_i e z es k i hu
  rw [hu] at h2; have := ybj h2; subst this
  replace h := Option.bind_eq_some_iff.1 h; obtain ⟨y, hy, h⟩ := h
  split at h
  ·rename_i h0
   obtain ⟨h0, hz⟩ := h0
   subst hz
   replace h := Option.bind_eq_some_iff.1 h; obtain ⟨w, hw, h⟩ := h
   cases h
   rw [hi.int_inv]
   obtain ⟨a, cap, f, rfl, q0, q1, q2, q3, q4, q5⟩ := hp.lst_inv
   have hlt : i.toNat < es.length := (List.getElem?_eq_some_iff.1 hw).1
   have hcl := q0 _ w hw
   refine Does.same hR (x := .pointer (some (a.add (i.toNat * y.size)))) ?_ (.g (.rop _ _ (fun j => f i.toNat j) (fun j hj => ?_) (fun j v hv => q2 _ j w v hw hv) (fun hne => ?_)))
   ·have c2 : i < (es.length : Int) := by omega
    simp [Instr.indexAt, yaj h1, asIntOf, h0, c2, (hE.ty e y hy).run_size]
   ·rw [Addr.add_add]; exact q1 _ j hlt (by rw [← hcl]; exact hj)
   ·rw [Addr.block_add]; exact q3 (by intro e; subst e; simp at hlt)
  ·cases h
 ·cases h
end
end Go.Sb
