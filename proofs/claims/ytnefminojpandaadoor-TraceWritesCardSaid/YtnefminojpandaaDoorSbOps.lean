/- Each operation: what the evaluator answers is what the machine does. -/
import Derived.Test.YtnefminojpandaaDoorSbMem2
import GoSem.Dispatch
set_option linter.unusedVariables false
set_option linter.unusedSimpArgs false
namespace Go.Sb

def zeroX : V → Value
  | .bool b => .bool b
  | .int k n => .int k n
  | .str l => .string ⟨⟨l⟩⟩
  | .nilp => .pointer none
  | .nils => .slice none 0 0
  | .nilm => .map none
  | .nilf => .nilFunc
  | .nili => .nilIface
  | _ => .tuple #[]

def zeroOk : V → Bool
  | .bool _ | .int _ _ | .str _ | .nilp | .nils | .nilm | .nilf | .nili => true
  | _ => false

def TyD.zeroV (d : TyD) : Value := if d.agg then .agg (d.zero.map zeroX).toArray else zeroX (d.zero.headD .nili)

/-- A row of the evaluator's table of types is right. -/
structure TyOk (P : Program) (t : TypeId) (d : TyD) : Prop where
  u : (P.underlying t).map TyU.of = some d.u
  s : (P.info? t).map (fun i => (i.size, i.bytes)) = some (d.size, d.bytes)
  z : (P.info? t).bind (·.zero) = some d.zeroV
  zo : d.zero.all zeroOk = true
  zl : d.agg = false → d.zero.length = 1
  zs : d.zero.length = d.size

structure FnOk (P : Program) (f : FuncId) (d : FnD) : Prop where
  fn : ∃ F, P.funcs[f]? = some F ∧ F.body = some d.body ∧ F.ntmps = d.nt ∧ F.results.toList = d.res ∧ (F.name == "runtime.NumGoroutine") = false

/-- A function without a body, told. -/
def ExtOk (P : Program) (f : FuncId) (p : List V → Option V) : Prop :=
  ∀ (c : Cx) (vs : List V) (xs : List Value) (v : V), RVs c vs xs → p vs = some v → ∃ x, (callFunc f ⟨xs⟩).run P c.w = .ok (.value x) c.w ∧ RV c v x

/-- A function that is told by a contract. -/
def LibOk (P : Program) (E : Env) (f : FuncId) (p : List V → Option V) : Prop :=
  ∀ (ro : Nat → Prop) (w : World) (vs : List V) (xs : List Value) (v : V), (∀ r, ro r → r < w.heap.size) → (∀ g cs, E.gl g = some cs → GlOk ro w g cs) →
    vs.length = xs.length → (∀ (i : Nat) (u : V) (x : Value), vs[i]? = some u → xs[i]? = some x → RG ro w u x) → p vs = some v →
    Calls P f ⟨xs⟩ w fun e w' => (w'.os = w.os ∧ w'.tape = w.tape ∧ w'.output = w.output) ∧ w.heap.size ≤ w'.heap.size ∧ (∀ r, r < w.heap.size → w'.heap[r]? = w.heap[r]?) ∧ ∃ x, e = .returned x ∧ RG (fun r => ro r ∨ (w.heap.size ≤ r ∧ r < w'.heap.size)) w' v x

structure EnvOk (P : Program) (E : Env) : Prop where
  ty : ∀ t d, E.ty t = some d → TyOk P t d
  fn : ∀ f d, E.fn f = some d → FnOk P f d
  ext : ∀ f p, E.ext f = some p → ExtOk P f p
  lib : ∀ f p, E.lib f = some p → LibOk P E f p ∧ ∃ F, P.funcs[f]? = some F ∧ F.body.isSome = true ∧ (F.name == "runtime.NumGoroutine") = false
  eqs : ∀ t f, E.eqs t = some f → P.eqGuardType P.depth t = false ∧ ∀ (c : Cx) (a b : List V) (xs ys : List Value) (r : Bool), RVs c a xs → RVs c b ys → f a b = some r → (Op.equal t (.agg ⟨xs⟩) (.agg ⟨ys⟩)).run P c.w = .ok r c.w
  mixed : P.follows .mixedOrders = true

section
variable {P : Program} {E : Env} {c : Cx}

theorem TyOk.und {t : TypeId} {d : TyD} (h : TyOk P t d) : ∃ u, P.underlying t = some u ∧ TyU.of u = d.u := by
  have := h.u
  cases hu : P.underlying t with
  | none => rw [hu] at this; cases this
  | some u => rw [hu] at this; exact ⟨u, rfl, by simpa using this⟩
theorem TyOk.info {t : TypeId} {d : TyD} (h : TyOk P t d) : ∃ i, P.info? t = some i ∧ i.size = d.size ∧ i.bytes = d.bytes ∧ i.zero = some d.zeroV := by
  have h1 := h.s
  have h2 := h.z
  cases hu : P.info? t with
  | none => rw [hu] at h1; cases h1
  | some i => rw [hu] at h1 h2; simp at h1 h2; exact ⟨i, rfl, h1.1, h1.2, h2⟩

theorem run_underlying {t : TypeId} {u : TypeDesc} (h : P.underlying t = some u) (w : World) : (underlying t).run P w = .ok u w := by
  simp [underlying, h]
theorem run_typeInfo {t : TypeId} {i : TypeInfo} (h : P.info? t = some i) (w : World) : (typeInfo t).run P w = .ok i w := by
  simp [typeInfo, h]
theorem TyOk.run_size {t : TypeId} {d : TyD} (h : TyOk P t d) (w : World) : (sizeOf t).run P w = .ok d.size w := by
  obtain ⟨i, h1, h2, _, _⟩ := h.info
  simp [sizeOf, run_typeInfo h1, h2]
theorem TyOk.run_zero {t : TypeId} {d : TyD} (h : TyOk P t d) (w : World) : (zeroValue t).run P w = .ok d.zeroV w := by
  obtain ⟨i, h1, _, _, h2⟩ := h.info
  simp [zeroValue, run_typeInfo h1, h2]
theorem TyOk.run_agg {t : TypeId} {d : TyD} (h : TyOk P t d) (w : World) : (isAgg t).run P w = .ok d.agg w := by
  obtain ⟨u, h1, h2⟩ := h.und
  simp only [isAgg, Sem.run_bind, run_underlying h1, Result.andThen_ok]
  cases u <;> simp [TyU.of] at h2 <;> simp [TyD.agg, ← h2]

theorem of_slice {u : TypeDesc} {e : TypeId} (h : TyU.of u = .slice e) : u = .slice e := by cases u <;> simp [TyU.of] at h; rw [h]
theorem of_array {u : TypeDesc} {n : Nat} {e : TypeId} (h : TyU.of u = .array n e) : u = .array n e := by cases u <;> simp [TyU.of] at h; rw [h.1, h.2]
theorem of_map {u : TypeDesc} {k e : TypeId} (h : TyU.of u = .map k e) : u = .map k e := by cases u <;> simp [TyU.of] at h; rw [h.1, h.2]
theorem of_str {u : TypeDesc} (h : TyU.of u = .str) : u = .string := by cases u <;> simp [TyU.of] at h; rfl
theorem of_int {u : TypeDesc} {k : IntKind} (h : TyU.of u = .int k) : u = .int k := by cases u <;> simp [TyU.of] at h; rw [h]
theorem of_bool {u : TypeDesc} (h : TyU.of u = .bool) : u = .bool := by cases u <;> simp [TyU.of] at h; rfl
theorem of_ptr {u : TypeDesc} {e : TypeId} (h : TyU.of u = .ptr e) : u = .pointer e := by cases u <;> simp [TyU.of] at h; rw [h]
theorem of_struct {u : TypeDesc} {l : List (TypeId × Nat)} (h : TyU.of u = .struct l) : ∃ fs : Array Field, u = .struct fs ∧ fs.toList.map (fun f => (f.type, f.offset)) = l := by
  cases u <;> simp [TyU.of] at h; exact ⟨_, rfl, h⟩
theorem of_func {u : TypeDesc} (h : TyU.of u = .func) : ∃ a b v, u = .func a b v := by cases u <;> simp [TyU.of] at h; exact ⟨_, _, _, rfl⟩
theorem of_iface {u : TypeDesc} (h : TyU.of u = .iface) : ∃ ms, u = .interface ms := by cases u <;> simp [TyU.of] at h; exact ⟨_, rfl⟩

theorem zeroX_rv {v : V} (h : zeroOk v = true) : RG c.ro c.w v (zeroX v) := by
  cases v <;> simp [zeroOk] at h <;> simp only [zeroX] <;> constructor
theorem zeros_rv {l : List V} (h : l.all zeroOk = true) : RVs c l (l.map zeroX) := by
  refine ⟨by simp, fun i v x hv hx => ?_⟩
  rw [List.getElem?_map, hv] at hx; simp at hx; subst hx
  exact .g (zeroX_rv (List.all_eq_true.1 h _ (List.mem_of_getElem? hv)))
theorem zeroX_cells {v : V} : (zeroX v).cells = #[zeroX v] := by cases v <;> rfl
theorem TyOk.zero_cells {t : TypeId} {d : TyD} (h : TyOk P t d) : d.zeroV.cells = (d.zero.map zeroX).toArray := by
  unfold TyD.zeroV
  by_cases ha : d.agg
  · rw [if_pos ha]; rfl
  · rw [if_neg ha, zeroX_cells]
    have := h.zl (by simpa using ha)
    match hz : d.zero, this with
    | [v], _ => simp
theorem zeroOk_cell {l : List V} (h : l.all zeroOk = true) : l.all V.isCell = true := by
  rw [List.all_eq_true] at h ⊢
  intro v hv
  have := h v hv
  cases v <;> simp [zeroOk] at this <;> rfl

/-- What a piece of the machine's work comes to. -/
def Does (P : Program) (E : Env) (c : Cx) (s : Sem Value) (v : V) (h' : Heap) : Prop :=
  ∃ x c', s.run P c.w = .ok x c'.w ∧ Ext c c' ∧ Rel E c' ∧ c'.h = h' ∧ RV c' v x

theorem Does.same (hR : Rel E c) {s : Sem Value} {v : V} {x : Value} (h : s.run P c.w = .ok x c.w) (hx : RV c v x) : Does P E c s v c.h := ⟨x, c, h, Ext.refl c, hR, rfl, hx⟩

/-- Cells at an address that read as a plain list. -/
def CellsAt (c : Cx) (a : Addr) (cs : List V) : Prop := ∃ ys : List Value, RVs c cs ys ∧ ∀ (j : Nat) (y : Value), ys[j]? = some y → c.w.cell? (a.add j) = some y

theorem CellsAt.drop {a : Addr} {cs : List V} (h : CellsAt c a cs) (n : Nat) : CellsAt c (a.add n) (cs.drop n) := by
  obtain ⟨ys, h1, h2⟩ := h
  exact ⟨ys.drop n, h1.drop n, fun j y hj => by rw [List.getElem?_drop] at hj; rw [Addr.add_add]; exact h2 _ _ hj⟩

theorem cellsAt_at (hR : Rel E c) {b sz : Nat} {p : TypeId × List V} (h : cellsAt c.h b sz = some p) (o : Nat) : CellsAt c ⟨(c.ρ b).1, (c.ρ b).2 + o, none⟩ (p.2.drop o) := by
  obtain ⟨hb, _⟩ := cellsAt_some h
  obtain ⟨C, lo, hi, g1, g2, g3, g4, _⟩ := (hR.cells b _ _ hb).row
  refine ⟨_, g3.drop o, fun j y hj => ?_⟩
  rw [List.getElem?_drop, List.getElem?_take] at hj
  split at hj
  · rw [List.getElem?_drop] at hj
    rw [Addr.add_mk]
    simp only [World.cell?, g1]
    have : C[(c.ρ b).2 + (o + j)]? = some y := by simpa using hj
    simpa [Nat.add_assoc] using this
  · cases hj

theorem rop_at {cs : List V} {x : Value} (h : RV c (.rop cs) x) : ∃ a, x = .pointer (some a) ∧ CellsAt c a cs := by
  obtain ⟨a, f, rfl, h1, h2, h3⟩ := h.rop_inv
  refine ⟨a, rfl, (List.range cs.length).map f, ⟨by simp, fun j v y hv hy => ?_⟩, fun j y hj => ?_⟩
  · have hj : j < cs.length := (List.getElem?_eq_some_iff.1 hv).1
    rw [List.getElem?_map, List.getElem?_range hj] at hy; cases hy
    exact .g (h2 j v hv)
  · rw [List.getElem?_map] at hj
    obtain ⟨k, hk, rfl⟩ := Option.map_eq_some_iff.1 hj
    have hlt : j < cs.length := by have := (List.getElem?_eq_some_iff.1 hk).1; simpa using this
    rw [List.getElem?_range hlt] at hk; cases hk
    exact h1 j hlt

theorem rd_spec (hE : EnvOk P E) {t : TypeId} {a : Addr} {cs : List V} {v : V} (h : CellsAt c a cs) (hr : rd E t cs = some v) : ∃ y, (loadVar t a).run P c.w = .ok y c.w ∧ RV c v y := by
  obtain ⟨d, hd, hr⟩ := Option.bind_eq_some_iff.1 hr
  have hT := hE.ty t d hd
  obtain ⟨ys, h1, h2⟩ := h
  simp only [loadVar, Sem.run_bind, hT.run_agg, Result.andThen_ok]
  split at hr
  · rename_i ha
    split at hr
    · rename_i hl
      cases hr
      rw [ha]
      simp only [if_true, Sem.run_bind, hT.run_size, Result.andThen_ok, loadCells_from c.w a ys h2 d.size (by rw [← h1.1]; exact hl), Sem.run_pure]
      exact ⟨_, rfl, RV.agg_mk (h1.take d.size)⟩
    · cases hr
  · rename_i ha
    simp only [ha, if_false, Bool.false_eq_true]
    cases cs with
    | nil => cases hr
    | cons u us =>
      cases hr
      obtain ⟨y, ys', rfl, h3, _⟩ := h1.cons_left
      refine ⟨y, ?_, h3⟩
      have := h2 0 y rfl
      rw [Addr.add_zero] at this
      simp [this]

theorem load_does (hE : EnvOk P E) (hR : Rel E c) {t : TypeId} {p v : V} {x : Value} (hp : RV c p x) (h : evLoad E t p c.h = some v) : Does P E c (Instr.loadAt t x) v c.h := by
  cases p <;> simp only [evLoad] at h
  case ptr b o sz =>
    obtain ⟨q, hq, hr⟩ := Option.bind_eq_some_iff.1 h
    obtain ⟨hb, hbl⟩ := cellsAt_some hq
    rw [hp.ptr_inv (by rw [hsz_cells hb, hbl])]
    obtain ⟨y, h1, h2⟩ := rd_spec hE (cellsAt_at hR hq o) hr
    exact Does.same hR (by simp [Instr.loadAt, Instr.sureAddr, h1]) h2
  case rop cs =>
    obtain ⟨a, rfl, ha⟩ := rop_at hp
    obtain ⟨y, h1, h2⟩ := rd_spec hE ha h
    exact Does.same hR (by simp [Instr.loadAt, Instr.sureAddr, h1]) h2
  all_goals cases h

theorem storeCells_does (hR : Rel E c) {b sz : Nat} {p : TypeId × List V} (h : cellsAt c.h b sz = some p) (o : Nat) {vs : List V} {xs : List Value} (hv : RVs c vs xs) (hone : vs.all V.isCell = true) (ho : o ≤ p.2.length)
    (hl : ∀ (C : Array Value) (T : TypeId) (fz : Nat × Nat), c.w.heap[(c.ρ b).1]? = some (.cells C T fz) → (c.ρ b).2 + o + vs.length ≤ C.size) :
    ∃ c', (storeCells ⟨(c.ρ b).1, (c.ρ b).2 + o, none⟩ xs).run P c.w = .ok () c'.w ∧ Ext c c' ∧ Rel E c' ∧ c'.h = c.h.set b (.cells p.1 (splice p.2 o vs)) ∧ c'.ρ = c.ρ ∧ c'.ro = c.ro := by
  obtain ⟨hb, _⟩ := cellsAt_some h
  obtain ⟨C, lo, hi, g1, g2, g3, g4, _⟩ := hR.cells b _ _ hb
  have hC := hl C _ _ g1
  obtain ⟨k1, k2⟩ := hR.write hb g1 o hv ho hC hone
  refine ⟨_, ?_, k1, k2, rfl, rfl, rfl⟩
  have := run_storeCells_in P (c.ρ b).1 ((c.ρ b).2 + o) p.1 lo hi xs 0 C c.w g1 (fun j h1 h2 => g4 j (by omega) (by rw [← hv.1] at h2; omega)) (by rw [← hv.1]; omega) (hv.one hone)
  simpa [writeC] using this

theorem store_does (hE : EnvOk P E) (hR : Rel E c) {t : TypeId} {p v : V} {x y : Value} {h' : Heap} (hp : RV c p x) (hv : RV c v y) (h : evStore E t p v c.h = some h') :
    ∃ c', (Instr.storeAt t x y).run P c.w = .ok () c'.w ∧ Ext c c' ∧ Rel E c' ∧ c'.h = h' := by
  cases p <;> simp only [evStore] at h
  case ptr b o sz =>
    replace h := Option.bind_eq_some_iff.1 h; obtain ⟨q, hq, h⟩ := h
    replace h := Option.bind_eq_some_iff.1 h; obtain ⟨d, hd, h⟩ := h
    split at h
    · rename_i hc
      cases h
      obtain ⟨hb, hbl⟩ := cellsAt_some hq
      have hT := hE.ty t d hd
      rw [hp.ptr_inv (by rw [hsz_cells hb, hbl])]
      have hcs := hv.cells hc.2.1
      obtain ⟨c', k1, k2, k3, k4, _⟩ := storeCells_does (P := P) hR hq o hcs hc.2.1 (by omega) (fun C T fz hC => by
        obtain ⟨C', lo, hi, g1, g2, _⟩ := hR.cells b _ _ hb
        rw [g1] at hC; cases hC; rw [hc.1]; omega)
      refine ⟨c', ?_, k2, k3, k4⟩
      have hsz : y.cells.size = d.size := by have := hcs.1; rw [hc.1] at this; simpa using this.symm
      simp [Instr.storeAt, Instr.sureAddr, storeVar, hT.run_size, hsz, k1]
    · cases h
  all_goals cases h

theorem RVs.toArray {vs : List V} {xs : Array Value} (h : RVs c vs xs.toList) : RVs c vs (xs.toList.take vs.length) := by
  rw [List.take_of_length_le (by rw [h.1]; exact Nat.le_refl _)]; exact h

/-- A new variable. -/
theorem newVar_does (hR : Rel E c) (T : TypeId) {vs : List V} {x : Value} (hv : RVs c vs x.cells.toList) (h0 : 0 < vs.length) (hone : vs.all V.isCell = true) :
    Does P E c (do pure (.pointer (some (← newVar T x)))) (.ptr c.h.length 0 vs.length) (push c.h (.cells T vs)) := by
  obtain ⟨k1, k2⟩ := pushC_cells hR T vs x.cells 0 0 (by rw [hv.1]; simp) hv.toArray (Or.inr (Nat.le_refl _)) hone
  refine ⟨_, pushC c (.cells T vs) (.cells x.cells T (0, 0)), ?_, k1, k2, rfl, push_ptr T vs _⟩
  simp [newVar, newRow, pushC]

theorem alloc_does (hE : EnvOk P E) (hR : Rel E c) {t : TypeId} {v : V} {h' : Heap} (h : evAlloc E t c.h = some (v, h')) : Does P E c (Instr.alloc t true (.tuple #[])) v h' := by
  replace h := Option.bind_eq_some_iff.1 h; obtain ⟨d, hd, h⟩ := h
  split at h
  · rename_i hc
    cases h
    have hT := hE.ty t d hd
    have hz : RVs c d.zero d.zeroV.cells.toList := by rw [hT.zero_cells]; exact zeros_rv hT.zo
    have := newVar_does (P := P) hR t hz (by omega) (zeroOk_cell hT.zo)
    rw [hc.1] at this
    obtain ⟨x, c', q1, q2⟩ := this
    exact ⟨x, c', by simpa [Instr.alloc, hT.run_zero] using q1, q2⟩
  · cases h

theorem box_does (hR : Rel E c) {t : TypeId} {u v : V} {x : Value} {h' : Heap} (hu : RV c u x) (h : evBox t u c.h = some (v, h')) : Does P E c (Instr.box t x) v h' := by
  unfold evBox at h
  split at h
  · rename_i hc
    cases h
    exact newVar_does hR t (hu.cells hc.1) hc.2 hc.1
  · cases h

end
end Go.Sb
