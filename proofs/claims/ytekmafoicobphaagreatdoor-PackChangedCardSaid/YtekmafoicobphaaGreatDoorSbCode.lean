/- Operations one after the other, code, calls. -/
import Derived.Test.YtekmafoicobphaaGreatDoorSbOps9
import Derived.RangeFuncLeaves
import Derived.OrdersIn
set_option linter.unusedVariables false
set_option linter.unusedSimpArgs false
namespace Go.Sb
structure DPred where
 p : Cx → List Deferred → Prop
 mono : ∀ {c c' : Cx} {ds : List Deferred}, Ext c c' → p c ds → p c' ds
def ygq (D : List Deferred) : DPred := ⟨fun _ ds => ds = D, fun _ h => h⟩
structure MarkOk (c0 c : Cx) (r : Nat) : Prop where
 new : c0.w.heap.size ≤ r
 lt : r < c.w.heap.size
 my : ¬ c.my r
 ro : ¬ c.ro r
 at_ : c.w.heap[r]? = some (.deferred (some []))
theorem MarkOk.mono {c0 c c' : Cx} (hE : Ext c c') {r : Nat} (h : MarkOk c0 c r) : MarkOk c0 c' r :=
 ⟨h.new, Nat.lt_of_lt_of_le h.lt hE.grow, fun k => (hE.mine r k).elim h.my (fun q => by have := h.lt; omega), fun k => (hE.ro2 r k).elim h.ro (fun q => by have := h.lt; omega), (hE.frame r h.lt h.my).trans h.at_⟩
def marksD (c0 : Cx) : DPred := ⟨fun c ds => c0.w.heap.size ≤ c.w.heap.size ∧ ∃ rs : List Nat, ds = rs.map (fun r => { target := .collected r, args := #[] }) ∧ rs.Nodup ∧ ∀ r ∈ rs, MarkOk c0 c r,
 fun hE ⟨h0, rs, h1, h2, h3⟩ => ⟨Nat.le_trans h0 hE.grow, rs, h1, h2, fun r hr => (h3 r hr).mono hE⟩⟩
def Marky (D : DPred) : Prop := ∀ (c c1 : Cx) (ds : List Deferred) (r : Nat), D.p c ds → Ext c c1 → MarkOk c c1 r → D.p c1 ({ target := .collected r, args := #[] } :: ds)
theorem yuv (c0 : Cx) : Marky (marksD c0) := by
 rintro c c1 ds r ⟨h0, rs, h1, h2, h3⟩ hE hm
 refine ⟨Nat.le_trans h0 hE.grow, r :: rs, by rw [h1]; rfl, List.nodup_cons.2 ⟨fun hr => ?_, h2⟩, fun x hx => ?_⟩
 ·have := (h3 r hr).lt; have := hm.new; omega
 ·rcases List.mem_cons.1 hx with rfl | hx
  ·exact ⟨Nat.le_trans h0 hm.new, hm.lt, hm.my, hm.ro, hm.at_⟩
  ·exact (h3 x hx).mono hE
section
variable {P : Program} {E : Env} {c : Cx} {D : DPred} {ro : Option Nat} {k : Nat}
def Fo (ro : Option Nat) : Fence := match ro with | none => Fence.wide | some l => Fence.wide.inRound l
theorem Fo.fn (ro : Option Nat) (f : FuncId) : (Fo ro).fn f := by cases ro <;> exact trivial
theorem Fo.depth (ro : Option Nat) : (Fo ro).depth = none := by cases ro <;> rfl
theorem Fo.round (ro : Option Nat) : (Fo ro).round = ro := by cases ro <;> rfl
theorem Fo.calls {ro : Option Nat} {n : Nat} {f : FuncId} {args : Array Value} {w : World} {R : Ending → World → Prop} (h : Calls P f args w R) : CallsIn (Fo ro) n P f args w R := by
 cases ro with
 | none => exact callsIn_wide.2 h
 | some l => exact (callsIn_wide.2 h : CallsIn Fence.wide n P f args w R)
theorem Fo.rounds {ro : Option Nat} {n m : Nat} {l : Nat} {f : FuncId} {tmps : Array Value} {assign body : Code} {w : World} {R : Ending → World → Prop} (h : RoundIn Fence.wide m P l f tmps assign body w R) : RoundIn (Fo ro) n P l f tmps assign body w R := by
 cases ro with
 | none => exact ⟨h.1, fun c cs _ => h.2 c cs (room_wide _)⟩
 | some l => exact ⟨h.1, fun c cs _ => h.2 c cs (room_wide _)⟩
structure FrOk (D : DPred) (c : Cx) (s : List V) (a : Act) : Prop where
 s : ∃ ts, s = und :: ts ∧ RVs c ts a.tmps.toList
 d : D.p c a.defers
theorem FrOk.mono {c c' : Cx} (hx : Ext c c') {s : List V} {a : Act} (h : FrOk D c s a) : FrOk D c' s a := by
 obtain ⟨⟨ts, h1, h2⟩, h3⟩ := h
 exact ⟨⟨ts, h1, h2.mono hx⟩, D.mono hx h3⟩
theorem FrOk.get {s : List V} {a : Act} (h : FrOk D c s a) (t : Nat) : RV c (getT s t) (a.tmps.getD t undef) := by
 obtain ⟨⟨ts, rfl, h2⟩, h3⟩ := h
 simp only [getT, List.getD_cons_succ]
 by_cases ht : t < ts.length
 ·have ht' : t < a.tmps.size := by have := h2.1; simp at this; omega
  rw [List.getD_eq_getElem?_getD, List.getElem?_eq_getElem ht, Array.getD_eq_getD_getElem?, Array.getElem?_eq_getElem ht']
  exact h2.2 t _ _ (List.getElem?_eq_getElem ht) (by simp [ht'])
 ·have ht' : ¬ t < a.tmps.size := by have := h2.1; simp at this; omega
  rw [List.getD_eq_getElem?_getD, List.getElem?_eq_none (by omega), Array.getD_eq_getD_getElem?, Array.getElem?_eq_none (by omega)]
  exact RV.undM c
theorem lit_ok (v : Value) : RV c (litV v) v := by
 cases v with
 | bool b => exact .g (.bool b)
 | int k n => exact .g (.int k n)
 | string s => exact .g (.str s.data.toList)
 | pointer a => cases a with
  | none => exact .g .nilp
  | some a => exact .junk _
 | slice a l k =>
  cases a with
  | some a => exact .junk _
  | none => cases l with
   | succ l => exact .junk _
   | zero => cases k with
    | succ k => exact .junk _
    | zero => exact .g .nils
 | map r => cases r with
  | none => exact .g .nilm
  | some r => exact .junk _
 | nilFunc => exact .g .nilf
 | nilIface => exact .g .nili
 | _ => exact .junk _
theorem yaw (hR : Rel E c) {s : List V} {a : Act} (h : FrOk D c s a) (x : Operand) : RV c (opd E s x) (a.eval x) := by
 cases x with
 | tmp t => exact h.get t
 | const v => exact lit_ok v
 | global g =>
  simp only [opd, Act.eval]
  cases hg : E.gl g with
  | none => exact .junk _
  | some cs => exact .g (hR.gl g cs hg).rg
 | func f => exact RV.fn_mk (f := .func f) (RVs.nil c)
theorem ymc (hR : Rel E c) {s : List V} {a : Act} (h : FrOk D c s a) (xs : List Operand) : RVs c (xs.map (opd E s)) (xs.map a.eval) := by
 induction xs with
 | nil => exact RVs.nil c
 | cons x xs ih => exact RVs.cons (yaw hR h x) ih
theorem yhr : ∀ (ts : List V) (t : Nat) (v : V), setL ts t v = ts.set t v
 | [], _, _ => rfl
 | _ :: _, 0, _ => rfl
 | x :: xs, n + 1, v => by simp [setL, yhr xs n v]
theorem FrOk.put {s : List V} {a : Act} (h : FrOk D c s a) (d : Option Tmp) {v : V} {x : Value} (hv : RV c v x) : FrOk D c (putT s d v) (a.put d x) := by
 cases d with
 | none => exact h
 | some t =>
  obtain ⟨⟨ts, rfl, h2⟩, h3⟩ := h
  refine ⟨⟨ts.set t v, by simp only [putT, setT, setL, yhr], ?_⟩, h3⟩
  simp only [Act.put]
  refine ⟨by simp [h2.1], fun i u y hu hy => ?_⟩
  rw [Array.toList_setIfInBounds] at hy
  by_cases e : t = i
  ·subst e
   have ht : t < ts.length := by have := (List.getElem?_eq_some_iff.1 hu).1; simpa using this
   rw [List.getElem?_set_self ht] at hu
   rw [List.getElem?_set_self (by rw [← h2.1]; exact ht)] at hy
   cases hu; cases hy; exact hv
  ·rw [List.getElem?_set_ne e] at hu hy
   exact h2.2 i u y hu hy
def Ret (E : Env) (c : Cx) (r : OpR) (e : Ending) (w' : World) : Prop :=
 ∃ c', Ext c c' ∧ Rel E c' ∧ c'.w = w' ∧ match r with
  | .val v h' => c'.h = h' ∧ ∃ x, e = .returned x ∧ RV c' v x
  | .pan v h' => c'.h = h' ∧ ∃ x, e = .panicked [{ v := x, recovered := false }] ∧ RV c' v x
def ypc (P : Program) (E : Env) (b : Nat) (args : List V) (h : Heap) (r : OpR) : Prop :=
 ∀ (c : Cx) (xs : List Value), Rel E c → c.h = h → RVs c args xs → yez c.h b ∧ ∃ lp : Loop, c.w.heap[(c.ρ b).1]? = some (.loop lp) ∧ xs.length = lp.params.size ∧
  RoundIn Fence.wide 0 P (c.ρ b).1 lp.fn ((lp.params.zip ⟨xs⟩).foldl (fun t p => t.setIfInBounds p.1 p.2) lp.tmps) lp.assign lp.body c.w (Ret E c r)
def ycc (P : Program) (E : Env) (call : CallF) : Prop :=
 ∀ (m : Mode) (f : FuncId) (args : List V) (h : Heap) (r : OpR), call m f args h = some r → (m = .own → ∀ v g, r = .val v g → g = h) ∧ (m ≠ .round → (∃ F, P.funcs[f]? = some F ∧ F.body.isSome = true ∧ (F.name == "runtime.NumGoroutine") = false) ∧
  ∀ (c : Cx) (xs : List Value), Rel E c → c.h = h → RVs c args xs → Calls P f ⟨xs⟩ c.w (Ret E c r)) ∧ (m = .round → ypc P E f args h r)
def OpWp (P : Program) (ro : Option Nat) (k : Nat) (o : Oper) (a : Act) (w : World) (next : Act → World → Prop) (Q : Exit → Act → World → Prop) : Prop :=
 o.uponIn (Fo ro) k P a next Q ((execOp a.eval o).run P w)
def yfr (E : Env) (c : Cx) (o : Oper) (a : Act) (next : Act → World → Prop) (Q : Exit → Act → World → Prop) : OpR → Prop
 | .val v h' => ∀ c' x, Ext c c' → Rel E c' → c'.h = h' → RV c' v x → next (a.put o.dst x) c'.w
 | .pan v h' => ∀ c' x, Ext c c' → Rel E c' → c'.h = h' → RV c' v x → Q (.panic [{ v := x, recovered := false }]) a c'.w
theorem ybo {o : Oper} {a : Act} {next : Act → World → Prop} {Q : Exit → Act → World → Prop} {sm : Sem Value} {v : V} {h' : Heap} (hd : Does P E c sm v h') (he : execOp a.eval o = do pure (.value (← sm)))
  (hn : yfr E c o a next Q (.val v h')) : OpWp P ro k o a c.w next Q := by
 obtain ⟨x, c', h1, h2, h3, h4, h5⟩ := hd
 have : (execOp a.eval o).run P c.w = .ok (.value x) c'.w := by rw [he]; simp [h1]
 unfold OpWp
 rw [this]
 exact hn c' x h2 h3 h4 h5
theorem ymd {o : Oper} {a : Act} {next : Act → World → Prop} {Q : Exit → Act → World → Prop} {sm : Sem Unit} {h' : Heap} (hd : ∃ c', sm.run P c.w = .ok () c'.w ∧ Ext c c' ∧ Rel E c' ∧ c'.h = h') (he : execOp a.eval o = do sm; pure .skip)
  (hn : yfr E c o a next Q (.val und h')) : OpWp P ro k o a c.w next Q := by
 obtain ⟨c', h1, h2, h3, h4⟩ := hd
 have : (execOp a.eval o).run P c.w = .ok .skip c'.w := by rw [he]; simp [h1]
 unfold OpWp
 rw [this]
 exact hn c' undef h2 h3 h4 (RV.undM c')
theorem yee {o : Oper} {a : Act} {next : Act → World → Prop} {Q : Exit → Act → World → Prop} {v : V} {x : Value} (hR : Rel E c) (he : (execOp a.eval o).run P c.w = .ok (.value x) c.w) (hv : RV c v x)
  (hn : yfr E c o a next Q (.val v c.h)) : OpWp P ro k o a c.w next Q := by
 unfold OpWp
 rw [he]
 exact hn c x (Ext.refl c) hR rfl hv
theorem yuw (hE : EnvOk P E) (hR : Rel E c) {md : FuncId → Mode} {call : CallF} (hC : ycc P E call) {o : Oper} {a : Act} {next : Act → World → Prop} {Q : Exit → Act → World → Prop} {f : V} {fx : Value} {args : List V} {xs : List Value} {r : OpR}
  (hf : RV c f fx) (hargs : RVs c args xs) (h : ydo E md call f args c.h = some r)
  (he : execOp a.eval o = do let d ← Deferred.ofValue fx ⟨xs⟩; invoke d.target d.args) (hn : yfr E c o a next Q r) : OpWp P ro k o a c.w next Q := by
 unfold ydo at h
 split at h
 ·rename_i g caps
  obtain ⟨ys, rfl, hys⟩ := hf.fn_inv
  have hd : execOp a.eval o = callFunc g (⟨xs⟩ ++ ys) := by rw [he]; simp [Deferred.ofValue, invoke]
  have happ : (⟨xs⟩ ++ ys : Array Value) = ⟨xs ++ ys.toList⟩ := by apply Array.ext'; simp
  rw [happ] at hd
  have hall := hargs.append hys
  split at h
  ·rename_i p hp
   obtain ⟨v, hv, rfl⟩ := Option.map_eq_some_iff.1 h
   obtain ⟨x, h1, h2⟩ := hE.ext g p hp c _ _ v hall hv
   exact yee hR (by rw [hd]; exact h1) h2 hn
  ·obtain ⟨_, k0, k0'⟩ := hC _ _ _ _ _ h
   have hm : nrm (md g) ≠ .round := by cases md g <;> simp [nrm]
   obtain ⟨⟨F, k1, k2, k3⟩, k4⟩ := k0 hm
   have k5 := k4 c _ hR rfl hall
   have hrun : (callFunc g ⟨xs ++ ys.toList⟩).run P c.w = .ok (.enter g ⟨xs ++ ys.toList⟩) c.w := by
    have hb : F.body ≠ none := by intro hq; rw [hq] at k2; cases k2
    have hne : F.name ≠ "runtime.NumGoroutine" := by simpa using k3
    simp [callFunc, k1, hne, hb]
   unfold OpWp
   rw [hd, hrun]
   refine ⟨fun h => (by rw [Fo.depth] at h; cases h), Fo.calls (k5.mono fun e w' hr => ?_)⟩
   obtain ⟨c', q1, q2, q3, q4⟩ := hr
   subst q3
   cases r with
   | val v h' =>
    obtain ⟨q5, x, rfl, q6⟩ := q4
    exact hn c' x q1 q2 q5 q6
   | pan v h' =>
    obtain ⟨q5, x, rfl, q6⟩ := q4
    exact hn c' x q1 q2 q5 q6
 ·rename_i b
  obtain ⟨_, _, k0⟩ := hC _ _ _ _ _ h
  obtain ⟨hit, lp, k1, k2, k3⟩ := k0 rfl c xs hR rfl hargs
  have hfx := hf.it_inv hit
  have hd : (execOp a.eval o).run P c.w = .ok (.round (c.ρ b).1 lp.fn ((lp.params.zip ⟨xs⟩).foldl (fun t p => t.setIfInBounds p.1 p.2) lp.tmps) lp.assign lp.body) c.w := by
   rw [he, hfx]
   simp [Deferred.ofValue, invoke, Instr.yield, Instr.getLoop, getObj, Sem.run, k1, k2]
  unfold OpWp
  rw [hd]
  refine ⟨fun h => (by rw [Fo.depth] at h; cases h), Fo.rounds (k3.mono fun e w' hr => ?_)⟩
  obtain ⟨c', q1, q2, q3, q4⟩ := hr
  subst q3
  cases r with
  | val v h' =>
   obtain ⟨q5, x, rfl, q6⟩ := q4
   exact hn c' x q1 q2 q5 q6
  | pan v h' =>
   obtain ⟨q5, x, rfl, q6⟩ := q4
   exact hn c' x q1 q2 q5 q6
 ·rename_i g cs
  obtain ⟨ys, rfl, hys⟩ := hf.bm_inv
  have hd : execOp a.eval o = callFunc g (ys ++ ⟨xs⟩) := by rw [he]; simp [Deferred.ofValue, invoke]
  have happ : (ys ++ ⟨xs⟩ : Array Value) = ⟨ys.toList ++ xs⟩ := by apply Array.ext'; simp
  rw [happ] at hd
  have hall := hys.append hargs
  obtain ⟨_, k0, k0'⟩ := hC _ _ _ _ _ h
  have hm : nrm (md g) ≠ .round := by cases md g <;> simp [nrm]
  obtain ⟨⟨F, k1, k2, k3⟩, k4⟩ := k0 hm
  have k5 := k4 c _ hR rfl hall
  have hrun : (callFunc g ⟨ys.toList ++ xs⟩).run P c.w = .ok (.enter g ⟨ys.toList ++ xs⟩) c.w := by
   have hb : F.body ≠ none := by intro hq; rw [hq] at k2; cases k2
   have hne : F.name ≠ "runtime.NumGoroutine" := by simpa using k3
   simp [callFunc, k1, hne, hb]
  unfold OpWp
  rw [hd, hrun]
  refine ⟨fun h => (by rw [Fo.depth] at h; cases h), Fo.calls (k5.mono fun e w' hr => ?_)⟩
  obtain ⟨c', q1, q2, q3, q4⟩ := hr
  subst q3
  cases r with
  | val v h' =>
   obtain ⟨q5, x, rfl, q6⟩ := q4
   exact hn c' x q1 q2 q5 q6
  | pan v h' =>
   obtain ⟨q5, x, rfl, q6⟩ := q4
   exact hn c' x q1 q2 q5 q6
 ·cases h
theorem ypd (hR : Rel E c) {s : List V} {a : Act} (h : FrOk D c s a) (ps : Array (Nat × Operand)) : ylt c (ps.toList.map fun p => (p.1, opd E s p.2)) (ps.map fun (i, x) => (i, a.eval x)).toList := by
 refine ⟨by simp, fun i p q hp hq => ?_⟩
 rw [List.getElem?_map] at hp
 obtain ⟨x, hx, rfl⟩ := Option.map_eq_some_iff.1 hp
 rw [Array.toList_map, List.getElem?_map, hx] at hq
 cases hq
 exact ⟨rfl, yaw hR h x.2⟩
theorem optRel (hR : Rel E c) {s : List V} {a : Act} (h : FrOk D c s a) (x : Option Operand) : yed c (x.map (opd E s)) (x.map a.eval) := by
 cases x with
 | none => trivial
 | some x => exact yaw hR h x
theorem yux (hE : EnvOk P E) (hR : Rel E c) {o : Oper} {a : Act} {next : Act → World → Prop} {Q : Exit → Act → World → Prop} {b : Builtin} {cs : Array Bool} {ts : Array TypeId} {args : List V} {xs : List Value} {r : OpR}
  (hargs : RVs c args xs) (h : yeh E b ts.toList args c.h = some r) (he : execOp a.eval o = builtin b ts o.type cs ⟨xs⟩) (hn : yfr E c o a next Q r) : OpWp P ro k o a c.w next Q := by
 obtain ⟨ts⟩ := ts
 unfold yeh at h
 split at h
 ·rename_i t u tl s x hts
  simp only at hts; subst hts
  replace h := Option.bind_eq_some_iff.1 h; obtain ⟨d, hd, h⟩ := h
  obtain ⟨xs0, xs1, rfl, r0, hr⟩ := hargs.cons_left
  obtain ⟨xs1, xs2, rfl, r1, hr⟩ := hr.cons_left
  have := hr.nil_left; subst this
  -- the two argument types alone count
  have key : ∀ tl : List TypeId, (Builtin.append_ ⟨t :: u :: tl⟩ o.type ⟨[xs0, xs1]⟩) = Builtin.append_ #[t, u] o.type #[xs0, xs1] := fun tl => rfl
  split at h
  ·rename_i hu
   obtain ⟨p, hp, rfl⟩ := Option.map_eq_some_iff.1 h
   exact ybo (yok (P := P) (ty := o.type) hE hR hd (.inl hu) r0 r1 hp) (by rw [he]; simp only [builtin, key]) hn
  ·rename_i e hu
   obtain ⟨p, hp, rfl⟩ := Option.map_eq_some_iff.1 h
   exact ybo (yok (P := P) (ty := o.type) hE hR hd (.inr ⟨e, hu⟩) r0 r1 hp) (by rw [he]; simp only [builtin, key]) hn
  ·cases h
 ·rename_i t tl x hts
  simp only at hts; subst hts
  obtain ⟨v, hv, rfl⟩ := Option.map_eq_some_iff.1 h
  obtain ⟨x0, xs1, rfl, r0, hr⟩ := hargs.cons_left
  have := hr.nil_left; subst this
  exact ybo (len_does (P := P) (ty := o.type) hE hR r0 hv) (by rw [he]; rfl) hn
 ·rename_i t tl x hts
  simp only at hts; subst hts
  obtain ⟨v, hv, rfl⟩ := Option.map_eq_some_iff.1 h
  obtain ⟨x0, xs1, rfl, r0, hr⟩ := hargs.cons_left
  have := hr.nil_left; subst this
  exact ybo (cap_does (P := P) (ty := o.type) hE hR r0 hv) (by rw [he]; rfl) hn
 ·rename_i t tl d s hts
  simp only at hts; subst hts
  obtain ⟨p, hp, rfl⟩ := Option.map_eq_some_iff.1 h
  obtain ⟨x0, xs1, rfl, r0, hr⟩ := hargs.cons_left
  obtain ⟨x1, xs2, rfl, r1, hr⟩ := hr.cons_left
  have := hr.nil_left; subst this
  exact ybo (yud (P := P) (xT := t) (ty := o.type) hE hR r0 r1 hp) (by rw [he]; rfl) hn
 ·rename_i t tl x hts
  simp only at hts; subst hts
  obtain ⟨p, hp, rfl⟩ := Option.map_eq_some_iff.1 h
  obtain ⟨x0, xs1, rfl, r0, hr⟩ := hargs.cons_left
  have := hr.nil_left; subst this
  exact ybo (yue (P := P) (ty := o.type) hE hR r0 hp) (by rw [he]; rfl) hn
 ·rename_i x us
  obtain ⟨v, hv, rfl⟩ := Option.map_eq_some_iff.1 h
  obtain ⟨x0, xs1, rfl, r0, hr⟩ := hargs.cons_left
  obtain ⟨y, k1, k2⟩ := yol (P := P) hR r0 hr hv
  exact yee hR (x := y) (by rw [he]; simp only [builtin, Builtin.min_, Sem.run_bind, k1, Result.andThen_ok, Sem.run_pure]) k2 hn
 ·rename_i x us
  obtain ⟨v, hv, rfl⟩ := Option.map_eq_some_iff.1 h
  obtain ⟨x0, xs1, rfl, r0, hr⟩ := hargs.cons_left
  obtain ⟨y, k1, k2⟩ := yom (P := P) hR r0 hr hv
  exact yee hR (x := y) (by rw [he]; simp only [builtin, Builtin.max_, Sem.run_bind, k1, Result.andThen_ok, Sem.run_pure]) k2 hn
 ·rename_i x
  obtain ⟨v, hv, rfl⟩ := Option.map_eq_some_iff.1 h
  obtain ⟨x0, xs1, rfl, r0, hr⟩ := hargs.cons_left
  have := hr.nil_left; subst this
  exact ybo (yuo (P := P) (E := E) (ts := ⟨ts⟩) (ty := o.type) hR r0 hv) (by rw [he]; rfl) hn
 ·rename_i t tl x n hts
  simp only at hts; subst hts
  obtain ⟨p, hp, rfl⟩ := Option.map_eq_some_iff.1 h
  obtain ⟨x0, xs1, rfl, r0, hr⟩ := hargs.cons_left
  obtain ⟨x1, xs2, rfl, r1, hr⟩ := hr.cons_left
  have := hr.nil_left; subst this
  have key : ∀ (tl : List TypeId) (n : Value), Builtin.unsafeString_ ⟨t :: tl⟩ o.type ⟨[x0, n]⟩ = Builtin.unsafeString_ #[t, t] o.type #[x0, n] := fun tl n => rfl
  exact ybo (yuq (P := P) (it := t) (ty := o.type) hE hR r0 r1 hp) (by rw [he]; simp only [builtin, key]) hn
 ·rename_i t x
  cases h
  obtain ⟨x0, xs1, rfl, r0, hr⟩ := hargs.cons_left
  have := hr.nil_left; subst this
  obtain ⟨u, y, rfl⟩ := r0.ifc_any
  have : (execOp a.eval o).run P c.w = .halt (.panic (.iface u y)) c.w := by rw [he]; simp [builtin, Instr.panic]
  unfold OpWp
  rw [this]
  exact hn c _ (Ext.refl c) hR rfl r0
 ·cases h
theorem ype (hE : EnvOk P E) (hR : Rel E c) {md : FuncId → Mode} {call : CallF} (hC : ycc P E call) {o : Oper} {s : List V} {a : Act} (hF : FrOk D c s a) {next : Act → World → Prop} {Q : Exit → Act → World → Prop} {r : OpR}
  (h : evOp E md call o.op s c.h = some r) (hn : yfr E c o a next Q r) : OpWp P ro k o a c.w next Q := by
 obtain ⟨dst, op, type, pos, after, guard⟩ := o
 simp only at h
 cases op <;> simp only [evOp] at h
 case move x => cases h; exact yee hR (by simp [execOp]) (yaw hR hF x) hn
 case assign x => cases h; exact yee hR (by simp [execOp]) (yaw hR hF x) hn
 case pick cc x y =>
  split at h
  ·rename_i t hcc
   cases h
   have e := yaw hR hF cc
   rw [hcc] at e
   refine yee hR (x := if t = true then a.eval x else a.eval y) (by simp [execOp, e.bool_inv, asBool]) ?_ hn
   have hx := yaw hR hF x
   have hy := yaw hR hF y
   split
   ·rename_i p q e1 e2
    rw [e1] at hx; rw [e2] at hy
    rw [hx.bool_inv, hy.bool_inv]
    cases t <;> exact .g (.bool _)
   ·cases t
    ·exact hy
    ·exact hx
  ·cases h
 case alloc t => obtain ⟨p, hp, rfl⟩ := Option.map_eq_some_iff.1 h; exact ybo (yto hE hR hp) rfl hn
 case box t x => obtain ⟨p, hp, rfl⟩ := Option.map_eq_some_iff.1 h; exact ybo (box_does hR (yaw hR hF x) hp) rfl hn
 case build t ps => obtain ⟨v, hv, rfl⟩ := Option.map_eq_some_iff.1 h; exact ybo (ytr hE hR (ypd hR hF ps) hv) rfl hn
 case buildSlice t n ps => obtain ⟨p, hp, rfl⟩ := Option.map_eq_some_iff.1 h; exact ybo (yts hE hR (ypd hR hF ps) hp) rfl hn
 case load t x => obtain ⟨v, hv, rfl⟩ := Option.map_eq_some_iff.1 h; exact ybo (ytm hE hR (yaw hR hF x) hv) rfl hn
 case store t x y => obtain ⟨p, hp, rfl⟩ := Option.map_eq_some_iff.1 h; exact ymd (ytn hE hR (yaw hR hF x) (yaw hR hF y) hp) rfl hn
 case nilCheck x =>
  have hx := yaw hR hF x
  split at h
  ·rename_i p q z e
   cases h
   rw [e] at hx
   obtain ⟨_, _, ad, hz⟩ := hx.ptr_parts
   exact yee hR (x := a.eval x) (by simp [execOp, hz]) hx hn
  ·rename_i cs e
   cases h
   rw [e] at hx
   obtain ⟨ad, f, hz, _⟩ := hx.rop_inv
   exact yee hR (x := a.eval x) (by simp [execOp, hz]) hx hn
  ·rename_i f cs e
   cases h
   rw [e] at hx
   obtain ⟨ys, hz, _⟩ := hx.fn_inv
   exact yee hR (x := a.eval x) (by simp [execOp, hz]) hx hn
  ·cases h
 case binOp op t x y yt =>
  split at h
  ·obtain ⟨v, hv, rfl⟩ := Option.map_eq_some_iff.1 h; exact ybo (yup (ox := x) (oy := y) hE hR (yaw hR hF x) (yaw hR hF y) hv) rfl hn
  obtain ⟨v, hv, rfl⟩ := Option.map_eq_some_iff.1 h
  cases hb : yhm x y (opd E s x) (opd E s y)
  ·rw [hb] at hv; exact ybo (yoq (ox := x) (oy := y) hE hR (yaw hR hF x) (yaw hR hF y) hv) rfl hn
  ·rw [hb] at hv; exact ybo (nil_does hE hR (yaw hR hF x) (yaw hR hF y) hb hv) rfl hn
 case unOp op t x => obtain ⟨v, hv, rfl⟩ := Option.map_eq_some_iff.1 h; exact ybo (un_does hR (yaw hR hF x) hv) rfl hn
 case convert t u x => obtain ⟨p, hp, rfl⟩ := Option.map_eq_some_iff.1 h; exact ybo (yut hE hR (yaw hR hF x) hp) rfl hn
 case makeInterface t x => obtain ⟨v, hv, rfl⟩ := Option.map_eq_some_iff.1 h; exact ybo (yug hE hR (yaw hR hF x) hv) rfl hn
 case makeFunc fn first caps =>
  cases fn <;> simp only at h
  case func f =>
   split at h
   ·rename_i hfe
    cases h
    have e1 : first = #[] := by simpa using hfe
    subst e1
    have hc := RV.fn_mk (f := .func f) (ymc hR hF caps.toList)
    have e2 : (⟨caps.toList.map a.eval⟩ : Array Value) = caps.map a.eval := by apply Array.ext'; simp
    rw [e2] at hc
    exact yee hR (by simp [execOp, Instr.makeFunc]) hc hn
   ·split at h
    ·rename_i hce
     cases h
     have e1 : caps = #[] := by simpa using hce
     subst e1
     have hc := RV.bm_mk (f := f) (ymc hR hF first.toList)
     have e2 : (⟨first.toList.map a.eval⟩ : Array Value) = first.map a.eval := by apply Array.ext'; simp
     rw [e2] at hc
     exact yee hR (by simp [execOp, Instr.makeFunc]) hc hn
    ·cases h
  all_goals cases h
 case makeMap t rv =>
  cases rv <;> simp only at h
  case none =>
   replace h := Option.bind_eq_some_iff.1 h; obtain ⟨d, hd, h⟩ := h
   split at h
   ·cases h
    have k1 := yje hR (.map []) (.map #[] 0)
    have k2 : Rel E (pushC c (.map []) (.map #[] 0)) := yll hR _ _ (fun T cs h => by cases h) (fun es h => by cases h; exact ⟨#[], 0, by simp only [pushC, yba]; simp, rfl, ⟨rfl, fun i e h => by simp at h⟩, fun i k v h => by simp at h⟩) (fun s h => by cases h)
    refine ybo (sm := Instr.makeMap t none) (v := .mp c.h.length) (h' := push c.h (.map [])) ⟨.map (some c.w.heap.size), pushC c (.map []) (.map #[] 0), by simp [Instr.makeMap, pushC], k1, k2, rfl, .mp _ _ ⟨_, rfl⟩ (by simp [pushC, push]) fun _ => by simp only [pushC, yba]⟩ rfl hn
   ·cases h
  case some x => cases h
 case makeSlice t l k => obtain ⟨p, hp, rfl⟩ := Option.map_eq_some_iff.1 h; exact ybo (ytt hE hR (yaw hR hF l) (yaw hR hF k) hp) rfl hn
 case slice t x lo hi mx => obtain ⟨v, hv, rfl⟩ := Option.map_eq_some_iff.1 h; exact ybo (ytz hE hR (yaw hR hF x) (optRel hR hF lo) (optRel hR hF hi) (optRel hR hF mx) hv) rfl hn
 case fieldAddr t x f => obtain ⟨v, hv, rfl⟩ := Option.map_eq_some_iff.1 h; exact ybo (ytv hE hR (yaw hR hF x) hv) rfl hn
 case field t x f => obtain ⟨v, hv, rfl⟩ := Option.map_eq_some_iff.1 h; exact ybo (ytw hE hR (yaw hR hF x) hv) rfl hn
 case indexAddr t x i => obtain ⟨v, hv, rfl⟩ := Option.map_eq_some_iff.1 h; exact ybo (ytx hE hR (yaw hR hF x) (yaw hR hF i) hv) rfl hn
 case index t x i => obtain ⟨v, hv, rfl⟩ := Option.map_eq_some_iff.1 h; exact ybo (yty hE hR (yaw hR hF x) (yaw hR hF i) hv) rfl hn
 case lookup t x k ok => obtain ⟨v, hv, rfl⟩ := Option.map_eq_some_iff.1 h; exact ybo (yuu hE hR (yaw hR hF x) (yaw hR hF k) hv) rfl hn
 case mapUpdate t m k x => obtain ⟨p, hp, rfl⟩ := Option.map_eq_some_iff.1 h; exact ymd (ypb hE hR (yaw hR hF m) (yaw hR hF k) (yaw hR hF x) hp) rfl hn
 case insert t m k x => obtain ⟨p, hp, rfl⟩ := Option.map_eq_some_iff.1 h; exact ymd (ypb hE hR (yaw hR hF m) (yaw hR hF k) (yaw hR hF x) hp) rfl hn
 case typeAssert x xt t ok => obtain ⟨v, hv, rfl⟩ := Option.map_eq_some_iff.1 h; exact ybo (yuh hE hR (yaw hR hF x) hv) rfl hn
 case extract x i => obtain ⟨v, hv, rfl⟩ := Option.map_eq_some_iff.1 h; exact ybo (yuf hR (yaw hR hF x) hv) rfl hn
 case call cl =>
  obtain ⟨callee, args, ats⟩ := cl
  have hargs := ymc hR hF args.toList
  have ea : (⟨args.toList.map a.eval⟩ : Array Value) = args.map a.eval := by apply Array.ext'; simp
  cases callee <;> simp only at h
  case value f => exact yuw hE hR hC (yaw hR hF f) hargs h (by simp only [execOp, resolve, ea]) hn
  case builtin b => exact yux (cs := args.map fun | .const _ => true | _ => false) hE hR hargs h (by simp only [execOp, resolve, ea, pure_bind, invoke]; rfl) hn
  case invoke rv nm => cases h
 case panic x =>
  have hx := yaw hR hF x
  split at h
  ·rename_i t v e
   cases h
   rw [e] at hx
   obtain ⟨u, y, hy⟩ := hx.ifc_any
   have : (execOp a.eval ⟨dst, .panic x, type, pos, after, guard⟩).run P c.w = .halt (.panic (.iface u y)) c.w := by simp [execOp, hy, Instr.panic]
   unfold OpWp
   rw [this]
   exact hn c _ (Ext.refl c) hR rfl (hy ▸ hx)
  ·cases h
 all_goals cases h
theorem op_in (hE : EnvOk P E) (hR : Rel E c) {md : FuncId → Mode} {call : CallF} (hC : ycc P E call) {o : Oper} {s : List V} {a : Act} (hF : FrOk D c s a) {next : Act → World → Prop} {Q : Exit → Act → World → Prop} {r : OpR}
  (h : evOp E md call o.op s c.h = some r) (hn : yfr E c o a next Q r) : o.wpIn (Fo ro) k P a c.w next Q := by
 refine ⟨fun f _ => Fo.fn ro f, ?_⟩
 rw [Oper.semAt_eq _ _ _ (fun cl hcl => by rw [hcl] at h; simp [evOp] at h)]
 exact ype (ro := ro) (k := k) hE hR hC hF h hn
end
end Go.Sb
