/- Functions with one deferred closure that recovers first: what the evaluator answers holds of the machine. -/
import Derived.Test.YtekmafoicobphaaGreatDoorSbSound
import Derived.Recover
set_option linter.unusedVariables false
set_option linter.unusedSimpArgs false
namespace Go.Sb
section
variable {P : Program} {E : Env}
theorem frame0 {c : Cx} {nt : Nat} {F : Func} {args : List V} {xs : List Value} (hnt : F.ntmps = nt) (hargs : RVs c args xs) : FrOk (ygq []) c (initT nt args) { tmps := (⟨xs⟩ : Array Value) ++ Array.replicate (F.ntmps - (⟨xs⟩ : Array Value).size) undef, defers := [] } := by
 refine ⟨⟨_, rfl, ?_⟩, rfl⟩
 have hrep : RVs c (List.replicate (nt - args.length) und) (List.replicate (nt - args.length) undef) := by
  refine ⟨by simp, fun i v x hv hx => ?_⟩
  rw [List.getElem?_replicate] at hv hx
  split at hv
  ·rename_i hi; rw [if_pos hi] at hx; cases hv; cases hx; exact RV.undM c
  ·cases hv
 have := hargs.append hrep
 simpa [hnt, hargs.1] using this
theorem ypn (hE : EnvOk P E) {md : FuncId → Mode} {call : CallF} (hC : ycc P E call) {n : Nat} {rest : Code} {Q : Exit → Act → World → Prop} {D : DPred} : ∀ (cs : List Code) (c : Cx) (s : List V) (a : Act) (s' : List V) (h' : Heap),
  (∀ x ∈ cs, ycv x = true) → Rel E c → FrOk D c s a → evPre E md call n cs s c.h = some (s', h') → (∀ c' a', Ext c c' → Rel E c' → c'.h = h' → FrOk D c' s' a' → rest.wp P Q a' c'.w) → (seqs cs rest).wp P Q a c.w
 | [], c, s, a, s', h', hp, hR, hF, he, hk => by
  simp only [evPre] at he; cases he
  exact hk c a (Ext.refl c) hR rfl hF
 | x :: xs, c, s, a, s', h', hp, hR, hF, he, hk => by
  simp only [evPre] at he
  obtain ⟨q, hq, he⟩ := Option.bind_eq_some_iff.1 he
  obtain ⟨e, s1, h1⟩ := q
  cases e with
  | normal =>
   refine wp_seq ((wpIn_wide (n := 0)).1 (ygt (ro := none) hE hC n x _ c s a .normal s1 h1 (.inl (hp x (List.mem_cons_self ..))) hR hF hq ?_))
   intro c1 a1 hx hR1 hh hF1
   subst hh
   exact ypn hE hC xs c1 s1 a1 s' h' (fun y hy => hp y (List.mem_cons_of_mem _ hy)) hR1 hF1 he fun c' a' hx' => hk c' a' (hx.trans hx')
  | _ => cases he
theorem yvn {ro : Option Nat} {k : Nat} {o : Oper} {a : Act} {w : World} {next : Act → World → Prop} {Q : Exit → Act → World → Prop} (hv : ∀ n w', (execOp a.eval o).run P w = .ok n w' → ∃ v, n = .value v) (h : OpWp P ro k o a w next Q) : o.wp P a w next Q := by
 unfold OpWp at h
 unfold Oper.wp
 cases hr : (execOp a.eval o).run P w with
 | ok n w' => obtain ⟨v, rfl⟩ := hv n w' hr; rw [hr] at h; exact h
 | halt x w' => rw [hr] at h; cases x <;> exact h
theorem yvo (hE : EnvOk P E) {call : CallF} (hC : ycc P E call) {n : Nat} {f : FuncId} {G : GuardD} (hG : GuardOk P f G) {caps : List V} {xs : List Value} {pv : V} {h5 : Heap} {c : Cx} {x : Value} (hR : Rel E c) (hargs : RVs c caps xs) (hx : RV c pv x)
  {u u' : FrameMode} (hrec : ∀ (c₀ : Frame) (cs : List Frame), c₀.mode = u → (recoverD (c₀ :: cs) = some (x, { c₀ with mode := u' } :: cs)) ∨ (recoverD (c₀ :: cs) = none ∧ x = .nilIface ∧ u' = u))
  (h : evDef E call n G caps pv c.h = some h5) : CallsD P G.g ⟨xs⟩ u c.w fun e u1 w' => u1 = u' ∧ ∃ v c', e = .returned v ∧ Ext c c' ∧ Rel E c' ∧ c'.w = w' ∧ c'.h = h5 := by
 obtain ⟨F, hf, hb, hnt, hres, hname⟩ := hG.gn.fn
 unfold evDef at h
 split at h
 ·replace h := Option.bind_eq_some_iff.1 h; obtain ⟨q, hq, h⟩ := h
  obtain ⟨e, s', h'⟩ := q
  refine callsD_of_wpS hf hb ?_
  intro c₀ cs hmode
  rw [hG.gbody]
  refine wpS_seq (wpS_region ?_)
  have hF0 := frame0 (c := c) (F := F) hnt hargs
  obtain ⟨hg, ts, hop⟩ := hG.rc
  generalize ({ tmps := (⟨xs⟩ : Array Value) ++ Array.replicate (F.ntmps - (⟨xs⟩ : Array Value).size) undef, defers := [] } : Act) = a0 at hF0 ⊢
  have hwant : Region.wanted G.rc (yielded #[G.rc] a0.tmps) = true := by
   unfold Region.wanted; rw [hg]
  have hex : (execOp a0.eval G.rc).run P c.w = .ok .recover c.w := by
   unfold execOp; rw [hop]; simp [resolve, invoke, builtin]
  have hrest : ∀ (cs' : List Frame), cs' = { c₀ with mode := u' } :: cs → G.grest.wpS P (bodyPostS P F c₀ cs fun e u1 w' => u1 = u' ∧ ∃ v c', e = .returned v ∧ Ext c c' ∧ Rel E c' ∧ c'.w = w' ∧ c'.h = h5) (a0.put G.rc.dst x) cs' c.w := by
   intro cs' hcs
   refine wpS_of_wp ((wpIn_wide (n := 0)).1 (ygt (ro := none) hE hC n G.grest _ c _ _ e s' h' (.inl hG.pl.2.2) hR (hF0.put _ hx) hq ?_))
   intro c1 a1 hx1 hR1 hh1 hF1
   have fin : (ybp E G.gd.res s' h').map (fun _ => h') = some h5 → a1.defers = [] ∧ ∃ u1, cs' = { c₀ with mode := u1 } :: cs ∧ ∃ v, (results F a1.tmps).run P c1.w = .ok v c1.w ∧ u1 = u' ∧ ∃ v' c', Ending.returned v = .returned v' ∧ Ext c c' ∧ Rel E c' ∧ c'.w = c1.w ∧ c'.h = h5 := by
    intro hm
    obtain ⟨v, hv, rfl⟩ := Option.map_eq_some_iff.1 hm
    obtain ⟨y, k1, k2⟩ := ymh (P := P) (fn := F) hE hR1 hF1 (by rw [hres, hh1]; exact hv)
    exact ⟨hF1.d, u', hcs, y, k1, rfl, y, c1, rfl, hx1, hR1, rfl, hh1⟩
   cases e with
   | normal => exact fin h
   | ret => exact fin h
   | exit i => cases h
   | panic v => cases h
  show wpOpsS P #[G.rc] _ [0] _ _ _
  have h0 : (#[G.rc] : Array Oper)[0]? = some G.rc := rfl
  simp only [wpOpsS, h0, hwant, if_true, hex]
  rcases hrec c₀ cs hmode with hr | ⟨hr, hx0, hu⟩
  ·simp only [hr]
   exact hrest _ rfl
  ·simp only [hr]
   subst hx0
   refine hrest _ ?_
   rw [hu, ← hmode]
 ·cases h
theorem yvp (hE : EnvOk P E) {call : CallF} (hC : ycc P E call) {n : Nat} {f : FuncId} {G : GuardD} (hG : GuardOk P f G) {args : List V} {r : OpR} {c : Cx} {xs : List Value} (hR : Rel E c) (hargs : RVs c args xs)
  (h : yjd E call n G args c.h = some r) : Calls P f ⟨xs⟩ c.w (Ret E c r) := by
 obtain ⟨F, hf, hb, hnt, hres, hname⟩ := hG.fn.fn
 obtain ⟨F2, hf2, hb2, hnt2, hres2, hname2⟩ := hG.gn.fn
 unfold yjd at h
 split at h
 ·replace h := Option.bind_eq_some_iff.1 h; obtain ⟨⟨s1, h1⟩, hp, h⟩ := h
  obtain ⟨q, hq, h⟩ := Option.bind_eq_some_iff.1 h
  cases q with
  | pan v g => cases h
  | val v h2 =>
   simp only at h
   split at h
   ·rename_i g' caps hcl
    split at h
    ·rename_i hg'
     subst hg'
     obtain ⟨⟨e, s4, h4⟩, hr2, h⟩ := Option.bind_eq_some_iff.1 h
     refine calls_of_wp_defers hf hb ?_
     rw [hG.body]
     refine ypn hE hC G.first c _ _ s1 h1 hG.pl.1 hR (frame0 hnt hargs) hp ?_
     intro c1 a1 hx1 hR1 hh1 hF1
     subst hh1
     obtain ⟨hmg, mf, mcs, hmop⟩ := hG.mkf
     obtain ⟨hdg, ts, hdop⟩ := hG.df
     refine wp_seq (wp_region ?_)
     have hw0 : ∀ a : Act, Region.wanted G.mkf (yielded #[G.mkf, G.df] a.tmps) = true := fun a => by unfold Region.wanted; rw [hmg]
     have hw1 : ∀ a : Act, Region.wanted G.df (yielded #[G.mkf, G.df] a.tmps) = true := fun a => by unfold Region.wanted; rw [hdg]
     have e0 : (#[G.mkf, G.df] : Array Oper)[0]? = some G.mkf := rfl
     have e1 : (#[G.mkf, G.df] : Array Oper)[1]? = some G.df := rfl
     show wpOps P #[G.mkf, G.df] _ [0, 1] _ _
     simp only [wpOps, e0, e1, hw0, hw1, if_true]
     left
     refine yvn (fun n w' hrun => ?_) (ype (ro := none) (k := 0) hE hR1 hC hF1 hq ?_)
     ·unfold execOp at hrun; rw [hmop] at hrun; simp [Instr.makeFunc] at hrun; exact ⟨_, hrun.1.symm⟩
     intro c2 fx hx2 hR2 hh2 hfx
     subst hh2
     have hF2 := (hF1.mono hx2).put G.mkf.dst hfx
     have hget := hF2.get G.t
     rw [hcl] at hget
     obtain ⟨ys, hys0, hys⟩ := hget.fn_inv
     left
     unfold Oper.wp
     have hex : (execOp (a1.put G.mkf.dst fx).eval G.df).run P c2.w = .ok (.defer { target := .fn (.func G.g) ys, args := #[] }) c2.w := by
      unfold execOp; rw [hdop]
      have : (a1.put G.mkf.dst fx).eval (.tmp G.t) = .func (.func G.g) #[] ys := hys0
      simp [resolve, this, Deferred.ofValue]
     rw [hex]
     simp only [Oper.upon_defer]
     have hF3 : FrOk (ygq [{ target := .fn (.func G.g) ys, args := #[] }]) c2 (putT (putT s1 G.mkf.dst v) G.df.dst und) ({ (a1.put G.mkf.dst fx) with defers := { target := .fn (.func G.g) ys, args := #[] } :: (a1.put G.mkf.dst fx).defers }.put G.df.dst undef) := by
      refine FrOk.put (D := ygq [{ target := .fn (.func G.g) ys, args := #[] }]) (a := { (a1.put G.mkf.dst fx) with defers := { target := .fn (.func G.g) ys, args := #[] } :: (a1.put G.mkf.dst fx).defers }) ⟨hF2.s, ?_⟩ _ (RV.undM c2)
      show _ :: (a1.put G.mkf.dst fx).defers = _
      rw [hF2.d]
     refine (wpIn_wide (n := 0)).1 (ygt (ro := none) hE hC n G.rest _ c2 _ _ e s4 h4 (.inl hG.pl.2.1) hR2 hF3 hr2 ?_)
     intro c3 a3 hx3 hR3 hh3 hF3
     subst hh3
     have hinv : (invoke (.fn (.func G.g) ys) #[]).run P c3.w = .ok (.enter G.g ys) c3.w := by
      have hb' : F2.body ≠ none := by rw [hb2]; simp
      have hne : F2.name ≠ "runtime.NumGoroutine" := by simpa using hname2
      simp [invoke, callFunc, hf2, hne, hb']
     have hall := (hx1.trans (hx2.trans hx3))
     have fin : ∀ (u u' : FrameMode) (pv : V) (x : Value) (h5 : Heap) (v : V), u ≠ .run → settle u' = .returning → RV c3 pv x → (∀ (c₀ : Frame) (cs : List Frame), c₀.mode = u → (recoverD (c₀ :: cs) = some (x, { c₀ with mode := u' } :: cs)) ∨ (recoverD (c₀ :: cs) = none ∧ x = .nilIface ∧ u' = u)) →
       evDef E call n G caps pv c3.h = some h5 → ybp E G.d.res s4 h5 = some v → r = .val v h5 → Leaves P F a3.tmps (Ret E c r) a3.defers u c3.w := by
      intro u u' pv x h5 v hu hse hxv hrec hdf hres' hrv
      rw [hF3.d]
      refine leaves_cons hu hinv ?_
      have := yvo (P := P) hE hC hG (xs := ys.toList) hR3 (hys.mono hx3) hxv hrec hdf
      refine this.mono fun e' u1 w' ⟨hu1, v', c', he', hx', hR', hw', hh'⟩ => ?_
      subst he' hu1 hw' hh'
      show Leaves P F a3.tmps (Ret E c r) [] (settle u1) c'.w
      rw [hse]
      obtain ⟨y, k1, k2⟩ := ymh (P := P) (fn := F) hE hR' (hF3.mono hx') (by rw [hres]; exact hres')
      refine ⟨y, k1, c', hall.trans hx', hR', rfl, ?_⟩
      rw [hrv]
      exact ⟨rfl, y, rfl, k2⟩
     have plain : ∀ h5 v, evDef E call n G caps .nili c3.h = some h5 → ybp E G.d.res s4 h5 = some v → r = .val v h5 → Leaves P F a3.tmps (Ret E c r) a3.defers .returning c3.w := by
      intro h5 v k1 k2 k3
      refine fin .returning .returning .nili .nilIface h5 v (by simp) rfl (.g .nili) (fun c₀ cs hm => .inr ⟨by simp [recoverD, hm], rfl, rfl⟩) k1 k2 k3
     cases e with
     | normal =>
      obtain ⟨h5, k1, h⟩ := Option.bind_eq_some_iff.1 h
      obtain ⟨v5, k2, rfl⟩ := Option.map_eq_some_iff.1 h
      exact plain h5 v5 k1 k2 rfl
     | ret =>
      obtain ⟨h5, k1, h⟩ := Option.bind_eq_some_iff.1 h
      obtain ⟨v5, k2, rfl⟩ := Option.map_eq_some_iff.1 h
      exact plain h5 v5 k1 k2 rfl
     | exit i => cases h
     | panic pv =>
      obtain ⟨h5, k1, h⟩ := Option.bind_eq_some_iff.1 h
      obtain ⟨v5, k2, rfl⟩ := Option.map_eq_some_iff.1 h
      intro x hxv
      refine fin (.panicking [{ v := x, recovered := false }]) (.panicking [{ v := x, recovered := true }]) pv x h5 v5 (by simp) rfl hxv (fun c₀ cs hm => .inl (by simp [recoverD, hm])) k1 k2 rfl
    ·cases h
   ·cases h
 ·cases h
theorem ypo (hE : EnvOk P E) {call : CallF} (hC : ycc P E call) {n : Nat} {f : FuncId} {args : List V} {h : Heap} {r : OpR} (hr : evAny E call n f args h = some r) :
  (∃ F, P.funcs[f]? = some F ∧ F.body.isSome = true ∧ (F.name == "runtime.NumGoroutine") = false) ∧ ∀ (c : Cx) (xs : List Value), Rel E c → c.h = h → RVs c args xs → Calls P f ⟨xs⟩ c.w (Ret E c r) := by
 unfold evAny at hr
 split at hr
 ·rename_i d hd
  have hfn := hE.fn f d hd
  obtain ⟨F, hf, hb, hnt, hres, hname⟩ := hfn.fn
  refine ⟨⟨F, hf, by simp [hb], hname⟩, ?_⟩
  rintro c xs hR rfl hargs
  exact fn_sound hE hC hfn hR hargs hr
 ·obtain ⟨G, hG, hr⟩ := Option.bind_eq_some_iff.1 hr
  have hG := hE.gd f G hG
  obtain ⟨F, hf, hb, hnt, hres, hname⟩ := hG.fn.fn
  refine ⟨⟨F, hf, by simp [hb], hname⟩, ?_⟩
  rintro c xs hR rfl hargs
  exact yvp hE hC hG hR hargs hr
end
end Go.Sb
