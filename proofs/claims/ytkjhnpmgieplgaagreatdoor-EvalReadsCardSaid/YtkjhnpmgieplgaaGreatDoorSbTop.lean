/- From the evaluator's answer to the statement on a law's row. -/
import Derived.Test.YtkjhnpmgieplgaaGreatDoorSbSeat
import Derived.Test.YtkjhnpmgieplgaaGreatDoorSbRun
import Derived.ProofKit
import Derived.OpenShut
import Derived.Stop.Joined
set_option linter.unusedVariables false
set_option linter.unusedSimpArgs false
namespace Go.Sb
open Go.ChangeShapes Go.WideShapes Go.ChangeAt Go.RowKit

def ShpA (E : Env) (n : Nat) (t : TypeId) (u : V) : Prop := Shp E n t u.cells ∧ ∀ d, E.ty t = some d → (d.agg = true → ∃ cs, u = .agg cs) ∧ (d.agg = false → u.cells = [u])

def ShpArgs (E : Env) (n : Nat) : List TypeId → List V → Prop
  | [], [] => True
  | t :: ts, u :: us => ShpA E n t u ∧ ShpArgs E n ts us
  | _, _ => False

section
variable {P : Program} {E : Env} {H : Type} {enc : TypeId × Value → H} {W : World}

theorem arg_open (hE : EnvOk P E) {n : Nat} {t : TypeId} {v : Value} {d : DataW H} {ps : List MemPlace} {r : Reach} {b base : Nat} {sp : Nat → Bool} {held : Bool} (hval : Value.okWide P W r b t v) (hd : DataW.Trod enc P W base sp held t v d ps) (hs : shpB E n t = true) :
    ∃ u, RG (fun r => r < W.heap.size) W u v ∧ ShpA E n t u := by
  obtain ⟨fuel, hf⟩ := hd
  obtain ⟨vs, h1, h2⟩ := open_shp hE n t fuel _ _ hs hf
  have one : v.cells = #[v] → (∀ d, E.ty t = some d → d.agg = false) → ∃ u, RG (fun r => r < W.heap.size) W u v ∧ ShpA E n t u := fun hc ha => by
    rw [hc] at h1
    have hl := h1.1
    match vs, hl with
    | [u], _ =>
      have hcell := h2.cell
      have hu : u.cells = [u] := by cases u <;> simp [V.isCell] at hcell <;> rfl
      exact ⟨u, h1.2 0 u v rfl rfl, by rw [hu]; exact h2, fun d hd => ⟨fun h => (by rw [ha d hd] at h; cases h), fun _ => hu⟩⟩
  cases n with
  | zero => simp [shpB] at hs
  | succ n =>
    unfold shpB at hs
    split at hs
    · cases hs
    · rename_i dt hdt
      obtain ⟨ut, u1, u2⟩ := (hE.ty t dt hdt).und
      have noagg : dt.agg = false → ∀ d, E.ty t = some d → d.agg = false := fun h d hd => by rw [hdt] at hd; cases hd; exact h
      split at hs
      · rename_i k e; rw [e] at u2; have := of_int u2; subst this
        obtain ⟨z, rfl⟩ := okWide_int u1 hval
        exact one rfl (noagg (by simp [TyD.agg, e]))
      · rename_i e; rw [e] at u2; have := of_bool u2; subst this
        obtain ⟨z, rfl⟩ := okWide_bool u1 hval
        exact one rfl (noagg (by simp [TyD.agg, e]))
      · rename_i e; rw [e] at u2; have := of_str u2; subst this
        obtain ⟨z, rfl⟩ := okWide_string u1 hval
        exact one rfl (noagg (by simp [TyD.agg, e]))
      · rename_i el e; rw [e] at u2; have := of_slice u2; subst this
        obtain ⟨a, l, c, rfl⟩ := okWide_slice u1 hval
        exact one rfl (noagg (by simp [TyD.agg, e]))
      · rename_i fs e; rw [e] at u2
        obtain ⟨gs, rfl, _⟩ := of_struct u2
        obtain ⟨cs, rfl, _⟩ := okWide_struct u1 hval
        exact ⟨.agg vs, .agg vs cs (by simpa [Value.cells] using h1.1) fun i v x hv hx => h1.2 i v x hv (by simpa [Value.cells] using hx), h2, fun d hd => ⟨fun _ => ⟨vs, rfl⟩, fun h => by rw [hdt] at hd; cases hd; simp [TyD.agg, e] at h⟩⟩
      · cases hs

theorem args_open (hE : EnvOk P E) {n : Nat} {r : Reach} {b base : Nat} {sp : Nat → Bool} {held : Bool} : ∀ {ts : List TypeId} {vs : List Value} {ds : List (DataW H)} {ps : List MemPlace}, DataW.TrodAll enc P W base sp held ts vs ds ps →
    (∀ (j : Nat) t v, ts[j]? = some t → vs[j]? = some v → Value.okWide P W r b t v) → ts.all (shpB E n) = true →
    ∃ us, us.length = vs.length ∧ (∀ (i : Nat) (u : V) (x : Value), us[i]? = some u → vs[i]? = some x → RG (fun r => r < W.heap.size) W u x) ∧ ShpArgs E n ts us
  | [], [], [], _, _, _, _ => ⟨[], rfl, fun i u x h => by simp at h, trivial⟩
  | t :: ts, v :: vs, d :: ds, ps, h, hv, hs => by
    obtain ⟨p, q, h1, h2, _⟩ := h
    simp only [List.all_cons, Bool.and_eq_true] at hs
    obtain ⟨u, u1, u2⟩ := arg_open hE (hv 0 t v rfl rfl) h1 hs.1
    obtain ⟨us, l1, l2, l3⟩ := args_open hE h2 (fun j t' v' ht hv' => hv (j + 1) t' v' (by simpa using ht) (by simpa using hv')) hs.2
    refine ⟨u :: us, by simp [l1], fun i w x hw hx => ?_, u2, l3⟩
    cases i with
    | zero => simp at hw hx; subst hw; subst hx; exact u1
    | succ i => simp at hw hx; exact l2 i w x hw hx
  | [], [], _ :: _, _, h, _, _ => by simp [DataW.TrodAll] at h
  | [], _ :: _, _, _, h, _, _ => by simp [DataW.TrodAll] at h
  | _ :: _, [], _, _, h, _, _ => by simp [DataW.TrodAll] at h
  | _ :: _, _ :: _, [], _, h, _, _ => by simp [DataW.TrodAll] at h

theorem trodAll_stays (hl : laidOutB P = true) {W' : World} (hb : Below W.heap.size W W') : ∀ {ts : List TypeId} {vs : List Value} {ds : List (DataW H)} {ps : List MemPlace}, DataW.TrodAll enc P W 0 (fun _ => true) true ts vs ds ps → (∀ x ∈ ps, x.block < W.heap.size) →
    ts.all (fun t => P.readableRec t && decide (t < P.types.size)) = true → DataW.TrodAll enc P W' 0 (fun b => decide (b < W.heap.size)) true ts vs ds ps
  | [], [], [], _, h, _, _ => h
  | t :: ts, v :: vs, d :: ds, ps, h, hlt, hs => by
    obtain ⟨p, q, h1, h2, rfl⟩ := h
    simp only [List.all_cons, Bool.and_eq_true, decide_eq_true_eq] at hs
    exact ⟨p, q, Below.trod hl hs.1.1 hs.1.2 h1 hb (fun x hx => hlt x (by simp [hx])), trodAll_stays hl hb h2 (fun x hx => hlt x (by simp [hx])) hs.2, rfl⟩
  | [], [], _ :: _, _, h, _, _ => by simp [DataW.TrodAll] at h
  | [], _ :: _, _, _, h, _, _ => by simp [DataW.TrodAll] at h
  | _ :: _, [], _, _, h, _, _ => by simp [DataW.TrodAll] at h
  | _ :: _, _ :: _, [], _, h, _, _ => by simp [DataW.TrodAll] at h

/-- THE LAW'S CONTRACT: the evaluator answers true at whatever arguments of the types: so the call returns true, and the arguments read as they did. -/
theorem law_calls (hE : EnvOk P E) {f : FuncId} {fn : Func} {s : ChangeSpec} {n : Nat} {rt : TypeId} (hl : laidOutB P = true) (hts : fn.params.toList.all (fun t => P.readableRec t && decide (t < P.types.size)) = true) (hsh : fn.params.toList.all (shpB E n) = true)
    (hrt : fn.resultTypes = #[rt]) (hrb : P.underlying rt = some .bool) (hvars : s.vars = []) (hspec : ∀ (ds : List (DataW H)), ds.length = fn.params.toList.length → (s.fn H ds).results = [.lit (.bool true)] ∧ (s.fn H ds).args = ds ∧ (s.fn H ds).vars = [])
    (hhas : ∀ us, ShpArgs E n fn.params.toList us → Has E .own f us [] (.val (.bool true) [])) {base : Nat} {args : Array Value} {ds gs : List (DataW H)} {before : List MemPlace}
    (hgl : ∀ g cs, E.gl g = some cs → GlOk (fun r => r < W.heap.size) W g cs)
    (hval : ∀ (j : Nat) t v, fn.params[j]? = some t → args[j]? = some v → Value.okWide P W .any base t v) (hW : DataW.Whole enc P fn.params.toList s.vars false W args.toList ds gs before) :
    Calls P f args W fun e W' => ∃ v, e = .returned v ∧ s.post enc P fn false true false false W args v W' := by
  have hW' := hW
  obtain ⟨p, q, hA, hV, rfl, hfz, hnd⟩ := hW
  rw [hvars] at hV
  obtain ⟨rfl, rfl⟩ := trodVars_none hV
  obtain ⟨us, l1, l2, l3⟩ := args_open (E := E) (n := n) hE hA (fun j t v ht hv => hval j t v (by simpa using ht) (by simpa using hv)) hsh
  obtain ⟨N, hN⟩ := hhas us l3
  have hdl : ∀ {ts : List TypeId} {vs : List Value} {ds : List (DataW H)} {ps : List MemPlace}, DataW.TrodAll enc P W 0 (fun _ => true) true ts vs ds ps → ds.length = ts.length := by
    intro ts
    induction ts with
    | nil => intro vs ds ps h; cases vs <;> cases ds <;> simp [DataW.TrodAll] at h <;> rfl
    | cons t ts ih =>
      intro vs ds ps h
      cases vs with
      | nil => simp [DataW.TrodAll] at h
      | cons v vs =>
        cases ds with
        | nil => simp [DataW.TrodAll] at h
        | cons d ds => obtain ⟨_, _, _, h2, _⟩ := h; simp [ih h2]
  have e : args = ⟨args.toList⟩ := rfl
  rw [e]
  refine (has_calls hE (hN N (Nat.le_refl _)) rfl (fun r h => h) hgl l1 l2).mono fun en W' hr => ?_
  obtain ⟨⟨w1, w2, w3⟩, w4, w5, x, rfl, w6⟩ := hr
  cases w6
  refine ⟨_, rfl, ?_⟩
  have hB : Below W.heap.size W W' := ⟨w1, w2, w3, w4, w5⟩
  obtain ⟨s1, s2, s3⟩ := hspec ds (hdl hA)
  rw [List.append_nil] at hW'
  refine ⟨ds, [], p, [], p, [], hW', ?_, ?_, ?_, hB.frame _, fun h => by cases h⟩
  · rw [List.append_nil, s1, hrt]
    exact trodAll_mk1 (shut_bool hrb true)
  · rw [List.append_nil, s2]
    exact trodAll_stays hl hB hA (fun y hy => by simpa using hW'.lt y hy) hts
  · rw [List.append_nil, s3, hvars]
    exact rfl

/-- A laid table of numbers, read. -/
theorem laid_ints {base : Nat} {sp : Nat → Bool} {held : Bool} {t e : TypeId} {k : IntKind} {n fuel : Nat} {cs : List Value} {ns : List Int} {ps : List MemPlace} (ht : P.underlying t = some (.array n e)) (he : P.underlying e = some (.int k)) (h1 : P.cellsOf e = 1)
    (h : DataW.trod enc P W base sp held fuel t cs = some (.agg (ns.map fun n => .lit (.int k n)), ps)) : ∀ (j : Nat) (m : Int), ns[j]? = some m → cs[j]? = some (.int k m) := by
  obtain ⟨xs, m, rfl, hx, hlen, hn, hel⟩ := DataW.trod_array ht h
  simp only [Prod.mk.injEq, DataW.agg.injEq] at hx
  intro j z hj
  have hjl : j < ns.length := (List.getElem?_eq_some_iff.1 hj).1
  have hxl : xs.length = ns.length := by have := congrArg List.length hx.1; simpa using this.symm
  have hj' := hel j (by omega)
  rw [h1, Nat.mul_one] at hj'
  rw [List.getElem?_eq_getElem (by omega : j < xs.length)] at hj'
  obtain ⟨c, c1, c2, _⟩ := DataW.trod_int he hj'
  have hz : c = z := by
    have := congrArg (fun l => l[j]?) hx.1
    simp only [List.getElem?_map, hj, List.getElem?_eq_getElem (by omega : j < xs.length), Option.map_some, Option.some.injEq] at this
    rw [c2] at this
    simpa using this.symm
  subst hz
  have : ((cs.drop j).take 1)[0]? = some (.int k c) := by rw [c1]; rfl
  simpa using this

end

theorem laid_mem {P : Program} {W : World} {n : String} {d : DataW Unit} : ∀ {l : List (String × DataW Unit)} {ps : List MemPlace}, DataW.LaidVars P W l ps → (n, d) ∈ l →
    ∃ g t cs fuel p, P.globalNamed n = some g ∧ (P.globals[g]?).map (·.type) = some t ∧ W.var? P n = some cs ∧ DataW.trod (fun _ => ()) P W 0 (fun _ => true) false fuel t cs.toList = some (d, p)
  | [], _, _, h => by simp at h
  | (m, e) :: r, ps, h, hm => by
    obtain ⟨g, t, cs, fuel, p, q, h1, h2, h3, h4, h5, _⟩ := h
    rcases List.mem_cons.1 hm with e | hm
    · cases e; exact ⟨g, t, cs, fuel, p, h1, h2, h3, h4⟩
    · exact laid_mem h5 hm

theorem laid_rop {P : Program} {W : World} {n : String} {g : Nat} {t e : TypeId} {k : IntKind} {len : Nat} {ns : List Int} {l : List (String × DataW Unit)} {ps : List MemPlace} (h : DataW.LaidVars P W l ps) (hm : (n, .agg (ns.map fun n => .lit (.int k n))) ∈ l)
    (hg : P.globalNamed n = some g) (ht : (P.globals[g]?).map (·.type) = some t) (hu : P.underlying t = some (.array len e)) (he : P.underlying e = some (.int k)) (h1 : P.cellsOf e = 1) (hsz : P.cellsOf t = len * P.cellsOf e) :
    GlOk (fun r => r < W.heap.size) W g (ns.map (V.int k)) := by
  obtain ⟨g', t', cs, fuel, p, k1, k2, k3, k4⟩ := laid_mem h hm
  rw [hg] at k1; cases k1
  rw [ht] at k2; cases k2
  have hcell := laid_ints hu he h1 k4
  have at_ : ∀ (j : Nat) (m : Int), ns[j]? = some m → W.cell? ⟨g, j, none⟩ = some (.int k m) := fun j m hj => by
    rw [World.var?_cell hg k3 j]
    have := hcell j m hj
    simpa using this
  obtain ⟨C, T, fz, hb, hC⟩ : ∃ C T fz, W.heap[g]? = some (.cells C T fz) ∧ C = cs := by
    have k3' := k3
    simp only [World.var?, hg, Option.bind_some] at k3'
    split at k3'
    · rename_i C T fz hb; exact ⟨C, T, fz, hb, by simpa using k3'⟩
    · cases k3'
  have hlen : cs.size = ns.length := by
    obtain ⟨xs, _, _, hx, hl, hn, _⟩ := DataW.trod_array hu k4
    have h2 : P.cellsOf t = cs.toList.length := hl.symm
    simp only [Prod.mk.injEq, DataW.agg.injEq] at hx
    have hxl := congrArg List.length hx.1
    simp only [List.length_map] at hxl
    have h3 : P.cellsOf t = len * P.cellsOf e := hsz
    rw [h1, Nat.mul_one] at h3
    simp only [Array.length_toList] at h2
    omega
  refine ⟨.rop _ _ (fun j => .int k (ns.getD j 0)) (fun j hj => ?_) (fun j v hv => ?_) (fun hne => (Array.getElem?_eq_some_iff.1 hb).1), (Array.getElem?_eq_some_iff.1 hb).1, C, T, fz, hb, by rw [hC]; simpa using hlen⟩
  · have hj' : j < ns.length := by simpa using hj
    rw [Addr.add_mk, Nat.zero_add, at_ j _ (List.getElem?_eq_getElem hj')]
    simp [hj']
  · have hv' : (ns[j]?).map (V.int k) = some v := by simpa using hv
    obtain ⟨m, h1, rfl⟩ := Option.map_eq_some_iff.1 hv'
    have : ns.getD j 0 = m := by simp [h1]
    simp only [this]
    exact .int k m

end Go.Sb
