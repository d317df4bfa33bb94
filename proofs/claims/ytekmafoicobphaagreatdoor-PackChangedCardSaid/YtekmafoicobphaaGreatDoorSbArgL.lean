/- A row's arguments, read ars data, ars plain values: with the row's reach (each string at most L bytes). -/
import Derived.Test.YtekmafoicobphaaGreatDoorSbShaped
set_option linter.unusedVariables false
set_option linter.unusedSimpArgs false
namespace Go.Sb
def ShpL (L : Nat) (E : Env) : Nat → TypeId → List V → Prop
 | 0, _, _ => False
 | n + 1, t, vs => ∃ d, E.ty t = some d ∧ vs.length = d.size ∧ match d.u with
   | .int k => ∃ x, vs = [.int k x] ∧ (Lit.int k x).wf = true
   | .bool => ∃ b, vs = [.bool b]
   | .str => ∃ s, vs = [.str s] ∧ s.length ≤ L
   | .slice e => ∃ y, E.ty e = some y ∧ (vs = [.nils] ∨ ∃ es, vs = [.lst y.size es] ∧ (es.length ≤ maxLen ∧ es.length * y.bytes ≤ L) ∧ ∀ v ∈ es, ShpL L E n e v.cells ∧ ((y.agg = true → ∃ cs, v = .agg cs) ∧ (y.agg = false → v.isCell = true)))
   | .struct fs => ShpFs (ShpL L E n) fs vs
   | _ => False
theorem TyOk.bytesOf {P : Program} {t : TypeId} {d : TyD} (h : TyOk P t d) : P.bytesOf t = d.bytes := by
 have := h.s
 unfold Program.bytesOf
 cases hi : P.info? t with
 | none => rw [hi] at this; cases this
 | some i => rw [hi] at this; simp at this ⊢; exact this.2
section
variable {P : Program} {E : Env} {H : Type} {enc : TypeId × Value → H} {w : World} {base : Nat} {spare : Nat → Bool} {held : Bool}
theorem wAll {L : Nat} {e : TypeId} : ∀ {ds : List (DataW H)} {d : DataW H}, d ∈ ds → (DataW.weightsAll P e ds).all (· ≤ L) = true → (d.weights P e).all (· ≤ L) = true
 | [], _, h, _ => by cases h
 | a :: ds, d, h, hw => by
  simp only [DataW.weightsAll, List.all_append, Bool.and_eq_true] at hw
  rcases List.mem_cons.1 h with rfl | h
  ·exact hw.1
  ·exact wAll h hw.2
theorem wEach {L : Nat} : ∀ {ts : List TypeId} {ds : List (DataW H)} {i : Nat} {t : TypeId} {d : DataW H}, ts[i]? = some t → ds[i]? = some d → (DataW.weightsEach P ts ds).all (· ≤ L) = true → (d.weights P t).all (· ≤ L) = true
 | [], _, _, _, _, h, _, _ => by simp at h
 | _ :: _, [], _, _, _, _, h, _ => by simp at h
 | a :: ts, b :: ds, i, t, d, h1, h2, hw => by
  simp only [DataW.weightsEach, List.all_append, Bool.and_eq_true] at hw
  cases i with
  | zero => simp at h1 h2; subst h1; subst h2; exact hw.1
  | succ i => simp at h1 h2; exact wEach h1 h2 hw.2
theorem ShpL.cell {L : Nat} : ∀ {n : Nat} {t : TypeId} {vs : List V}, ShpL L E n t vs → vs.all V.isCell = true
 | 0, _, _, h => h.elim
 | n + 1, t, vs, h => by
  obtain ⟨d, _, _, h⟩ := h
  split at h
  ·obtain ⟨x, rfl, _⟩ := h; rfl
  ·obtain ⟨b, rfl⟩ := h; rfl
  ·obtain ⟨s, rfl, _⟩ := h; rfl
  ·obtain ⟨y, _, h⟩ := h
   rcases h with rfl | ⟨es, rfl, _⟩ <;> rfl
  ·rename_i fs _
   have : ∀ (fs : List (TypeId × Nat)) (vs : List V), ShpFs (ShpL L E n) fs vs → vs.all V.isCell = true := by
    intro fs
    induction fs with
    | nil => intro vs h; simp [ShpFs] at h; subst h; rfl
    | cons g gs ih =>
     intro vs h
     obtain ⟨a, b, rfl, h1, h2⟩ := h
     rw [List.all_append, h1.cell, ih b h2]; rfl
   exact this fs vs h
  ·exact h.elim
theorem ymm {L : Nat} (hE : EnvOk P E) : ∀ (n : Nat) (t : TypeId) (m : Nat) (cs : List Value) (x : DataW H × List MemPlace), shpB E n t = true → DataW.trod enc P w base spare held m t cs = some x → (x.1.weights P t).all (· ≤ L) = true → ∃ vs, RGs w vs cs ∧ ShpL L E n t vs
 | 0, _, _, _, _, h, _, _ => by simp [shpB] at h
 | n + 1, t, m, cs, x, h, hx, hw => by
  unfold shpB at h
  split at h
  ·cases h
  ·rename_i d hd
   obtain ⟨u, h1, h2⟩ := (hE.ty t d hd).und
   split at h
   ·rename_i k hu
    rw [hu] at h2; have := yfa h2; subst this
    obtain ⟨z, rfl, _, hwf⟩ := DataW.trod_int h1 hx
    exact ⟨[.int k z], .one (.int k z), d, hd, by simpa using (beq_iff_eq.1 h).symm, by rw [hu]; exact ⟨z, rfl, hwf⟩⟩
   ·rename_i hu
    rw [hu] at h2; have := yhp h2; subst this
    obtain ⟨z, rfl, _⟩ := DataW.trod_bool h1 hx
    exact ⟨[.bool z], .one (.bool z), d, hd, by simpa using (beq_iff_eq.1 h).symm, by rw [hu]; exact ⟨z, rfl⟩⟩
   ·rename_i hu
    rw [hu] at h2; have := yec h2; subst this
    obtain ⟨s, rfl, hx1, _⟩ := DataW.trod_string h1 hx
    have hs : s.data.toList.length ≤ L := by rw [hx1] at hw; simpa [DataW.weights] using hw
    exact ⟨[.str s.data.toList], .one (.str s.data.toList), d, hd, by simpa using (beq_iff_eq.1 h).symm, by rw [hu]; exact ⟨_, rfl, hs⟩⟩
   ·rename_i e hu
    rw [hu] at h2; have := ybj h2; subst this
    simp only [Bool.and_eq_true] at h
    obtain ⟨⟨ha, hb⟩, hc⟩ := h
    split at hc
    ·rename_i y hy
     have hy0 : 0 < y.size := by simpa using hc
     have hcs := (hE.ty e y hy).cellsOf
     rcases DataW.trod_slice h1 hx with ⟨rfl, _⟩ | ⟨a, len, cap, elems, rest, k, _, rfl, hx1, q1, q2, q3, q4, q5, _⟩
     ·exact ⟨[.nils], .one .nils, d, hd, by simpa using (beq_iff_eq.1 ha).symm, by rw [hu]; exact ⟨y, hy, .inl rfl⟩⟩
     ·rw [hcs] at q5
      have hwe : (DataW.weightsAll P e (elems.map (·.1))).all (· ≤ L) = true := by
       rw [hx1] at hw
       simp only [DataW.weights, h1, List.all_cons, List.all_append, Bool.and_eq_true] at hw
       exact hw.2.1
      have hlw : len * y.bytes ≤ L := by
       rw [hx1] at hw
       simp only [DataW.weights, h1, List.all_cons, Bool.and_eq_true, decide_eq_true_eq, List.length_map] at hw
       have hb := (hE.ty e y hy).bytesOf
       rw [hb, q4] at hw
       exact Nat.le_trans (Nat.mul_le_mul_right _ (Nat.le_add_right _ _)) hw.1
      have each : ∀ i, i < len → ∃ v : V, ShpL L E n e v.cells ∧ ((y.agg = true → ∃ cs, v = .agg cs) ∧ (y.agg = false → v.isCell = true)) ∧ v.cells.length = y.size ∧ (∀ j u, v.cells[j]? = some u → ∃ z, w.cell? (a.add (i * y.size + j)) = some z ∧ RG (fun r => r < w.heap.size) w u z) ∧ a.block < w.heap.size := by
       intro i hi
       have hb5 := q5 i hi
       rw [List.getElem?_eq_getElem (by omega)] at hb5
       obtain ⟨cs', c1, c2⟩ := Option.bind_eq_some_iff.1 hb5
       obtain ⟨vs, v1, v2⟩ := ymm hE n e k cs' _ hb c2 (wAll (List.mem_map_of_mem (f := fun x : DataW H × List MemPlace => x.1) (List.getElem_mem _)) hwe)
       obtain ⟨d', d1, d2, _⟩ : ∃ d', E.ty e = some d' ∧ vs.length = d'.size ∧ True := by
        cases n with
        | zero => exact v2.elim
        | succ n => obtain ⟨d', d1, d2, _⟩ := v2; exact ⟨d', d1, d2, trivial⟩
       rw [hy] at d1; cases d1
       have hcl := World.cells?_some c1
       have hblk := World.cells?_block c1 hy0
       rw [Addr.block_add] at hblk
       have cells : ∀ j u, vs[j]? = some u → ∃ z, w.cell? (a.add (i * y.size + j)) = some z ∧ RG (fun r => r < w.heap.size) w u z := by
        intro j u hj
        have hjl : j < vs.length := (List.getElem?_eq_some_iff.1 hj).1
        have hjc : j < cs'.length := by rw [← v1.1]; exact hjl
        refine ⟨cs'[j], ?_, v1.2 j u _ hj (List.getElem?_eq_getElem hjc)⟩
        have := hcl.2.2 j (by omega)
        rw [Addr.add_add] at this
        rw [this, List.getElem?_eq_getElem hjc]
       by_cases hag : y.agg = true
       ·exact ⟨.agg vs, v2, ⟨fun _ => ⟨vs, rfl⟩, fun w => absurd hag (by rw [w]; decide)⟩, d2, cells, hblk⟩
       ·have hlen1 : vs.length = 1 := by
         have hT := hE.ty e y hy
         rw [d2, ← hT.zs, hT.zl (by simpa using hag)]
        match vs, hlen1 with
        | [v0], _ =>
         have hcell := v2.cell
         have hv0 : v0.cells = [v0] := by cases v0 <;> simp [V.isCell] at hcell <;> rfl
         refine ⟨v0, by rw [hv0]; exact v2, ⟨fun h => absurd h hag, fun _ => by simpa using hcell⟩, by rw [hv0]; exact d2, by rw [hv0]; exact cells, hblk⟩
      obtain ⟨es, e1, e2⟩ := ypx len each
      refine ⟨[.lst y.size es], .one ?_, d, hd, by simpa using (beq_iff_eq.1 ha).symm, ?_⟩
      ·rw [← e1]
       refine .lst es a cap y.size (fun i j => (w.cell? (a.add (i * y.size + j))).getD .nilIface) (fun i v hv => (e2 i v hv).2.2.1) (fun i j hi hj => ?_) (fun i j v u hv hu => ?_) (fun hne => ?_) (by omega) (fun i v hv => (e2 i v hv).1.cell)
       ·have hq := e2 i es[i] (List.getElem?_eq_getElem hi)
        have hjl : j < es[i].cells.length := by rw [hq.2.2.1]; exact hj
        obtain ⟨z, z1, _⟩ := hq.2.2.2.1 j _ (List.getElem?_eq_getElem hjl)
        rw [z1]; rfl
       ·obtain ⟨z, z1, z2⟩ := (e2 i v hv).2.2.2.1 j u hu
        rw [z1]; exact z2
       ·cases es with
        | nil => exact absurd rfl hne
        | cons v es => exact (e2 0 v rfl).2.2.2.2
      ·rw [hu]
       refine ⟨y, hy, .inr ⟨es, rfl, ⟨by omega, by rw [e1]; exact hlw⟩, fun v hv => ?_⟩⟩
       obtain ⟨i, hi⟩ := List.mem_iff_getElem?.1 hv
       exact ⟨(e2 i v hi).1, (e2 i v hi).2.1⟩
    ·cases hc
   ·rename_i fs hu
    rw [hu] at h2
    obtain ⟨gs, rfl, g2⟩ := yji h2
    obtain ⟨xs, k, _, hx1, q1, q2, q3⟩ := DataW.trod_struct h1 hx
    have hwe : (DataW.weightsEach P (gs.toList.map (·.type)) (xs.map (·.1))).all (· ≤ L) = true := by
     rw [hx1] at hw
     simpa only [DataW.weights, h1] using hw
    have hcs := (hE.ty t d hd).cellsOf
    rw [hcs] at q1
    have key : ∀ (fl : List Field) (o : Nat), (∀ f ∈ fl, f ∈ gs.toList) → yhu E (shpB E n) o (fl.map fun f => (f.type, f.offset)) = some d.size → ∃ vs, RGs w vs (cs.drop o) ∧ ShpFs (ShpL L E n) (fl.map fun f => (f.type, f.offset)) vs := by
     intro fl
     induction fl with
     | nil =>
      intro o _ hc
      simp [yhu] at hc; subst hc
      refine ⟨[], ⟨by simp; omega, fun i v x hv => by simp at hv⟩, rfl⟩
     | cons f fl ih =>
      intro o hm hc
      simp only [List.map_cons, yhu] at hc
      obtain ⟨df, hdf, hc⟩ := Option.bind_eq_some_iff.1 hc
      split at hc
      ·rename_i hcc
       obtain ⟨c1, c2⟩ := hcc
       obtain ⟨vs, v1, v2⟩ := ih (o + df.size) (fun g hg => hm g (by simp [hg])) hc
       obtain ⟨i, hi⟩ := List.mem_iff_getElem?.1 (hm f (by simp))
       have hi' : gs[i]? = some f := by simpa using hi
       have hq3 := q3 i f hi'
       have hil : i < xs.length := by rw [q2]; exact (Array.getElem?_eq_some_iff.1 hi').1
       rw [List.getElem?_eq_getElem hil, (hE.ty _ df hdf).cellsOf, c1] at hq3
       obtain ⟨us, u1, u2⟩ := ymm hE n f.type k _ _ c2 hq3 (wEach (i := i) (by rw [List.getElem?_map, hi]; rfl) (by rw [List.getElem?_map, List.getElem?_eq_getElem hil]; rfl) hwe)
       refine ⟨us ++ vs, ?_, us, vs, rfl, u2, v2⟩
       have := u1.append v1
       rw [← List.drop_drop, List.take_append_drop] at this
       exact this
      ·cases hc
    obtain ⟨vs, v1, v2⟩ := key gs.toList 0 (fun f hf => hf) (by rw [g2]; exact beq_iff_eq.1 h)
    rw [List.drop_zero] at v1
    refine ⟨vs, v1, d, hd, by rw [v1.1]; exact q1, ?_⟩
    rw [hu, ← g2]; exact v2
   ·cases h
end
open Go.ChangeShapes Go.WideShapes Go.ChangeAt Go.RowKit Go.WideMaps Go.WideElems
def ShpAL (L : Nat) (E : Env) (n : Nat) (t : TypeId) (u : V) : Prop := ShpL L E n t u.cells ∧ ∀ d, E.ty t = some d → (d.agg = true → ∃ cs, u = .agg cs) ∧ (d.agg = false → u.cells = [u])
def yhz (L : Nat) (E : Env) (n : Nat) : List TypeId → List V → Prop
 | [], [] => True
 | t :: ts, u :: us => ShpAL L E n t u ∧ yhz L E n ts us
 | _, _ => False
section
variable {P : Program} {E : Env} {H : Type} {enc : TypeId × Value → H} {W : World}
theorem yvv {L : Nat} (hE : EnvOk P E) {n : Nat} {t : TypeId} {v : Value} {d : DataW H} {ps : List MemPlace} {r : Reach} {b base : Nat} {sp : Nat → Bool} {held : Bool} (hval : Value.okWide P W r b t v) (hd : DataW.Trod enc P W base sp held t v d ps) (hs : shpB E n t = true) (hw : (d.weights P t).all (· ≤ L) = true) :
  ∃ u, RG (fun r => r < W.heap.size) W u v ∧ ShpAL L E n t u := by
 obtain ⟨fuel, hf⟩ := hd
 obtain ⟨vs, h1, h2⟩ := ymm hE n t fuel _ _ hs hf hw
 have one : v.cells = #[v] → (∀ d, E.ty t = some d → d.agg = false) → ∃ u, RG (fun r => r < W.heap.size) W u v ∧ ShpAL L E n t u := fun hc ha => by
  rw [hc] at h1
  have hl := h1.1
  match vs, hl with
  | [u], _ =>
   have hcell := h2.cell
   have hu : u.cells = [u] := by cases u <;> simp [V.isCell] at hcell <;> rfl
   exact ⟨u, h1.2 0 u v rfl rfl, by rw [hu]; exact h2, fun d hd => ⟨fun h => (by rw [ha d hd] at h; cases h), fun _ => hu⟩⟩
 cases n with
 | zero => simp [shpB] at hs
 | succ n =>
  unfold shpB at hs
  split at hs
  ·cases hs
  ·rename_i dt hdt
   obtain ⟨ut, u1, u2⟩ := (hE.ty t dt hdt).und
   have noagg : dt.agg = false → ∀ d, E.ty t = some d → d.agg = false := fun h d hd => by rw [hdt] at hd; cases hd; exact h
   split at hs
   ·rename_i k e; rw [e] at u2; have := yfa u2; subst this
    obtain ⟨z, rfl⟩ := okWide_int u1 hval
    exact one rfl (noagg (by simp [TyD.agg, e]))
   ·rename_i e; rw [e] at u2; have := yhp u2; subst this
    obtain ⟨z, rfl⟩ := okWide_bool u1 hval
    exact one rfl (noagg (by simp [TyD.agg, e]))
   ·rename_i e; rw [e] at u2; have := yec u2; subst this
    obtain ⟨z, rfl⟩ := okWide_string u1 hval
    exact one rfl (noagg (by simp [TyD.agg, e]))
   ·rename_i el e; rw [e] at u2; have := ybj u2; subst this
    obtain ⟨a, l, c, rfl⟩ := okWide_slice u1 hval
    exact one rfl (noagg (by simp [TyD.agg, e]))
   ·rename_i fs e; rw [e] at u2
    obtain ⟨gs, rfl, _⟩ := yji u2
    obtain ⟨cs, rfl, _⟩ := okWide_struct u1 hval
    exact ⟨.agg vs, .agg vs cs (by simpa [Value.cells] using h1.1) fun i v x hv hx => h1.2 i v x hv (by simpa [Value.cells] using hx), h2, fun d hd => ⟨fun _ => ⟨vs, rfl⟩, fun h => by rw [hdt] at hd; cases hd; simp [TyD.agg, e] at h⟩⟩
   ·cases hs
theorem yqj {L : Nat} (hE : EnvOk P E) {n : Nat} {r : Reach} {b base : Nat} {sp : Nat → Bool} {held : Bool} : ∀ {ts : List TypeId} {vs : List Value} {ds : List (DataW H)} {ps : List MemPlace}, DataW.TrodAll enc P W base sp held ts vs ds ps →
  (∀ (j : Nat) t v, ts[j]? = some t → vs[j]? = some v → Value.okWide P W r b t v) → ts.all (shpB E n) = true → (DataW.weightsEach P ts ds).all (· ≤ L) = true →
  ∃ us, us.length = vs.length ∧ (∀ (i : Nat) (u : V) (x : Value), us[i]? = some u → vs[i]? = some x → RG (fun r => r < W.heap.size) W u x) ∧ yhz L E n ts us
 | [], [], [], _, _, _, _, _ => ⟨[], rfl, fun i u x h => by simp at h, trivial⟩
 | t :: ts, v :: vs, d :: ds, ps, h, hv, hs, hw => by
  obtain ⟨p, q, h1, h2, _⟩ := h
  simp only [List.all_cons, Bool.and_eq_true] at hs
  simp only [DataW.weightsEach, List.all_append, Bool.and_eq_true] at hw
  obtain ⟨u, u1, u2⟩ := yvv hE (hv 0 t v rfl rfl) h1 hs.1 hw.1
  obtain ⟨us, l1, l2, l3⟩ := yqj hE h2 (fun j t' v' ht hv' => hv (j + 1) t' v' (by simpa using ht) (by simpa using hv')) hs.2 hw.2
  refine ⟨u :: us, by simp [l1], fun i w x hw hx => ?_, u2, l3⟩
  cases i with
  | zero => simp at hw hx; subst hw; subst hx; exact u1
  | succ i => simp at hw hx; exact l2 i w x hw hx
 | [], [], _ :: _, _, h, _, _, _ => by simp [DataW.TrodAll] at h
 | [], _ :: _, _, _, h, _, _, _ => by simp [DataW.TrodAll] at h
 | _ :: _, [], _, _, h, _, _, _ => by simp [DataW.TrodAll] at h
 | _ :: _, _ :: _, [], _, h, _, _, _ => by simp [DataW.TrodAll] at h
theorem yvw {L : Nat} (hE : EnvOk P E) {f : FuncId} {fn : Func} {s : ChangeSpec} {n : Nat} {rt : TypeId} (hl : laidOutB P = true) (hts : fn.params.toList.all (fun t => P.readableRec t && decide (t < P.types.size)) = true) (hsh : fn.params.toList.all (shpB E n) = true)
  (hrt : fn.resultTypes = #[rt]) (hrb : P.underlying rt = some .bool) (hvars : s.vars = []) (hspec : ∀ (ds : List (DataW H)), ds.length = fn.params.toList.length → (s.fn H ds).results = [.lit (.bool true)] ∧ (s.fn H ds).args = ds ∧ (s.fn H ds).vars = [])
  (hhas : ∀ us, yhz L E n fn.params.toList us → Has E .own f us [] (.val (.bool true) [])) {base : Nat} {args : Array Value} {ds gs : List (DataW H)} {before : List MemPlace}
  (hgl : ∀ g cs, E.gl g = some cs → GlOk (fun r => r < W.heap.size) W g cs)
  (hval : ∀ (j : Nat) t v, fn.params[j]? = some t → args[j]? = some v → Value.okWide P W .any base t v) (hW : DataW.Whole enc P fn.params.toList s.vars false W args.toList ds gs before) (hwt : (DataW.weightsEach P fn.params.toList ds).all (· ≤ L) = true) :
  Calls P f args W fun e W' => ∃ v, e = .returned v ∧ s.post enc P fn false true false false W args v W' := by
 have hW' := hW
 obtain ⟨p, q, hA, hV, rfl, hfz, hnd⟩ := hW
 rw [hvars] at hV
 obtain ⟨rfl, rfl⟩ := trodVars_none hV
 obtain ⟨us, l1, l2, l3⟩ := yqj (L := L) (E := E) (n := n) hE hA (fun j t v ht hv => hval j t v (by simpa using ht) (by simpa using hv)) hsh hwt
 obtain ⟨N, hN⟩ := hhas us l3
 have hdl : ∀ {ts : List TypeId} {vs : List Value} {ds : List (DataW H)} {ps : List MemPlace}, DataW.TrodAll enc P W 0 (fun _ => true) true ts vs ds ps → ds.length = ts.length := by
  intro ts
  induction ts with
  | nil => intro vs ds ps h; cases vs <;> cases ds <;> simp [DataW.TrodAll] at h <;> rfl
  | cons t ts ih =>
   intro vs ds ps h
   cases vs with
   | nil => simp [DataW.TrodAll] at h
   | cons v vs =>
    cases ds with
    | nil => simp [DataW.TrodAll] at h
    | cons d ds => obtain ⟨_, _, _, h2, _⟩ := h; simp [ih h2]
 have e : args = ⟨args.toList⟩ := rfl
 rw [e]
 refine (ypv hE (hN N (Nat.le_refl _)) rfl (fun r h => h) hgl l1 l2).mono fun en W' hr => ?_
 obtain ⟨⟨w1, w2, w3⟩, w4, w5, x, rfl, w6⟩ := hr
 cases w6
 refine ⟨_, rfl, ?_⟩
 have hB : Below W.heap.size W W' := ⟨w1, w2, w3, w4, w5⟩
 obtain ⟨s1, s2, s3⟩ := hspec ds (hdl hA)
 rw [List.append_nil] at hW'
 refine ⟨ds, [], p, [], p, [], hW', ?_, ?_, ?_, hB.frame _, fun h => by cases h⟩
 ·rw [List.append_nil, s1, hrt]
  exact trodAll_mk1 (shut_bool hrb true)
 ·rw [List.append_nil, s2]
  exact yqg hl hB hA (fun y hy => by simpa using hW'.lt y hy) hts
 ·rw [List.append_nil, s3, hvars]
  exact rfl
theorem wFront {L : Nat} : ∀ {ts us : List TypeId} {ds gs : List (DataW H)}, ds.length = ts.length → (DataW.weightsEach P (ts ++ us) (ds ++ gs)).all (· ≤ L) = true → (DataW.weightsEach P ts ds).all (· ≤ L) = true
 | [], _, ds, _, _, _ => by simp [DataW.weightsEach]
 | t :: ts, us, [], gs, h, _ => by simp at h
 | t :: ts, us, d :: ds, gs, h, hw => by
  simp only [List.cons_append, DataW.weightsEach, List.all_append, Bool.and_eq_true] at hw ⊢
  exact ⟨hw.1, wFront (by simpa using h) hw.2⟩
theorem yqk {b : Nat} {sp : Nat → Bool} {held : Bool} : ∀ {ts : List TypeId} {vs : List Value} {ds : List (DataW H)} {ps : List MemPlace}, DataW.TrodAll enc P W b sp held ts vs ds ps → ds.length = ts.length
 | [], vs, ds, ps, h => by cases vs <;> cases ds <;> simp [DataW.TrodAll] at h <;> rfl
 | t :: ts, [], ds, ps, h => by simp [DataW.TrodAll] at h
 | t :: ts, v :: vs, [], ps, h => by simp [DataW.TrodAll] at h
 | t :: ts, v :: vs, d :: ds, ps, h => by obtain ⟨_, _, _, h2, _⟩ := h; simp [yqk h2]
theorem yvx (hE : EnvOk P E) {f : FuncId} {fn : Func} {s : ChangeSpec} {n : Nat} {rt : TypeId} (hl : laidOutB P = true) (hts : fn.params.toList.all (fun t => P.readableRec t && decide (t < P.types.size)) = true) (hsh : fn.params.toList.all (shpB E n) = true)
  (hrt : fn.resultTypes = #[rt]) (hrb : P.underlying rt = some .bool) (hvars : s.vars = []) (hspec : ∀ (ds : List (DataW H)), ds.length = fn.params.toList.length → (s.fn H ds).results = [.lit (.bool true)] ∧ (s.fn H ds).args = ds ∧ (s.fn H ds).vars = [])
  (hhas : ∀ us, yhz reachBytes E n fn.params.toList us → Has E .own f us [] (.val (.bool true) [])) {base : Nat} {args : Array Value} {ds gs : List (DataW H)} {before : List MemPlace}
  (hgl : ∀ g cs, E.gl g = some cs → GlOk (fun r => r < W.heap.size) W g cs)
  (hval : ∀ (j : Nat) t v, fn.params[j]? = some t → args[j]? = some v → Value.okWide P W .any base t v) (hW : DataW.Whole enc P fn.params.toList s.vars false W args.toList ds gs before) (hwt : (DataW.weightsEach P (fn.params.toList ++ s.plain.varTypes P) (ds ++ gs)).all (· ≤ reachBytes) = true) :
  Calls P f args W fun e W' => ∃ v, e = .returned v ∧ s.post enc P fn false true false false W args v W' := by
 have hlen : ds.length = fn.params.toList.length := by
  obtain ⟨p, q, hA, _⟩ := hW
  exact yqk hA
 exact yvw hE hl hts hsh hrt hrb hvars hspec hhas hgl hval hW (wFront hlen hwt)
end
theorem yvy {H : Type} {enc : TypeId × Value → H} {a : Assume} {C : Checked} {os : Os} {f : FuncId} {fn : Func} {s : ChangeSpec} {conds : List PathCond} {apart fresh handsOn again : Bool} {X : World → Array Value → Prop}
  (hX : ∀ (w w' : World) (args : Array Value), w.heap = w'.heap → X w args → X w' args)
  (own : ownKnob C.prog.godebug = none) (started : os.Started) (noInit : C.prog.inits.idxOf? f = none) (hfn : C.prog.funcs[f]? = some fn)
  (witness : ∃ (w : World) (tape : Tape) (i : Input), w.os = os ∧ (w.forCall tape i).Shaped C.prog ∧ i.vars = [] ∧ Input.okWide C.prog (w.forCall tape i) .any w.heap.size f i ∧
   ((s.pre enc C.prog fn conds apart (w.forCall tape i).memory i.args ∧ X (w.forCall tape i).memory i.args) ∧ sizedMet enc C.prog fn (OpenSpec.ofChange s) apart (w.forCall tape i).memory i.args) ∧ a.holds C.prog (lone (Frame.enter C.prog f i.args .normal) [] (w.forCall tape i)))
  (contract : ∀ (W : World) (base : Nat) (args : Array Value) (ds gs : List (DataW H)) (before : List MemPlace),
   (∀ (j : Nat) t v, fn.params[j]? = some t → args[j]? = some v → Value.okWide C.prog W .any base t v) →
   DataW.Whole enc C.prog fn.params.toList s.vars apart W args.toList ds gs before →
   (DataW.weightsEach C.prog (fn.params.toList ++ s.plain.varTypes C.prog) (ds ++ gs)).all (· ≤ reachBytes) = true →
   W.ShapedOpen C.prog → X W args →
   Calls C.prog f args W fun e W' => ∃ v, e = .returned v ∧ s.post enc C.prog fn apart fresh handsOn again W args v W') :
  ReturnsInHanded a C os f .any (fun w args => (s.pre enc C.prog fn conds apart w args ∧ X w args) ∧ sizedMet enc C.prog fn (OpenSpec.ofChange s) apart w args) (s.post enc C.prog fn apart fresh handsOn again) := by
 refine returnsInHanded_of_calls own started noInit witness ?_
 intro w tape i _ hsh _ hok hpre _
 obtain ⟨_, _, _, fn', hfn', _, _, _, _, hval⟩ := hok
 have e : fn' = fn := Option.some.inj (hfn'.symm.trans hfn)
 subst e
 obtain ⟨⟨⟨ds, gs, before, hw, _⟩, hx⟩, hz⟩ := hpre
 have hw' := DataW.Whole.of_heap (w' := w.forCall tape i) (by rfl) hw
 refine (contract (w.forCall tape i) w.heap.size i.args ds gs before hval hw' (hz.weights hw) hsh (hX _ _ _ (by rfl) hx)).mono fun e W' ⟨v, he, hp⟩ => ?_
 subst he
 exact ChangeSpec.post_blind hp
end Go.Sb
