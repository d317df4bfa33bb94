/- From the evaluator's answer to the statement on a law's row. -/
import Derived.Test.YtekmafoicobphaaGreatDoorSbIdx
import Derived.Test.YtekmafoicobphaaGreatDoorSbRun
import Derived.ProofKit
import Derived.OpenShut
import Derived.Stop.Joined
import Derived.Test.YtekmafoicobphaaGreatDoorSbLib
import Derived.Below
import Derived.Lib.LaidTab
import Derived.LaidMore
import Derived.HandedShaped
import Derived.Shelf.Vars
set_option linter.unusedVariables false
set_option linter.unusedSimpArgs false
namespace Go.Sb
open Go.ChangeShapes Go.WideShapes Go.ChangeAt Go.RowKit
section
variable {P : Program} {E : Env} {H : Type} {enc : TypeId × Value → H} {W : World}
theorem yqg (hl : laidOutB P = true) {W' : World} (hb : Below W.heap.size W W') : ∀ {ts : List TypeId} {vs : List Value} {ds : List (DataW H)} {ps : List MemPlace}, DataW.TrodAll enc P W 0 (fun _ => true) true ts vs ds ps → (∀ x ∈ ps, x.block < W.heap.size) →
  ts.all (fun t => P.readableRec t && decide (t < P.types.size)) = true → DataW.TrodAll enc P W' 0 (fun b => decide (b < W.heap.size)) true ts vs ds ps
 | [], [], [], _, h, _, _ => h
 | t :: ts, v :: vs, d :: ds, ps, h, hlt, hs => by
  obtain ⟨p, q, h1, h2, rfl⟩ := h
  simp only [List.all_cons, Bool.and_eq_true, decide_eq_true_eq] at hs
  exact ⟨p, q, Below.trod hl hs.1.1 hs.1.2 h1 hb (fun x hx => hlt x (by simp [hx])), yqg hl hb h2 (fun x hx => hlt x (by simp [hx])) hs.2, rfl⟩
 | [], [], _ :: _, _, h, _, _ => by simp [DataW.TrodAll] at h
 | [], _ :: _, _, _, h, _, _ => by simp [DataW.TrodAll] at h
 | _ :: _, [], _, _, h, _, _ => by simp [DataW.TrodAll] at h
 | _ :: _, _ :: _, [], _, h, _, _ => by simp [DataW.TrodAll] at h
theorem yvu {base : Nat} {sp : Nat → Bool} {held : Bool} {t e : TypeId} {k : IntKind} {n fuel : Nat} {cs : List Value} {ns : List Int} {ps : List MemPlace} (ht : P.underlying t = some (.array n e)) (he : P.underlying e = some (.int k)) (h1 : P.cellsOf e = 1)
  (h : DataW.trod enc P W base sp held fuel t cs = some (.agg (ns.map fun n => .lit (.int k n)), ps)) : ∀ (j : Nat) (m : Int), ns[j]? = some m → cs[j]? = some (.int k m) := by
 obtain ⟨xs, m, rfl, hx, hlen, hn, hel⟩ := DataW.trod_array ht h
 simp only [Prod.mk.injEq, DataW.agg.injEq] at hx
 intro j z hj
 have hjl : j < ns.length := (List.getElem?_eq_some_iff.1 hj).1
 have hxl : xs.length = ns.length := by have := congrArg List.length hx.1; simpa using this.symm
 have hj' := hel j (by omega)
 rw [h1, Nat.mul_one] at hj'
 rw [List.getElem?_eq_getElem (by omega : j < xs.length)] at hj'
 obtain ⟨c, c1, c2, _⟩ := DataW.trod_int he hj'
 have hz : c = z := by
  have := congrArg (fun l => l[j]?) hx.1
  simp only [List.getElem?_map, hj, List.getElem?_eq_getElem (by omega : j < xs.length), Option.map_some, Option.some.injEq] at this
  rw [c2] at this
  simpa using this.symm
 subst hz
 have : ((cs.drop j).take 1)[0]? = some (.int k c) := by rw [c1]; rfl
 simpa using this
end
theorem yqh {P : Program} {W : World} {n : String} {d : DataW Unit} : ∀ {l : List (String × DataW Unit)} {ps : List MemPlace}, DataW.LaidVars P W l ps → (n, d) ∈ l →
  ∃ g t cs fuel p, P.globalNamed n = some g ∧ (P.globals[g]?).map (·.type) = some t ∧ W.var? P n = some cs ∧ DataW.trod (fun _ => ()) P W 0 (fun _ => true) false fuel t cs.toList = some (d, p)
 | [], _, _, h => by simp at h
 | (m, e) :: r, ps, h, hm => by
  obtain ⟨g, t, cs, fuel, p, q, h1, h2, h3, h4, h5, _⟩ := h
  rcases List.mem_cons.1 hm with e | hm
  ·cases e; exact ⟨g, t, cs, fuel, p, h1, h2, h3, h4⟩
  ·exact yqh h5 hm
theorem laid_rop {P : Program} {W : World} {n : String} {g : Nat} {t e : TypeId} {k : IntKind} {len : Nat} {ns : List Int} {l : List (String × DataW Unit)} {ps : List MemPlace} (h : DataW.LaidVars P W l ps) (hm : (n, .agg (ns.map fun n => .lit (.int k n))) ∈ l)
  (hg : P.globalNamed n = some g) (ht : (P.globals[g]?).map (·.type) = some t) (hu : P.underlying t = some (.array len e)) (he : P.underlying e = some (.int k)) (h1 : P.cellsOf e = 1) (hsz : P.cellsOf t = len * P.cellsOf e) :
  GlOk (fun r => r < W.heap.size) W g (ns.map (V.int k)) := by
 obtain ⟨g', t', cs, fuel, p, k1, k2, k3, k4⟩ := yqh h hm
 rw [hg] at k1; cases k1
 rw [ht] at k2; cases k2
 have hcell := yvu hu he h1 k4
 have at_ : ∀ (j : Nat) (m : Int), ns[j]? = some m → W.cell? ⟨g, j, none⟩ = some (.int k m) := fun j m hj => by
  rw [World.var?_cell hg k3 j]
  have := hcell j m hj
  simpa using this
 obtain ⟨C, T, fz, hb, hC⟩ : ∃ C T fz, W.heap[g]? = some (.cells C T fz) ∧ C = cs := by
  have k3' := k3
  simp only [World.var?, hg, Option.bind_some] at k3'
  split at k3'
  ·rename_i C T fz hb; exact ⟨C, T, fz, hb, by simpa using k3'⟩
  ·cases k3'
 have hlen : cs.size = ns.length := by
  obtain ⟨xs, _, _, hx, hl, hn, _⟩ := DataW.trod_array hu k4
  have h2 : P.cellsOf t = cs.toList.length := hl.symm
  simp only [Prod.mk.injEq, DataW.agg.injEq] at hx
  have hxl := congrArg List.length hx.1
  simp only [List.length_map] at hxl
  have h3 : P.cellsOf t = len * P.cellsOf e := hsz
  rw [h1, Nat.mul_one] at h3
  simp only [Array.length_toList] at h2
  omega
 refine ⟨.rop _ _ (fun j => .int k (ns.getD j 0)) (fun j hj => ?_) (fun j v hv => ?_) (fun hne => (Array.getElem?_eq_some_iff.1 hb).1), (Array.getElem?_eq_some_iff.1 hb).1, C, T, fz, hb, by rw [hC]; simpa using hlen⟩
 ·have hj' : j < ns.length := by simpa using hj
  rw [Addr.add_mk, Nat.zero_add, at_ j _ (List.getElem?_eq_getElem hj')]
  simp [hj']
 ·have hv' : (ns[j]?).map (V.int k) = some v := by simpa using hv
  obtain ⟨m, h1, rfl⟩ := Option.map_eq_some_iff.1 hv'
  have : ns.getD j 0 = m := by simp [h1]
  simp only [this]
  exact .int k m
end Go.Sb

/- What it takes to tell a function of the library's by a contract: worlds, tables, results. -/

namespace Go.Sb
open Go.ChangeShapes Go.WideShapes Go.ChangeAt Go.WideMaps Go.WideElems Go.RowKit
theorem yhy {ro : Nat → Prop} {w w' : World} {v : V} {x : Value} (hb : Below w.heap.size w w') (hr : RG (fun r => ro r ∨ (w.heap.size ≤ r ∧ r < w'.heap.size)) w' v x) {e : Ending} (he : e = .returned x) :
  (w'.os = w.os ∧ w'.tape = w.tape ∧ w'.output = w.output) ∧ w.heap.size ≤ w'.heap.size ∧ (∀ r, r < w.heap.size → w'.heap[r]? = w.heap[r]?) ∧ ∃ x, e = .returned x ∧ RG (fun r => ro r ∨ (w.heap.size ≤ r ∧ r < w'.heap.size)) w' v x :=
 ⟨⟨hb.os, hb.tape, hb.output⟩, hb.size, hb.block, x, he, hr⟩
theorem yqi {ro : Nat → Prop} {w : World} {g : Nat} {cs : List V} (h : GlOk ro w g cs) : ∃ C T fz, w.heap[g]? = some (.cells C T fz) ∧ C.size = cs.length ∧ ∀ (j : Nat) (v : V), cs[j]? = some v → ∃ x, C[j]? = some x ∧ w.cell? ⟨g, j, none⟩ = some x ∧ RG ro w v x := by
 obtain ⟨C, T, fz, b1, b2⟩ := h.blk
 obtain ⟨a, f, e, h1, h2, _⟩ := (RV.g (c := ⟨fun _ => (0, 0), [], ro, w, fun _ => False⟩) h.rg).rop_inv
 cases e
 refine ⟨C, T, fz, b1, b2, fun j v hv => ?_⟩
 have hj : j < cs.length := (List.getElem?_eq_some_iff.1 hv).1
 have h1j := h1 j hj
 have h2j := h2 j v hv
 rw [Addr.add_mk, Nat.zero_add] at h1j
 refine ⟨f j, ?_, h1j, h2j⟩
 unfold World.cell? at h1j
 simpa [b1] using h1j
theorem tabIs_of {P : Program} {ro : Nat → Prop} {w : World} {g : Nat} {name : String} {k : IntKind} {zs : List Int} (hg : P.globalNamed name = some g) (h : GlOk ro w g (zs.map (V.int k))) : Lib.TabIs P w name k zs := by
 obtain ⟨C, T, fz, b1, b2, b3⟩ := yqi h
 unfold Lib.TabIs World.var?
 rw [hg]
 simp only [Option.bind_some, b1]
 congr 1
 apply Array.ext'
 apply List.ext_getElem?
 intro j
 have hsz : C.size = zs.length := by rw [b2]; simp
 by_cases hj : j < zs.length
 ·obtain ⟨x, q1, _, q2⟩ := b3 j (V.int k zs[j]) (by simp [hj])
  cases q2
  simp only [List.getElem?_map, List.getElem?_eq_getElem hj, Option.map_some]
  simpa using q1
 ·rw [List.getElem?_eq_none (by simp; omega), List.getElem?_eq_none (by simp; omega)]
theorem ub_cell {ro : Nat → Prop} {w : World} {g : Nat} {k : IntKind} (h : GlOk ro w g [.ub k]) : ∃ n, w.cell? ⟨g, 0, none⟩ = some (.int k n) := by
 obtain ⟨C, T, fz, b1, b2, b3⟩ := yqi h
 obtain ⟨x, _, q1, q2⟩ := b3 0 _ rfl
 obtain ⟨n, rfl⟩ := q2.ub_inv
 exact ⟨n, q1⟩
theorem rg_strs {ro : Nat → Prop} {w : World} (ss : List (List UInt8)) (T : TypeId) (fz : Nat × Nat) :
  RG (fun r => ro r ∨ (w.heap.size ≤ r ∧ r < (w.alloc (.cells (ss.map fun l => Value.string ⟨l.toArray⟩).toArray T fz)).heap.size)) (w.alloc (.cells (ss.map fun l => Value.string ⟨l.toArray⟩).toArray T fz)) (.lst 1 (ss.map V.str)) (.slice (some ⟨w.heap.size, 0, none⟩) ss.length ss.length) := by
 have := RG.lst (ro := fun r => ro r ∨ (w.heap.size ≤ r ∧ r < (w.alloc (.cells (ss.map fun l => Value.string ⟨l.toArray⟩).toArray T fz)).heap.size)) (w := w.alloc (.cells (ss.map fun l => Value.string ⟨l.toArray⟩).toArray T fz)) (ss.map V.str) ⟨w.heap.size, 0, none⟩ ss.length 1
  (fun i _ => .string ⟨⟨ss.getD i []⟩⟩) (fun i v hv => ?_) (fun i j hi hj => ?_) (fun i j v u hv hu => ?_) (fun _ => ?_) ?_ (fun i v hv => ?_)
 ·simpa using this
 ·rw [List.getElem?_map] at hv
  obtain ⟨s, _, rfl⟩ := Option.map_eq_some_iff.1 hv
  rfl
 ·have hj0 : j = 0 := by omega
  subst hj0
  have hi' : i < ss.length := by simpa using hi
  rw [Addr.add_mk]
  show World.cell? ⟨w.heap.push _, w.tape, w.drawn, w.os, w.output⟩ _ = _
  simp [World.cell?, hi']
 ·rw [List.getElem?_map] at hv
  obtain ⟨s, hs, rfl⟩ := Option.map_eq_some_iff.1 hv
  match j with
  | 0 =>
   simp only [V.cells, List.getElem?_cons_zero, Option.some.injEq] at hu
   subst hu
   rw [List.getD_eq_getElem?_getD, hs]
   exact .str s
  | j + 1 => simp [V.cells] at hu
 ·refine .inr ⟨Nat.le_refl _, ?_⟩
  show w.heap.size < (w.heap.push _).size
  simp
 ·simp
 ·rw [List.getElem?_map] at hv
  obtain ⟨s, _, rfl⟩ := Option.map_eq_some_iff.1 hv
  rfl
end Go.Sb

/- A row's contract, with the world's shape at hand: a variable of the library's that no row lists holds some int. -/

namespace Go.Sb
open Go.ChangeShapes Go.WideShapes Go.ChangeAt Go.WideMaps Go.WideElems Go.RowKit
theorem ub_gl {P : Program} {W : World} {g : Nat} {t : TypeId} {zero : Array Value} {k : IntKind} (h : W.ShapedOpen P) (hg : g < P.globals.size)
  (h0 : ((begin P (fun _ _ => 0) default).world.heap[g]?).bind Obj.row? = some (zero, t)) (hz : zero.size = 1)
  (hb : P.buildable t = true) (hc : P.cellTypes P.depth t = some [t]) (hu : P.underlying t = some (.int k)) : GlOk (fun r => r < W.heap.size) W g [.ub k] := by
 obtain ⟨cs, hh, hs, _⟩ := h.1 g zero t hg h0
 obtain ⟨m, hm⟩ := Go.Proofs.cell_of_shapedOpen_int h hg h0 hz hb hc hu
 have hlt : g < W.heap.size := (Array.getElem?_eq_some_iff.1 hh).1
 refine ⟨.rop _ _ (fun _ => .int k m) (fun j hj => ?_) (fun j v hv => ?_) (fun _ => hlt), hlt, cs, t, _, hh, by rw [hs, hz]; rfl⟩
 ·have : j = 0 := by simp at hj; omega
  subst this; exact hm
 ·match j with
  | 0 => cases hv; exact .ub k m
  | j + 1 => simp at hv
end Go.Sb
