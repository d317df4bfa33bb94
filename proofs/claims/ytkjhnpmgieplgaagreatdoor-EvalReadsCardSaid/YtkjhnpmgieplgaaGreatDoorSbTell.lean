/- What it takes to tell a function of the library's by a contract: worlds, tables, results. -/
import Derived.Test.YtkjhnpmgieplgaaGreatDoorSbLib
import Derived.Test.YtkjhnpmgieplgaaGreatDoorSbTop
import Derived.Below
import Derived.Lib.LaidTab
import Derived.LaidMore
set_option linter.unusedVariables false
set_option linter.unusedSimpArgs false
namespace Go.Sb
open Go.ChangeShapes Go.WideShapes Go.ChangeAt Go.WideMaps Go.WideElems Go.RowKit

theorem below_out {ro : Nat → Prop} {w w' : World} {v : V} {x : Value} (hb : Below w.heap.size w w') (hr : RG (fun r => ro r ∨ (w.heap.size ≤ r ∧ r < w'.heap.size)) w' v x) {e : Ending} (he : e = .returned x) :
    (w'.os = w.os ∧ w'.tape = w.tape ∧ w'.output = w.output) ∧ w.heap.size ≤ w'.heap.size ∧ (∀ r, r < w.heap.size → w'.heap[r]? = w.heap[r]?) ∧ ∃ x, e = .returned x ∧ RG (fun r => ro r ∨ (w.heap.size ≤ r ∧ r < w'.heap.size)) w' v x :=
  ⟨⟨hb.os, hb.tape, hb.output⟩, hb.size, hb.block, x, he, hr⟩

theorem rg_pair {ro : Nat → Prop} {w : World} {a b : V} {x y : Value} (h1 : RG ro w a x) (h2 : RG ro w b y) : RG ro w (.tup [a, b]) (.tuple #[x, y]) :=
  .tup _ _ rfl fun i v z hv hz => by
    match i with
    | 0 => cases hv; cases hz; exact h1
    | 1 => cases hv; cases hz; exact h2
    | i + 2 => simp at hv

theorem rg_err {ro : Nat → Prop} {w : World} (t : TypeId) (N : Nat) : RG ro w (.ifc t (.rop [])) (.iface t (.pointer (some ⟨N, 0, none⟩))) :=
  .ifc _ _ _ (.rop [] _ (fun _ => .nilIface) (fun j hj => absurd hj (Nat.not_lt_zero j)) (fun j v hv => by simp at hv) (fun h => absurd rfl h))

/-- What a table's row says. -/
theorem gl_cells {ro : Nat → Prop} {w : World} {g : Nat} {cs : List V} (h : GlOk ro w g cs) : ∃ C T fz, w.heap[g]? = some (.cells C T fz) ∧ C.size = cs.length ∧ ∀ (j : Nat) (v : V), cs[j]? = some v → ∃ x, C[j]? = some x ∧ w.cell? ⟨g, j, none⟩ = some x ∧ RG ro w v x := by
  obtain ⟨C, T, fz, b1, b2⟩ := h.blk
  obtain ⟨a, f, e, h1, h2, _⟩ := (RV.g (c := ⟨fun _ => (0, 0), [], ro, w, fun _ => False⟩) h.rg).rop_inv
  cases e
  refine ⟨C, T, fz, b1, b2, fun j v hv => ?_⟩
  have hj : j < cs.length := (List.getElem?_eq_some_iff.1 hv).1
  have h1j := h1 j hj
  have h2j := h2 j v hv
  rw [Addr.add_mk, Nat.zero_add] at h1j
  refine ⟨f j, ?_, h1j, h2j⟩
  unfold World.cell? at h1j
  simpa [b1] using h1j

theorem tabIs_of {P : Program} {ro : Nat → Prop} {w : World} {g : Nat} {name : String} {k : IntKind} {zs : List Int} (hg : P.globalNamed name = some g) (h : GlOk ro w g (zs.map (V.int k))) : Lib.TabIs P w name k zs := by
  obtain ⟨C, T, fz, b1, b2, b3⟩ := gl_cells h
  unfold Lib.TabIs World.var?
  rw [hg]
  simp only [Option.bind_some, b1]
  congr 1
  apply Array.ext'
  apply List.ext_getElem?
  intro j
  have hsz : C.size = zs.length := by rw [b2]; simp
  by_cases hj : j < zs.length
  · obtain ⟨x, q1, _, q2⟩ := b3 j (V.int k zs[j]) (by simp [hj])
    cases q2
    simp only [List.getElem?_map, List.getElem?_eq_getElem hj, Option.map_some]
    simpa using q1
  · rw [List.getElem?_eq_none (by simp; omega), List.getElem?_eq_none (by simp; omega)]

theorem err_var {P : Program} {ro : Nat → Prop} {w : World} {g : Nat} {t0 : TypeId} {n : String} (h : GlOk ro w g [.ifc t0 .junk]) (hg : P.globalNamed n = some g) : ∃ u p, w.var? P n = some #[.iface u p] := by
  obtain ⟨C, T, fz, b1, b2, b3⟩ := gl_cells h
  obtain ⟨x, q1, _, q2⟩ := b3 0 _ rfl
  obtain ⟨u, p, rfl⟩ : ∃ u p, x = .iface u p := by
    cases q2 with
    | ifc t v p hp => exact ⟨_, p, rfl⟩
    | ifo t u p => exact ⟨u, p, rfl⟩
  refine ⟨u, p, ?_⟩
  unfold World.var?
  rw [hg]
  simp only [Option.bind_some, b1]
  congr 1
  apply Array.ext'
  apply List.ext_getElem?
  intro j
  match j with
  | 0 => simpa using q1
  | j + 1 => rw [List.getElem?_eq_none (by simp [b2]), List.getElem?_eq_none (by simp)]

theorem ub_cell {ro : Nat → Prop} {w : World} {g : Nat} {k : IntKind} (h : GlOk ro w g [.ub k]) : ∃ n, w.cell? ⟨g, 0, none⟩ = some (.int k n) := by
  obtain ⟨C, T, fz, b1, b2, b3⟩ := gl_cells h
  obtain ⟨x, _, q1, q2⟩ := b3 0 _ rfl
  obtain ⟨n, rfl⟩ := q2.ub_inv
  exact ⟨n, q1⟩

/-- A new row of texts. -/
theorem rg_strs {ro : Nat → Prop} {w : World} (ss : List (List UInt8)) (T : TypeId) (fz : Nat × Nat) :
    RG (fun r => ro r ∨ (w.heap.size ≤ r ∧ r < (w.alloc (.cells (ss.map fun l => Value.string ⟨l.toArray⟩).toArray T fz)).heap.size)) (w.alloc (.cells (ss.map fun l => Value.string ⟨l.toArray⟩).toArray T fz)) (.lst 1 (ss.map V.str)) (.slice (some ⟨w.heap.size, 0, none⟩) ss.length ss.length) := by
  have := RG.lst (ro := fun r => ro r ∨ (w.heap.size ≤ r ∧ r < (w.alloc (.cells (ss.map fun l => Value.string ⟨l.toArray⟩).toArray T fz)).heap.size)) (w := w.alloc (.cells (ss.map fun l => Value.string ⟨l.toArray⟩).toArray T fz)) (ss.map V.str) ⟨w.heap.size, 0, none⟩ ss.length 1
    (fun i _ => .string ⟨⟨ss.getD i []⟩⟩) (fun i v hv => ?_) (fun i j hi hj => ?_) (fun i j v u hv hu => ?_) (fun _ => ?_) ?_ (fun i v hv => ?_)
  · simpa using this
  · rw [List.getElem?_map] at hv
    obtain ⟨s, _, rfl⟩ := Option.map_eq_some_iff.1 hv
    rfl
  · have hj0 : j = 0 := by omega
    subst hj0
    have hi' : i < ss.length := by simpa using hi
    rw [Addr.add_mk]
    show World.cell? ⟨w.heap.push _, w.tape, w.drawn, w.os, w.output⟩ _ = _
    simp [World.cell?, hi']
  · rw [List.getElem?_map] at hv
    obtain ⟨s, hs, rfl⟩ := Option.map_eq_some_iff.1 hv
    match j with
    | 0 =>
      simp only [V.cells, List.getElem?_cons_zero, Option.some.injEq] at hu
      subst hu
      rw [List.getD_eq_getElem?_getD, hs]
      exact .str s
    | j + 1 => simp [V.cells] at hu
  · refine .inr ⟨Nat.le_refl _, ?_⟩
    show w.heap.size < (w.heap.push _).size
    simp
  · simp
  · rw [List.getElem?_map] at hv
    obtain ⟨s, _, rfl⟩ := Option.map_eq_some_iff.1 hv
    rfl
end Go.Sb
