/- Operations: values put together, places, cuts. -/
import Derived.Test.YtnefminojpandaaDoorSbOps
set_option linter.unusedVariables false
set_option linter.unusedSimpArgs false
namespace Go.Sb
section
variable {P : Program} {E : Env} {c : Cx}

theorem RVs.splice {cs vs : List V} {C xs : Array Value} (h : RVs c cs C.toList) (hv : RVs c vs xs.toList) (o : Nat) (hl : o + vs.length ≤ cs.length) :
    RVs c (splice cs o vs) (xs.zipIdx.foldl (fun cs (x, j) => cs.setIfInBounds (o + j) x) C).toList := by
  have key : ∀ (l : List Value) (k : Nat) (D : Array Value), o + k + l.length ≤ D.size →
      ((l.zipIdx k).foldl (fun cs (x, j) => cs.setIfInBounds (o + j) x) D).toList = D.toList.take (o + k) ++ l ++ D.toList.drop (o + k + l.length) := by
    intro l
    induction l with
    | nil => intro k D _; simp
    | cons y l ih =>
      intro k D hD
      simp at hD
      simp only [List.zipIdx_cons, List.foldl_cons]
      rw [ih (k + 1) _ (by simp; omega)]
      apply List.ext_getElem?
      intro j
      have e1 : (D.setIfInBounds (o + k) y).toList = D.toList.set (o + k) y := by simp [Array.toList_setIfInBounds]
      rw [e1]
      by_cases h1 : j < o + k
      · rw [List.append_assoc, List.getElem?_append_left (by simp; omega), List.getElem?_take, if_pos (by omega), List.getElem?_set_ne (by omega)]
        rw [List.append_assoc, List.getElem?_append_left (by simp; omega), List.getElem?_take, if_pos h1]
      · by_cases h2 : j = o + k
        · subst h2
          rw [List.append_assoc, List.getElem?_append_left (by simp; omega), List.getElem?_take, if_pos (by omega), List.getElem?_set_self (by simp; omega)]
          rw [List.append_assoc, List.getElem?_append_right (by simp; omega)]
          have : o + k - (List.take (o + k) D.toList).length = 0 := by simp; omega
          rw [this]; simp
        · by_cases h3 : j < o + k + 1 + l.length
          · rw [List.append_assoc, List.getElem?_append_right (by simp; omega), List.getElem?_append_left (by simp; omega)]
            rw [List.append_assoc, List.getElem?_append_right (by simp; omega), List.getElem?_append_left (by simp; omega)]
            simp only [List.length_take, List.length_set, Array.length_toList]
            rw [show j - min (o + k) D.size = (j - min (o + (k + 1)) D.size) + 1 by omega]; simp
          · rw [List.getElem?_append_right (by simp; omega), List.getElem?_append_right (by simp; omega), List.getElem?_drop, List.getElem?_drop]
            rw [List.getElem?_set_ne (by simp; omega)]
            congr 1; simp; omega
  have hx : xs.zipIdx.foldl (fun cs (x, j) => cs.setIfInBounds (o + j) x) C = (xs.toList.zipIdx 0).foldl (fun cs (x, j) => cs.setIfInBounds (o + j) x) C := by
    rw [← Array.foldl_toList]; simp [Array.toList_zipIdx]
  rw [hx, key xs.toList 0 C (by rw [← hv.1]; have := h.1; simp at this; omega)]
  have := (h.take o).append hv |>.append (h.drop (o + vs.length))
  simpa [Sb.splice, hv.1] using this

theorem fill_spec {placeV : Nat → Option (Nat × Nat)} {place : Nat → Option (Nat × Nat)} (hp : ∀ i p, placeV i = some p → place i = some p) : ∀ (ps : List (Nat × V)) (qs : List (Nat × Value)) (cs cs' : List V) (C : Array Value),
    ps.length = qs.length → (∀ (i : Nat) (p : Nat × V) (q : Nat × Value), ps[i]? = some p → qs[i]? = some q → p.1 = q.1 ∧ RV c p.2 q.2) →
    RVs c cs C.toList → fillV placeV cs ps = some cs' → ∃ C', Instr.fill place C qs = some C' ∧ RVs c cs' C'.toList
  | [], [], cs, cs', C, _, _, h, hf => by simp [fillV] at hf; subst hf; exact ⟨C, rfl, h⟩
  | [], _ :: _, _, _, _, hl, _, _, _ => by simp at hl
  | _ :: _, [], _, _, _, hl, _, _, _ => by simp at hl
  | (i, v) :: ps, (k, x) :: qs, cs, cs', C, hl, hr, h, hf => by
    obtain ⟨e1, e3⟩ := hr 0 _ _ rfl rfl
    simp only at e1 e3; subst e1
    simp only [fillV] at hf
    obtain ⟨p, hpl, hf⟩ := Option.bind_eq_some_iff.1 hf
    split at hf
    · rename_i hc
      have hcs := e3.cells hc.2.2
      have hsz : x.cells.size = v.cells.length := by have := hcs.1; simpa using this.symm
      have hC : C.size = cs.length := by have := h.1; simpa using this.symm
      simp only [Instr.fill, hp i p hpl]
      rw [if_neg (by simp; omega)]
      exact fill_spec hp ps qs _ cs' _ (by simpa using hl) (fun j p q a b => hr (j + 1) p q (by simpa using a) (by simpa using b)) (h.splice hcs p.1 hc.2.1) hf
    · cases hf

theorem struct_field {t : TypeId} {d : TyD} (hE : EnvOk P E) (hd : E.ty t = some d) {l : List (TypeId × Nat)} (hu : d.u = .struct l) : ∃ fs : Array Field, P.underlying t = some (.struct fs) ∧ fs.toList.map (fun f => (f.type, f.offset)) = l := by
  obtain ⟨u, h1, h2⟩ := (hE.ty t d hd).und
  rw [hu] at h2
  obtain ⟨fs, rfl, h3⟩ := of_struct h2
  exact ⟨fs, h1, h3⟩

theorem field_get {fs : Array Field} {l : List (TypeId × Nat)} (h : fs.toList.map (fun f => (f.type, f.offset)) = l) {i : Nat} {g : TypeId × Nat} (hg : l[i]? = some g) : ∃ f, fs[i]? = some f ∧ f.type = g.1 ∧ f.offset = g.2 := by
  subst h
  rw [List.getElem?_map] at hg
  obtain ⟨f, hf, rfl⟩ := Option.map_eq_some_iff.1 hg
  exact ⟨f, by simpa using hf, rfl, rfl⟩

theorem mapM_places {w : World} (hE : EnvOk P E) (fs : List Field) : (∀ f ∈ fs, ∃ d, E.ty f.type = some d) → (fs.mapM (fun f => do pure (f.offset, ← sizeOf f.type) : Field → Sem (Nat × Nat))).run P w = .ok (fs.map fun f => (f.offset, P.cellsOf f.type)) w := by
  induction fs with
  | nil => intro _; simp
  | cons f fs ih =>
    intro h
    obtain ⟨d, hd⟩ := h f (by simp)
    have hT := hE.ty _ d hd
    have e : P.cellsOf f.type = d.size := by obtain ⟨i, a, b, _⟩ := hT.info; simp [Program.cellsOf, a, b]
    simp only [List.mapM_cons, Sem.run_bind, hT.run_size, Result.andThen_ok, Sem.run_pure, ih (fun g hg => h g (by simp [hg])), e, List.map_cons]

/-- The parts of a literal. -/
def PartsOk (c : Cx) (ps : List (Nat × V)) (qs : List (Nat × Value)) : Prop :=
  ps.length = qs.length ∧ ∀ (i : Nat) (p : Nat × V) (q : Nat × Value), ps[i]? = some p → qs[i]? = some q → p.1 = q.1 ∧ RV c p.2 q.2

theorem mapM_array {w : World} (fs : Array Field) (g : Field → Sem (Nat × Nat)) (l : List (Nat × Nat)) (h : (fs.toList.mapM g).run P w = .ok l w) : (fs.mapM g).run P w = .ok l.toArray w := by
  rw [Array.mapM_eq_mapM_toList]
  simp [h]

theorem build_does (hE : EnvOk P E) (hR : Rel E c) {t : TypeId} {ps : List (Nat × V)} {qs : Array (Nat × Value)} {v : V} (hp : PartsOk c ps qs.toList) (h : evBuild E t ps = some v) : Does P E c (Instr.build t qs) v c.h := by
  replace h := Option.bind_eq_some_iff.1 h; obtain ⟨d, hd, h⟩ := h
  have hT := hE.ty t d hd
  have hz : RVs c d.zero d.zeroV.cells.toList := by rw [hT.zero_cells]; exact zeros_rv hT.zo
  cases hu : d.u <;> rw [hu] at h <;> simp only at h
  case struct l =>
    obtain ⟨fs, h1, h2⟩ := struct_field hE hd hu
    split at h
    · cases h
    · rename_i hall
      obtain ⟨cs, hf, rfl⟩ := Option.map_eq_some_iff.1 h
      have hall' : ∀ f ∈ fs.toList, ∃ d, E.ty f.type = some d := fun f hf => by
        have : l.all (fun f => (E.ty f.1).isSome) = true := by
          cases hq : l.all (fun f => (E.ty f.1).isSome) with
          | true => rfl
          | false => exact absurd hq hall
        have := List.all_eq_true.1 this (f.type, f.offset) (by rw [← h2]; exact List.mem_map.2 ⟨f, hf, rfl⟩)
        exact Option.isSome_iff_exists.1 this
      have hm := mapM_array fs _ _ (mapM_places (w := c.w) hE fs.toList hall')
      obtain ⟨C', k1, k2⟩ := fill_spec (c := c) (place := fun i => (fs.toList.map fun f => (f.offset, P.cellsOf f.type)).toArray[i]?) (fun i p hi => by
        obtain ⟨g, hg, hi⟩ := Option.bind_eq_some_iff.1 hi
        obtain ⟨y, hy, rfl⟩ := Option.map_eq_some_iff.1 hi
        obtain ⟨f, hf, e1, e2⟩ := field_get h2 hg
        have hf' : fs.toList[i]? = some f := by simpa using hf
        obtain ⟨j, a, b, _⟩ := (hE.ty _ y hy).info
        simp [hf, e1, e2, Program.cellsOf, a, b]) ps qs.toList d.zero cs d.zeroV.cells hp.1 hp.2 hz hf
      refine Does.same hR (x := .agg C') ?_ (by have := RV.agg_mk k2; simpa using this)
      simp only [Instr.build, Sem.run_bind, hT.run_zero, Result.andThen_ok, run_underlying h1, hm]
      simp only [k1, Sem.run_pure]
  case array n e =>
    obtain ⟨u, h1, h2⟩ := hT.und
    rw [hu] at h2; have := of_array h2; subst this
    replace h := Option.bind_eq_some_iff.1 h; obtain ⟨y, hy, h⟩ := h
    obtain ⟨cs, hf, rfl⟩ := Option.map_eq_some_iff.1 h
    have hTe := hE.ty e y hy
    obtain ⟨C', k1, k2⟩ := fill_spec (c := c) (place := fun i => some (i * y.size, y.size)) (fun i p hi => hi) ps qs.toList d.zero cs d.zeroV.cells hp.1 hp.2 hz hf
    refine Does.same hR (x := .agg C') ?_ (by have := RV.agg_mk k2; simpa using this)
    simp only [Instr.build, Sem.run_bind, hT.run_zero, Result.andThen_ok, run_underlying h1, hTe.run_size]
    simp only [k1, Sem.run_pure]
  all_goals cases h

theorem repeatL_len (zs : List V) : ∀ n, (repeatL zs n).length = n * zs.length
  | 0 => by simp [repeatL]
  | n + 1 => by simp [repeatL, repeatL_len zs n, Nat.succ_mul]; omega

theorem repeatL_cell {zs : List V} (h : zs.all zeroOk = true) : ∀ n, (repeatL zs n).all V.isCell = true
  | 0 => rfl
  | n + 1 => by simp only [repeatL, List.all_append, zeroOk_cell h, repeatL_cell h n, Bool.and_self]

theorem repeatL_get (zs : List V) (h0 : 0 < zs.length) : ∀ (n j : Nat), j < n * zs.length → (repeatL zs n)[j]? = zs[j % zs.length]?
  | 0, j, h => by simp at h
  | n + 1, j, h => by
    simp only [repeatL]
    by_cases hj : j < zs.length
    · rw [List.getElem?_append_left hj, Nat.mod_eq_of_lt hj]
    · rw [List.getElem?_append_right (by omega), repeatL_get zs h0 n _ (by rw [Nat.succ_mul] at h; omega)]
      congr 1
      rw [← Nat.sub_add_cancel (show zs.length ≤ j by omega)]; simp

theorem zeros_row {zs : List V} (hz : zs.all zeroOk = true) (h0 : 0 < zs.length) (n m : Nat) (hm : m = n * zs.length) (Z : Array Value) (hZ : Z = (zs.map zeroX).toArray) :
    RVs c (repeatL zs n) ((Array.range m).map fun q => Z[q % Z.size]!).toList := by
  subst hm; subst hZ
  refine ⟨by simp [repeatL_len], fun i v x hv hx => ?_⟩
  have hi : i < n * zs.length := by have := (List.getElem?_eq_some_iff.1 hv).1; rwa [repeatL_len] at this
  rw [repeatL_get zs h0 n i hi] at hv
  have hx' : ((zs.map zeroX).toArray)[i % zs.length]? = some x := by
    have hlt : i % zs.length < (zs.map zeroX).toArray.size := by simpa using Nat.mod_lt i h0
    have : x = ((zs.map zeroX).toArray)[i % (zs.map zeroX).toArray.size]! := by
      simp only [Array.toList_map, List.getElem?_map] at hx
      have hr : (Array.range (n * zs.length)).toList[i]? = some i := by simp [Array.toList_range, hi]
      rw [hr] at hx
      simpa using hx.symm
    rw [this]
    have e : (zs.map zeroX).toArray.size = zs.length := by simp
    rw [e, Array.getElem?_eq_getElem hlt]
    exact congrArg some (getElem!_pos ((zs.map zeroX).toArray) (i % zs.length) hlt).symm
  have : (zs.map zeroX)[i % zs.length]? = some x := by simpa using hx'
  exact (zeros_rv (c := c) hz).2 _ v x hv this

theorem buildSlice_does (hE : EnvOk P E) (hR : Rel E c) {t : TypeId} {len : Nat} {ps : List (Nat × V)} {qs : Array (Nat × Value)} {v : V} {h' : Heap} (hp : PartsOk c ps qs.toList) (h : evBuildSlice E t len ps c.h = some (v, h')) :
    Does P E c (Instr.buildSlice t len qs) v h' := by
  replace h := Option.bind_eq_some_iff.1 h; obtain ⟨d, hd, h⟩ := h
  have hT := hE.ty t d hd
  cases hu : d.u <;> rw [hu] at h <;> simp only at h
  case slice e =>
    obtain ⟨u, h1, h2⟩ := hT.und
    rw [hu] at h2; have := of_slice h2; subst this
    obtain ⟨y, hy, h5⟩ := Option.bind_eq_some_iff.1 h
    clear h
    have hTe := hE.ty e y hy
    split at h5
    · cases h5
    · rename_i hc
      simp only [not_or, Nat.not_lt, Decidable.not_not, gt_iff_lt] at hc
      obtain ⟨hc1, hc2, hc3⟩ := hc
      split at h5
      · rename_i hl
        subst hl
        split at h5
        · rename_i hemp
          cases h5
          have hq : qs.toList = [] := by
            have := hp.1
            have e0 : ps = [] := by simpa using hemp
            rw [e0] at this; simpa using this.symm
          obtain ⟨k1, k2⟩ := hR.grow { c.w with heap := c.w.heap.push (.cells #[] e (0, 0)) } (fun r hr => by simp only; rw [Array.getElem?_push, if_neg (by omega)]) (by simp)
          refine ⟨.slice (some ⟨c.w.heap.size, 0, none⟩) 0 0, _, ?_, k1, k2, rfl, .g (.emp _)⟩
          simp [Instr.buildSlice, run_underlying h1, hTe.run_size, hq, Instr.fill, newRow]
          have e0 : (Array.map (fun (_ : Nat) => (default : Value)) (Array.range 0)) = #[] := by apply Array.eq_empty_of_size_eq_zero; simp
          rw [e0]
        · cases h5
      · rename_i hl
        obtain ⟨cs, hf, h6⟩ := Option.bind_eq_some_iff.1 h5
        clear h5
        split at h6
        · rename_i hone
          cases h6
          have hzl : 0 < y.zero.length := by omega
          have hz0 := zeros_row (c := c) hTe.zo hzl len (len * y.size) (by rw [hc2]) y.zeroV.cells hTe.zero_cells
          obtain ⟨C', k1, k2⟩ := fill_spec (c := c) (place := fun i => some (i * y.size, y.size)) (fun i p hi => hi) ps qs.toList _ cs _ hp.1 hp.2 hz0 hf
          have hlen : C'.size = len * y.size := by
            have := k2.1
            have hfl : ∀ (ps : List (Nat × V)) (cs cs' : List V), fillV (fun i => some (i * y.size, y.size)) cs ps = some cs' → cs'.length = cs.length := by
              intro ps
              induction ps with
              | nil => intro cs cs' h; simp [fillV] at h; rw [h]
              | cons p ps ih =>
                intro cs cs' h
                obtain ⟨i, v⟩ := p
                simp only [fillV, Option.bind_some] at h
                split at h
                · rename_i hq; rw [ih _ _ h, splice_length _ _ _ (by omega)]; omega
                · cases h
            have e := hfl ps _ cs hf
            rw [repeatL_len, hc2] at e
            simp at this; omega
          have hcl : cs.length = len * y.size := by have := k2.1; simp at this; omega
          obtain ⟨m1, m2⟩ := pushC_cells hR e cs C' 0 0 (by omega) k2.toArray (Or.inr (Nat.le_refl _)) hone
          refine ⟨.slice (some ⟨c.w.heap.size, 0, none⟩) len len, _, ?_, m1, m2, rfl, ?_⟩
          · simp only [Instr.buildSlice, Sem.run_bind, run_underlying h1, Result.andThen_ok, hTe.run_size]
            rw [if_neg (by omega), if_neg (by have := Nat.mul_pos (Nat.pos_of_ne_zero hl) (Nat.pos_of_ne_zero hc3); omega)]
            simp only [Sem.run_bind, hTe.run_zero, Result.andThen_ok, Sem.run_pure, k1, newRow, run_newObj]
            rfl
          · have := push_sl (c := c) e cs C' (0, 0) y.size len len len (Nat.le_refl _) (by omega)
            rw [hcl] at this; exact this
        · cases h6
  all_goals cases h

theorem makeSlice_does (hE : EnvOk P E) (hR : Rel E c) {t : TypeId} {l k v : V} {xl xk : Value} {h' : Heap} (hl : RV c l xl) (hk : RV c k xk) (h : evMakeSlice E t l k c.h = some (v, h')) : Does P E c (Instr.makeSlice t xl xk) v h' := by
  replace h := Option.bind_eq_some_iff.1 h; obtain ⟨d, hd, h⟩ := h
  have hT := hE.ty t d hd
  cases hu : d.u <;> rw [hu] at h
  case slice e =>
    obtain ⟨u, h1, h2⟩ := hT.und
    rw [hu] at h2; have := of_slice h2; subst this
    cases l <;> cases k
    case int.int k1 l k2 m =>
      obtain ⟨y, hy, h5⟩ := Option.bind_eq_some_iff.1 h
      clear h
      have hTe := hE.ty e y hy
      obtain ⟨i, i1, i2, i3, i4⟩ := hTe.info
      rw [hl.int_inv, hk.int_inv]
      split at h5
      · rename_i hc
        obtain ⟨c1, c2, c3, c4, c5, c6⟩ := hc
        have w1 : IntKind.i64.wrap l = l := by simp only [IntKind.wrap, IntKind.signed, IntKind.bits]; simp; omega
        have w2 : IntKind.i64.wrap m = m := by simp only [IntKind.wrap, IntKind.signed, IntKind.bits]; simp; omega
        have hrun : ∀ (X : Sem Value), (Instr.makeSlice t (.int k1 l) (.int k2 m)).run P c.w = (do
            let n := m.toNat * (← sizeOf e)
            let zero ← if n = 0 then pure #[] else do pure (← zeroValue e).cells
            let a ← newRow e ((Array.range n).map (zero[· % zero.size]!))
            pure (.slice (some a) l.toNat m.toNat) : Sem Value).run P c.w := by
          intro _
          simp only [Instr.makeSlice, Sem.run_bind, run_underlying h1, Result.andThen_ok, asInt, asIntOf, Sem.run_pure, run_typeInfo i1, w1, w2, i3]
          rw [if_neg (by simp; omega)]
          simp
        rw [show (Does P E c (Instr.makeSlice t (.int k1 l) (.int k2 m)) v h') = (∃ x c', (Instr.makeSlice t (.int k1 l) (.int k2 m)).run P c.w = .ok x c'.w ∧ Ext c c' ∧ Rel E c' ∧ c'.h = h' ∧ RV c' v x) from rfl, hrun (pure (.bool true))]
        split at h5
        · rename_i hm
          cases h5
          obtain ⟨k1, k2⟩ := hR.grow { c.w with heap := c.w.heap.push (.cells #[] e (0, 0)) } (fun r hr => by simp only; rw [Array.getElem?_push, if_neg (by omega)]) (by simp)
          refine ⟨.slice (some ⟨c.w.heap.size, 0, none⟩) 0 0, _, ?_, k1, k2, rfl, .g (.emp _)⟩
          have : l = 0 := by omega
          subst this; subst hm
          have e0 : (Array.map (fun (_ : Nat) => (default : Value)) (Array.range 0)) = #[] := by apply Array.eq_empty_of_size_eq_zero; simp
          simp [hTe.run_size, newRow]
          rw [e0]
        · rename_i hm
          cases h5
          have hz0 := zeros_row (c := c) hTe.zo (by omega) m.toNat (m.toNat * y.size) (by rw [c5]) y.zeroV.cells hTe.zero_cells
          have hcl : (repeatL y.zero m.toNat).length = m.toNat * y.size := by rw [repeatL_len, c5]
          have hsz := hz0.1
          obtain ⟨m1, m2⟩ := pushC_cells hR e (repeatL y.zero m.toNat) _ 0 0 (by simpa using Nat.le_of_eq hsz) hz0.toArray (Or.inr (Nat.le_refl _)) (repeatL_cell hTe.zo _)
          refine ⟨.slice (some ⟨c.w.heap.size, 0, none⟩) l.toNat m.toNat, _, ?_, m1, m2, rfl, ?_⟩
          · simp only [Sem.run_bind, hTe.run_size, Result.andThen_ok]
            rw [if_neg (by have := Nat.mul_pos (show 0 < m.toNat by omega) c6; omega)]
            simp only [Sem.run_bind, hTe.run_zero, Result.andThen_ok, Sem.run_pure, newRow, run_newObj]
            rfl
          · have := push_sl (c := c) e (repeatL y.zero m.toNat) ((Array.range (m.toNat * y.size)).map (y.zeroV.cells[· % y.zeroV.cells.size]!)) (0, 0) y.size l.toNat m.toNat m.toNat (Nat.le_refl _) (by simp)
            rw [hcl] at this; exact this
      · cases h5
    all_goals cases h
  all_goals (cases h)

end
end Go.Sb
