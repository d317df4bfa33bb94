/- Operations: copy, clear, lengths, arithmetic, comparison, conversions, maps, assertions. -/
import Derived.Test.YtnefminojpandaaDoorSbOps5
import Derived.Laws.World
set_option linter.unusedVariables false
set_option linter.unusedSimpArgs false
namespace Go.Sb
section
variable {P : Program} {E : Env} {c : Cx}

theorem copy_does (hE : EnvOk P E) (hR : Rel E c) {dT xT ty : TypeId} {d u v : V} {xd xu : Value} {h' : Heap} (hd : RV c d xd) (hu : RV c u xu) (h : evCopy E dT d u c.h = some (v, h')) :
    Does P E c (Builtin.copy_ #[dT, xT] ty #[xd, xu]) v h' := by
  replace h := Option.bind_eq_some_iff.1 h; obtain ⟨dd, hdd, h⟩ := h
  obtain ⟨ut, h1, h2⟩ := (hE.ty dT dd hdd).und
  split at h
  · rename_i el hdu
    rw [hdu] at h2; have := of_slice h2; subst this
    replace h := Option.bind_eq_some_iff.1 h; obtain ⟨y, hy, h⟩ := h
    have hTe := hE.ty el y hy
    split at h
    · cases h
    · rename_i h0
      replace h := Option.bind_eq_some_iff.1 h; obtain ⟨new, hnew, h⟩ := h
      obtain ⟨n, cs⟩ := new
      obtain ⟨n1, n2, n3, ys, n4, n5⟩ := contents_spec (P := P) hR (Nat.pos_of_ne_zero h0) hnew hu
      have hyl : ys.length = n * y.size := by rw [← n4.1, n1]
      split at h
      · cases h
        rw [hd.nils_inv]
        refine Does.same hR (x := .int .i64 0) ?_ (.g (.int _ _))
        have := n5 c.w rfl 0 (Nat.zero_le _)
        simp [Builtin.copy_, run_underlying h1, n3, hTe.run_size, this, goInt]
      · cases h
        obtain ⟨a, e⟩ := hd.emp_inv
        rw [e]
        refine Does.same hR (x := .int .i64 0) ?_ (.g (.int _ _))
        have := n5 c.w rfl 0 (Nat.zero_le _)
        simp [Builtin.copy_, run_underlying h1, n3, hTe.run_size, this, goInt, storeCells]
      · rename_i b o e len cap sz
        split at h
        · cases h
        · rename_i he
          have he : e = y.size := Decidable.not_not.1 he
          subst he
          replace h := Option.bind_eq_some_iff.1 h; obtain ⟨old, hold, h⟩ := h
          split at h
          · rename_i hle
            cases h
            obtain ⟨hb, hbl⟩ := cellsAt_some hold
            have hhs : hsz c.h b = some sz := by rw [hsz_cells hb, hbl]
            obtain ⟨cap', C1, T1, fz1, rfl, p1, p2, p3⟩ := hd.sl_inv hhs
            have hmn : min n len * y.size ≤ len * y.size := Nat.mul_le_mul_right _ (Nat.min_le_right _ _)
            have hmn2 : min n len * y.size ≤ n * y.size := Nat.mul_le_mul_right _ (Nat.min_le_left _ _)
            have hv := n4.take (min n len * y.size)
            obtain ⟨c', k1, k2, k3, k4, k5, k6⟩ := storeCells_does (P := P) hR hold o hv (all_take n2 _) (by omega) (fun C T fz hC => by
              obtain ⟨C', lo, hi, g1, g2, _⟩ := hR.cells b _ _ hb
              rw [g1] at hC; cases hC; rw [List.length_take]; omega)
            refine ⟨.int .i64 (min n len : Nat), c', ?_, k2, k3, by rw [k4], .g (.int _ _)⟩
            have := n5 c.w rfl (min n len) (Nat.min_le_left _ _)
            simp [Builtin.copy_, run_underlying h1, n3, hTe.run_size, this, goInt, k1]
          · cases h
      · cases h
  · cases h

theorem zeroCells_list (z : List Value) (hz : 0 < z.length) (n : Nat) : ∀ (j : Nat) (y : Value), (Builtin.zeroCells z.toArray n).toList[j]? = some y → z[j % z.length]? = some y := by
  intro j y hj
  simp only [Builtin.zeroCells, Array.toList_map, Array.toList_range, List.getElem?_map] at hj
  obtain ⟨k, hk, rfl⟩ := Option.map_eq_some_iff.1 hj
  have hlt : j < n * z.length := by have := (List.getElem?_eq_some_iff.1 hk).1; simpa using this
  rw [List.getElem?_range (by simpa using hlt)] at hk; cases hk
  have hm : j % z.length < z.length := Nat.mod_lt _ hz
  rw [List.getElem?_eq_getElem hm]
  have e : z.toArray.size = z.length := by simp
  rw [e]
  exact congrArg some (getElem!_pos z.toArray (j % z.length) (by simpa using hm)).symm

theorem clear_does (hE : EnvOk P E) (hR : Rel E c) {xT ty : TypeId} {u v : V} {xu : Value} {h' : Heap} (hu : RV c u xu) (h : evClear E xT u c.h = some (v, h')) : Does P E c (Builtin.clear_ #[xT] ty #[xu]) v h' := by
  replace h := Option.bind_eq_some_iff.1 h; obtain ⟨dd, hdd, h⟩ := h
  obtain ⟨ut, h1, h2⟩ := (hE.ty xT dd hdd).und
  split at h
  · rename_i el hdu
    rw [hdu] at h2; have := of_slice h2; subst this
    replace h := Option.bind_eq_some_iff.1 h; obtain ⟨y, hy, h⟩ := h
    have hTe := hE.ty el y hy
    split at h
    · cases h
      rw [hu.nils_inv]
      exact Does.same hR (x := .tuple #[]) (by simp [Builtin.clear_, run_underlying h1]) (.g (.tup [] #[] rfl (fun i v x h => by simp at h)))
    · cases h
      obtain ⟨a, e⟩ := hu.emp_inv
      rw [e]
      exact Does.same hR (x := .tuple #[]) (by simp [Builtin.clear_, run_underlying h1]) (.g (.tup [] #[] rfl (fun i v x h => by simp at h)))
    · rename_i b o e len cap sz
      split at h
      · cases h
      · rename_i he
        simp only [not_or, Decidable.not_not] at he
        obtain ⟨he, hz, hz0'⟩ := he
        subst he
        replace h := Option.bind_eq_some_iff.1 h; obtain ⟨old, hold, h⟩ := h
        split at h
        · rename_i hle
          cases h
          obtain ⟨hb, hbl⟩ := cellsAt_some hold
          have hhs : hsz c.h b = some sz := by rw [hsz_cells hb, hbl]
          obtain ⟨cap', C1, T1, fz1, rfl, p1, p2, p3⟩ := hu.sl_inv hhs
          have hz0 := zeros_row (c := c) hTe.zo (by rw [hz]; exact Nat.pos_of_ne_zero hz0') len (len * y.zeroV.cells.size) (by rw [hTe.zero_cells]; simp) y.zeroV.cells hTe.zero_cells
          have hlen : (repeatL y.zero len).length = len * y.size := by rw [repeatL_len, hz]
          obtain ⟨c', k1, k2, k3, k4, k5, k6⟩ := storeCells_does (P := P) hR hold o hz0 (repeatL_cell hTe.zo len) (by omega) (fun C T fz hC => by
            obtain ⟨C', lo, hi, g1, g2, _⟩ := hR.cells b _ _ hb
            rw [g1] at hC; cases hC; rw [hlen]; omega)
          refine ⟨.tuple #[], c', ?_, k2, k3, by rw [k4], .g (.tup [] #[] rfl (fun i v x h => by simp at h))⟩
          by_cases hl0 : len = 0
          · subst hl0
            have e0 : ((Array.range (0 * y.zeroV.cells.size)).map fun q => y.zeroV.cells[q % y.zeroV.cells.size]!).toList = [] := by
              have := hz0.1; rw [hlen] at this; simp at this; simp
            rw [e0] at k1
            simp only [storeCells, Sem.run_pure] at k1
            have hw : c.w = c'.w := by injection k1
            rw [← hw]
            simp [Builtin.clear_, run_underlying h1]
          · simp only [Builtin.clear_, List.getElem?_toArray, List.getElem?_cons_zero, Sem.run_bind, run_underlying h1, Result.andThen_ok]
            have : ∃ m, len = m + 1 := ⟨len - 1, by omega⟩
            obtain ⟨m, rfl⟩ := this
            simp only [Sem.run_bind, hTe.run_zero, Result.andThen_ok, Builtin.zeroCells, k1, Sem.run_pure]
        · cases h
    · cases h
  · cases h

theorem len_does (hE : EnvOk P E) (hR : Rel E c) {xT ty : TypeId} {u v : V} {xu : Value} (hu : RV c u xu) (h : evLen E xT u c.h = some v) : Does P E c (Builtin.len_ #[xT] ty #[xu]) v c.h := by
  replace h := Option.bind_eq_some_iff.1 h; obtain ⟨dd, hdd, h⟩ := h
  obtain ⟨ut, h1, h2⟩ := (hE.ty xT dd hdd).und
  split at h
  · rename_i l hdu
    rw [hdu] at h2; have := of_str h2; subst this; cases h
    rw [hu.str_inv]
    exact Does.same hR (x := goInt l.length) (by simp only [Builtin.len_, List.getElem?_toArray, List.getElem?_cons_zero, Sem.run_bind, run_underlying h1, Result.andThen_ok, Sem.run_pure]; rfl) (.g (.int _ _))
  · rename_i hdu
    rw [hdu] at h2; have := of_array h2; subst this; cases h
    exact Does.same hR (by simp [Builtin.len_, run_underlying h1]; rfl) (.g (.int _ _))
  · rename_i hdu
    rw [hdu] at h2; have := of_slice h2; subst this; cases h
    cases hu with
    | g hu => cases hu
    | sl _ _ _ _ _ _ _ hsh _ _ _ =>
      obtain ⟨a, m, rfl, _⟩ := hsh
      exact Does.same hR (by simp [Builtin.len_, run_underlying h1]; rfl) (.g (.int _ _))
  · rename_i hdu
    rw [hdu] at h2; have := of_slice h2; subst this; cases h
    obtain ⟨a, cap, f, e, _⟩ := hu.lst_inv
    rw [e]
    exact Does.same hR (by simp [Builtin.len_, run_underlying h1]; rfl) (.g (.int _ _))
  · rename_i hdu
    rw [hdu] at h2; have := of_slice h2; subst this; cases h
    rw [hu.nils_inv]
    exact Does.same hR (by simp [Builtin.len_, run_underlying h1]; rfl) (.g (.int _ _))
  · rename_i hdu
    rw [hdu] at h2; have := of_slice h2; subst this; cases h
    obtain ⟨a, e⟩ := hu.emp_inv
    rw [e]
    exact Does.same hR (by simp [Builtin.len_, run_underlying h1]; rfl) (.g (.int _ _))
  · rename_i hdu
    rw [hdu] at h2; have := of_map h2; subst this; cases h
    rw [hu.nilm_inv]
    exact Does.same hR (by simp [Builtin.len_, run_underlying h1]; rfl) (.g (.int _ _))
  · rename_i b hdu
    rw [hdu] at h2; have := of_map h2; subst this
    split at h
    · rename_i es hb
      cases h
      rw [hu.mp_inv ⟨es, hb⟩]
      obtain ⟨xs, clock, g1, g2, _⟩ := hR.maps b es hb
      refine Does.same hR (x := .int .i64 es.length) ?_ (.g (.int _ _))
      simp [Builtin.len_, run_underlying h1, getObj, Sem.run, g1, goInt, g2]
    · cases h
  · cases h

theorem cap_does (hE : EnvOk P E) (hR : Rel E c) {xT ty : TypeId} {u v : V} {xu : Value} (hu : RV c u xu) (h : evCap E xT u = some v) : Does P E c (Builtin.cap_ #[xT] ty #[xu]) v c.h := by
  replace h := Option.bind_eq_some_iff.1 h; obtain ⟨dd, hdd, h⟩ := h
  obtain ⟨ut, h1, h2⟩ := (hE.ty xT dd hdd).und
  split at h
  · rename_i hdu
    rw [hdu] at h2; have := of_array h2; subst this; cases h
    exact Does.same hR (by simp [Builtin.cap_, run_underlying h1]; rfl) (.g (.int _ _))
  · rename_i hdu
    rw [hdu] at h2; have := of_slice h2; subst this; cases h
    rw [hu.nils_inv]
    exact Does.same hR (by simp [Builtin.cap_, run_underlying h1]; rfl) (.g (.int _ _))
  · rename_i hdu
    rw [hdu] at h2; have := of_slice h2; subst this; cases h
    obtain ⟨a, e⟩ := hu.emp_inv
    rw [e]
    exact Does.same hR (by simp [Builtin.cap_, run_underlying h1]; rfl) (.g (.int _ _))
  · cases h

theorem min_does (hR : Rel E c) : ∀ {us : List V} {xs : List Value} {u v : V} {x : Value}, RV c u x → RVs c us xs → foldV evMin2 u us = some v → ∃ y, (xs.foldlM Builtin.min2 x).run P c.w = .ok y c.w ∧ RV c v y
  | [], xs, u, v, x, hu, hus, h => by
    have := hus.nil_left; subst this
    simp [foldV] at h; subst h
    exact ⟨x, by simp, hu⟩
  | w :: us, xs, u, v, x, hu, hus, h => by
    obtain ⟨y, ys, rfl, hw, hus'⟩ := hus.cons_left
    simp only [foldV] at h
    replace h := Option.bind_eq_some_iff.1 h; obtain ⟨z, hz, h⟩ := h
    cases u <;> cases w <;> simp only [evMin2] at hz
    case int.int k a l b =>
      cases hz
      rw [hu.int_inv, hw.int_inv]
      obtain ⟨r, h1, h2⟩ := min_does hR (x := .int k (if b < a then b else a)) (.g (.int _ _)) hus' h
      exact ⟨r, by simp only [List.foldlM_cons, Sem.run_bind, Builtin.min2, Sem.run_pure, Result.andThen_ok]; exact h1, h2⟩
    all_goals cases hz

theorem max_does (hR : Rel E c) : ∀ {us : List V} {xs : List Value} {u v : V} {x : Value}, RV c u x → RVs c us xs → foldV evMax2 u us = some v → ∃ y, (xs.foldlM Builtin.max2 x).run P c.w = .ok y c.w ∧ RV c v y
  | [], xs, u, v, x, hu, hus, h => by
    have := hus.nil_left; subst this
    simp [foldV] at h; subst h
    exact ⟨x, by simp, hu⟩
  | w :: us, xs, u, v, x, hu, hus, h => by
    obtain ⟨y, ys, rfl, hw, hus'⟩ := hus.cons_left
    simp only [foldV] at h
    replace h := Option.bind_eq_some_iff.1 h; obtain ⟨z, hz, h⟩ := h
    cases u <;> cases w <;> simp only [evMax2] at hz
    case int.int k a l b =>
      cases hz
      rw [hu.int_inv, hw.int_inv]
      obtain ⟨r, h1, h2⟩ := max_does hR (x := .int k (if b > a then b else a)) (.g (.int _ _)) hus' h
      exact ⟨r, by simp only [List.foldlM_cons, Sem.run_bind, Builtin.max2, Sem.run_pure, Result.andThen_ok]; exact h1, h2⟩
    all_goals cases hz

theorem extract_does (hR : Rel E c) {u v : V} {x : Value} {i : Nat} (hu : RV c u x) (h : evExtract u i = some v) : Does P E c (Instr.extract x i) v c.h := by
  cases u <;> simp only [evExtract] at h
  case tup vs =>
    obtain ⟨xs, rfl, hs⟩ := hu.tup_inv
    obtain ⟨y, h1, h2⟩ := hs.get h
    have : xs[i]? = some y := by simpa using h1
    exact Does.same hR (x := y) (by simp [Instr.extract, this]) h2
  all_goals cases h

theorem un_does (hR : Rel E c) {op : UnOp} {u v : V} {x : Value} (hu : RV c u x) (h : evUn op u = some v) : Does P E c (Op.unary op x) v c.h := by
  cases op <;> cases u <;> simp only [evUn] at h
  case neg.int k n => cases h; rw [hu.int_inv]; exact Does.same hR (by simp [Op.unary, Op.intArith]) (.g (.int _ _))
  case xor.int k n => cases h; rw [hu.int_inv]; exact Does.same hR (by simp [Op.unary, Op.intBits]) (.g (.int _ _))
  case not.bool b => cases h; rw [hu.bool_inv]; exact Does.same hR (by simp [Op.unary]) (.g (.bool _))
  all_goals cases h

theorem makeInterface_does (hE : EnvOk P E) (hR : Rel E c) {t : TypeId} {u v : V} {x : Value} (hu : RV c u x) (h : evMakeInterface E t u = some v) : Does P E c (Instr.makeInterface t x) v c.h := by
  replace h := Option.bind_eq_some_iff.1 h; obtain ⟨d, hd, h⟩ := h
  obtain ⟨ut, h1, h2⟩ := (hE.ty t d hd).und
  split at h
  · cases h
  · rename_i hne
    cases h
    refine Does.same hR (x := .iface t x) ?_ (.ifc _ _ _ hu)
    cases ut <;> first | (exact absurd h2.symm hne) | simp [Instr.makeInterface, run_underlying h1]

theorem typeAssert_does (hE : EnvOk P E) (hR : Rel E c) {xt t : TypeId} {u v : V} {x : Value} {ok : Bool} (hu : RV c u x) (h : evTypeAssert E u t ok = some v) : Does P E c (Instr.typeAssert x xt t ok) v c.h := by
  replace h := Option.bind_eq_some_iff.1 h; obtain ⟨d, hd, h⟩ := h
  have hT := hE.ty t d hd
  obtain ⟨ut, h1, h2⟩ := hT.und
  split at h
  · cases h
  · rename_i hne
    have hzero : RV c (if d.agg = true then V.agg d.zero else d.zero.headD .junk) d.zeroV := by
      unfold TyD.zeroV
      by_cases ha : d.agg
      · rw [if_pos ha, if_pos ha]; exact RV.agg_mk (zeros_rv hT.zo)
      · rw [if_neg ha, if_neg ha]
        have := hT.zl (by simpa using ha)
        match hz : d.zero, this with
        | [z], _ =>
          have := hT.zo; rw [hz] at this; simp at this
          exact .g (zeroX_rv this)
    have hni : ∀ ms, ut ≠ .interface ms := fun ms e => by rw [e] at h2; exact hne h2.symm
    have pair : ∀ {a : V} {y : Value} (b : Bool), RV c a y → RV c (.tup [a, .bool b]) (.tuple #[y, .bool b]) := fun b h => RV.tup_mk (RVs.cons h (RVs.cons (.g (.bool b)) (RVs.nil c)))
    simp only at h
    split at h
    · cases h
      rw [hu.nili_inv]
      refine Does.same hR (x := .tuple #[d.zeroV, .bool false]) ?_ (pair false hzero)
      cases ut <;> first | (exact absurd rfl (hni _)) | simp [Instr.typeAssert, run_underlying h1, hT.run_zero]
    · rename_i t' w
      obtain ⟨y, rfl, hy⟩ := hu.ifc_inv
      split at h
      · rename_i e
        cases h; subst e
        refine Does.same hR (x := .tuple #[y, .bool true]) ?_ (pair true hy)
        cases ut <;> first | (exact absurd rfl (hni _)) | simp [Instr.typeAssert, run_underlying h1]
      · rename_i e
        cases h
        refine Does.same hR (x := .tuple #[d.zeroV, .bool false]) ?_ (pair false hzero)
        cases ut <;> first | (exact absurd rfl (hni _)) | simp [Instr.typeAssert, run_underlying h1, hT.run_zero, e]
    · rename_i t' w
      obtain ⟨y, rfl, hy⟩ := hu.ifc_inv
      split at h
      · rename_i e
        cases h; subst e
        refine Does.same hR (x := y) ?_ hy
        cases ut <;> first | (exact absurd rfl (hni _)) | simp [Instr.typeAssert, run_underlying h1]
      · cases h
    · cases h

end
end Go.Sb
