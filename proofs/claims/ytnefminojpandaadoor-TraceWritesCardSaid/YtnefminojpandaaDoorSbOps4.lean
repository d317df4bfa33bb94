/- Operations: index, cut, length, arithmetic, comparison. -/
import Derived.Test.YtnefminojpandaaDoorSbOps3
set_option linter.unusedVariables false
set_option linter.unusedSimpArgs false
namespace Go.Sb
section
variable {P : Program} {E : Env} {c : Cx}

theorem index_does (hE : EnvOk P E) (hR : Rel E c) {t : TypeId} {p i v : V} {x xi : Value} (hp : RV c p x) (hi : RV c i xi) (h : evIndex E t p i = some v) : Does P E c (Instr.index t x xi) v c.h := by
  replace h := Option.bind_eq_some_iff.1 h; obtain ⟨d, hd, h⟩ := h
  obtain ⟨u, h1, h2⟩ := (hE.ty t d hd).und
  split at h
  · rename_i n e cs k i hu
    rw [hu] at h2; have := of_array h2; subst this
    replace h := Option.bind_eq_some_iff.1 h; obtain ⟨y, hy, h⟩ := h
    split at h
    · rename_i hc
      rw [hi.int_inv]
      obtain ⟨xs, rfl, hxs⟩ := hp.agg_inv
      obtain ⟨y', k1, k2⟩ := part_spec hE hxs h
      refine Does.same hR (x := y') ?_ k2
      simp [Instr.index, run_underlying h1, asIntOf, hc, (hE.ty e y hy).run_size, k1]
    · cases h
  · rename_i s k i hu
    rw [hu] at h2; have := of_str h2; subst this
    split at h
    · rename_i hc
      obtain ⟨b, hb, rfl⟩ := Option.map_eq_some_iff.1 h
      rw [hi.int_inv, hp.str_inv]
      refine Does.same hR (x := .int .u8 b.toNat) ?_ (.g (.int _ _))
      have hlt : i.toNat < s.length := (List.getElem?_eq_some_iff.1 hb).1
      have e : (ByteArray.mk ⟨s⟩)[i.toNat]? = some b := by
        have h1 : i.toNat < (ByteArray.mk ⟨s⟩).size := by simpa [ByteArray.size] using hlt
        rw [getElem?_pos (ByteArray.mk ⟨s⟩) i.toNat h1]
        have := (List.getElem?_eq_some_iff.1 hb).2
        show some ((ByteArray.mk ⟨s⟩).data[i.toNat]) = some b
        simpa using this
      simp [Instr.index, run_underlying h1, asIntOf, hc, e]
    · cases h
  · cases h

theorem bound_run {x : V} {xi : Value} {dflt n y : Nat} (hx : RV c x xi) (h : bnd (some x) dflt = some n) (hn : n ≤ y) (code : BoundsCode) (w : World) : (Instr.sliceBound xi y code).run P w = .ok n w := by
  cases x <;> simp only [bnd] at h
  case int k i =>
    split at h
    · rename_i h0
      cases h
      rw [hx.int_inv]
      have : i ≤ (y : Int) := by omega
      simp [Instr.sliceBound, asIntOf, h0, this]
    · cases h
  all_goals cases h

/-- A cut's bounds, as they stand in the operands. -/
def OptRel (c : Cx) (v : Option V) (x : Option Value) : Prop := match v, x with
  | none, none => True
  | some v, some x => RV c v x
  | _, _ => False

theorem bounds_run {lo hi : Option V} {xlo xhi : Option Value} {isSlice : Bool} {len cap l h : Nat} (hlo : OptRel c lo xlo) (hhi : OptRel c hi xhi) (e1 : bnd hi len = some h) (e2 : bnd lo 0 = some l) (h1 : l ≤ h) (h2 : h ≤ cap) (w : World) :
    (Instr.sliceBounds isSlice len cap xlo xhi none).run P w = .ok (l, h, cap) w := by
  cases lo <;> cases xlo <;> simp only [OptRel] at hlo <;> cases hi <;> cases xhi <;> simp only [OptRel] at hhi
  · simp only [bnd, Option.some.injEq] at e1 e2; subst e1; subst e2
    simp [Instr.sliceBounds]
  · simp only [bnd, Option.some.injEq] at e2; subst e2
    simp [Instr.sliceBounds, bound_run hhi e1 h2]
  · simp only [bnd, Option.some.injEq] at e1; subst e1
    simp [Instr.sliceBounds, bound_run hlo e2 h1]
  · simp [Instr.sliceBounds, bound_run hhi e1 h2, bound_run hlo e2 h1]

theorem bounds3_run {lo hi : Option V} {xlo xhi : Option Value} {mx : V} {xm : Value} {isSlice : Bool} {len cap l h m : Nat} (hlo : OptRel c lo xlo) (hhi : OptRel c hi xhi) (hm : RV c mx xm) (e0 : bnd (some mx) 0 = some m) (e1 : bnd hi 0 = some h) (e2 : bnd lo 0 = some l) (hs : hi.isSome = true) (h1 : l ≤ h) (h2 : h ≤ m) (h3 : m ≤ cap) (w : World) :
    (Instr.sliceBounds isSlice len cap xlo xhi (some xm)).run P w = .ok (l, h, m) w := by
  cases hi with
  | none => cases hs
  | some hv =>
    cases xhi with
    | none => exact hhi.elim
    | some xh =>
      cases lo <;> cases xlo <;> simp only [OptRel] at hlo
      · simp only [bnd, Option.some.injEq] at e2; subst e2
        simp [Instr.sliceBounds, bound_run hm e0 h3, bound_run hhi e1 h2]
      · simp [Instr.sliceBounds, bound_run hm e0 h3, bound_run hhi e1 h2, bound_run hlo e2 h1]

theorem slice_does (hE : EnvOk P E) (hR : Rel E c) {t : TypeId} {p v : V} {x : Value} {lo hi mx : Option V} {xlo xhi xmx : Option Value} (hp : RV c p x) (hlo : OptRel c lo xlo) (hhi : OptRel c hi xhi) (hmx : OptRel c mx xmx)
    (h : evSlice E t p lo hi mx = some v) : Does P E c (Instr.sliceAt t x xlo xhi xmx) v c.h := by
  replace h := Option.bind_eq_some_iff.1 h; obtain ⟨d, hd, h⟩ := h
  obtain ⟨u, h1, h2⟩ := (hE.ty t d hd).und
  split at h
  · -- a string
    rename_i s hu
    cases xmx with
    | some _ => exact hmx.elim
    | none =>
    rw [hu] at h2; have := of_str h2; subst this
    replace h := Option.bind_eq_some_iff.1 h; obtain ⟨hh, e1, h⟩ := h
    replace h := Option.bind_eq_some_iff.1 h; obtain ⟨l, e2, h⟩ := h
    split at h
    · rename_i hc
      cases h
      rw [hp.str_inv]
      refine Does.same hR (x := .string ⟨⟨(s.take hh).drop l⟩⟩) ?_ (.g (.str _))
      have hsz : (ByteArray.mk ⟨s⟩).size = s.length := by simp [ByteArray.size]
      have := bounds_run (P := P) (isSlice := false) (len := s.length) (cap := s.length) hlo hhi e1 e2 hc.1 hc.2 c.w
      simp [Instr.sliceAt, Instr.slice, run_underlying h1, hsz, this, bs_extract]
    · cases h
  · -- a row
    rename_i e0 b o e len cap sz hu
    cases xmx with
    | some _ => exact hmx.elim
    | none =>
    rw [hu] at h2; have := of_slice h2; subst this
    replace h := Option.bind_eq_some_iff.1 h; obtain ⟨y, hy, h⟩ := h
    replace h := Option.bind_eq_some_iff.1 h; obtain ⟨hh, e1, h⟩ := h
    replace h := Option.bind_eq_some_iff.1 h; obtain ⟨l, e2, h⟩ := h
    split at h
    · rename_i hc
      obtain ⟨c1, c2, c3, c4⟩ := hc
      cases h
      cases hp with
      | g hp => cases hp
      | sl _ _ _ _ _ _ _ hsh hb hs hx =>
        obtain ⟨a, m, rfl, hcm⟩ := hsh
        have := bounds_run (P := P) (isSlice := true) (len := len) (cap := m) hlo hhi e1 e2 c1 (by omega) c.w
        refine Does.same hR (x := .slice (some (a.add (l * e))) (hh - l) (m - l)) ?_ (.sl _ _ _ _ _ _ _ ⟨_, _, rfl, by omega⟩ hb hs fun hv => ?_)
        · have hne : m ≠ l := by omega
          simp [Instr.sliceAt, Instr.slice, run_underlying h1, this, (hE.ty e0 y hy).run_size, c4, hne]
        · obtain ⟨cap', C, T, fz, q0, q1, q2, q3⟩ := hx hv
          cases q0
          refine ⟨m - l, C, T, fz, by rw [Addr.add_mk, Nat.add_assoc], by omega, q2, ?_⟩
          have : (m - l) * e + l * e = m * e := by rw [← Nat.add_mul]; congr 1; omega
          omega
    · cases h
  · rename_i e0 b o e len cap sz m hu
    cases xmx with
    | none => exact hmx.elim
    | some xm =>
    rw [hu] at h2; have := of_slice h2; subst this
    replace h := Option.bind_eq_some_iff.1 h; obtain ⟨y, hy, h⟩ := h
    replace h := Option.bind_eq_some_iff.1 h; obtain ⟨m', q0, h⟩ := h
    replace h := Option.bind_eq_some_iff.1 h; obtain ⟨hh, e1, h⟩ := h
    replace h := Option.bind_eq_some_iff.1 h; obtain ⟨l, e2, h⟩ := h
    split at h
    · rename_i hc
      obtain ⟨c1, c2, c3, c4⟩ := hc
      cases h
      cases hp with
      | g hp => cases hp
      | sl _ _ _ _ _ _ _ hsh hb hs hx =>
        obtain ⟨a, mm, rfl, hcm⟩ := hsh
        have := bounds3_run (P := P) (isSlice := true) (len := len) (cap := mm) hlo hhi hmx q0 e1 e2 c1 (by omega) (by omega) (by omega) c.w
        refine Does.same hR (x := .slice (some a) 0 0) ?_ (.g (.emp _))
        subst c2; subst c3
        simp [Instr.sliceAt, Instr.slice, run_underlying h1, this, (hE.ty e0 y hy).run_size]
    · cases h
  · rename_i e0 e es hu
    cases xmx with
    | some _ => exact hmx.elim
    | none =>
    rw [hu] at h2; have := of_slice h2; subst this
    replace h := Option.bind_eq_some_iff.1 h; obtain ⟨y, hy, h⟩ := h
    replace h := Option.bind_eq_some_iff.1 h; obtain ⟨hh, e1, h⟩ := h
    replace h := Option.bind_eq_some_iff.1 h; obtain ⟨l, e2, h⟩ := h
    split at h
    · rename_i hc
      obtain ⟨c1, c2, c4⟩ := hc
      subst c4
      cases h
      obtain ⟨a, cap, f, rfl, p0, p1, p2, p3, p4, p5⟩ := hp.lst_inv
      have := bounds_run (P := P) (isSlice := true) (len := es.length) (cap := cap) hlo hhi e1 e2 c1 (by omega) c.w
      have hg : ∀ (i : Nat) (v : V), ((es.take hh).drop l)[i]? = some v → es[l + i]? = some v := fun i v hv => by
        rw [List.getElem?_drop, List.getElem?_take] at hv
        split at hv
        · exact hv
        · cases hv
      have hlen : ((es.take hh).drop l).length = hh - l := by simp; omega
      have hres : RG c.ro c.w (.lst y.size ((es.take hh).drop l)) (.slice (some (if cap = l then a else a.add (l * y.size))) ((es.take hh).drop l).length (cap - l)) := by
        refine .lst _ _ _ _ (fun i j => f (l + i) j) (fun i v hv => p0 _ v (hg i v hv)) (fun i j hi hj => ?_) (fun i j v u hv hu => p2 _ j v u (hg i v hv) hu) (fun hne => ?_) (by rw [hlen]; omega) (fun i v hv => p5 _ v (hg i v hv))
        · rw [hlen] at hi
          rw [if_neg (by omega), Addr.add_add, show l * y.size + (i * y.size + j) = (l + i) * y.size + j by rw [Nat.add_mul]; omega]
          exact p1 (l + i) j (by omega) hj
        · have : es ≠ [] := by intro e; subst e; simp at hne
          split
          · exact p3 this
          · rw [Addr.block_add]; exact p3 this
      rw [hlen] at hres
      refine Does.same hR (x := .slice (some (if cap = l then a else a.add (l * y.size))) (hh - l) (cap - l)) ?_ (.g hres)
      simp only [Instr.sliceAt, Sem.run_bind, run_underlying h1, Result.andThen_ok, Instr.slice, this, (hE.ty e0 y hy).run_size, Sem.run_pure]
      by_cases hcl : cap = l
      · rw [if_pos hcl, if_pos hcl]
      · rw [if_neg hcl, if_neg hcl]; rfl
    · cases h
  · rename_i e0 e es m hu
    cases xmx with
    | none => exact hmx.elim
    | some xm =>
    rw [hu] at h2; have := of_slice h2; subst this
    replace h := Option.bind_eq_some_iff.1 h; obtain ⟨y, hy, h⟩ := h
    replace h := Option.bind_eq_some_iff.1 h; obtain ⟨m', q0, h⟩ := h
    replace h := Option.bind_eq_some_iff.1 h; obtain ⟨hh, e1, h⟩ := h
    replace h := Option.bind_eq_some_iff.1 h; obtain ⟨l, e2, h⟩ := h
    split at h
    · rename_i hc
      obtain ⟨c1, c2, c3, c4⟩ := hc
      cases h
      obtain ⟨a, cap, f, rfl, p0, p1, p2, p3, p4, p5⟩ := hp.lst_inv
      have := bounds3_run (P := P) (isSlice := true) (len := es.length) (cap := cap) hlo hhi hmx q0 e1 e2 c1 (by omega) (by omega) (by omega) c.w
      refine Does.same hR (x := .slice (some a) 0 0) ?_ (.g (.emp _))
      subst c2; subst c3
      simp [Instr.sliceAt, Instr.slice, run_underlying h1, this, (hE.ty e0 y hy).run_size]
    · cases h
  · rename_i e0 hu
    cases xmx with
    | some _ => exact hmx.elim
    | none =>
    rw [hu] at h2; have := of_slice h2; subst this
    replace h := Option.bind_eq_some_iff.1 h; obtain ⟨y, hy, h⟩ := h
    replace h := Option.bind_eq_some_iff.1 h; obtain ⟨hh, e1, h⟩ := h
    replace h := Option.bind_eq_some_iff.1 h; obtain ⟨l, e2, h⟩ := h
    split at h
    · rename_i hc
      cases h
      obtain ⟨c1, c2⟩ := hc; subst c1; subst c2
      rw [hp.nils_inv]
      have := bounds_run (P := P) (isSlice := true) (len := 0) (cap := 0) hlo hhi e1 e2 (Nat.le_refl _) (Nat.le_refl _) c.w
      exact Does.same hR (x := .slice none 0 0) (by simp [Instr.sliceAt, Instr.slice, run_underlying h1, this, (hE.ty e0 y hy).run_size]) (.g .nils)
    · cases h
  · rename_i e0 m hu
    cases xmx with
    | none => exact hmx.elim
    | some xm =>
    rw [hu] at h2; have := of_slice h2; subst this
    replace h := Option.bind_eq_some_iff.1 h; obtain ⟨y, hy, h⟩ := h
    replace h := Option.bind_eq_some_iff.1 h; obtain ⟨m', q0, h⟩ := h
    replace h := Option.bind_eq_some_iff.1 h; obtain ⟨hh, e1, h⟩ := h
    replace h := Option.bind_eq_some_iff.1 h; obtain ⟨l, e2, h⟩ := h
    split at h
    · rename_i hc
      cases h
      obtain ⟨c0, c1, c2, c3⟩ := hc; subst c1; subst c2; subst c3
      rw [hp.nils_inv]
      have := bounds3_run (P := P) (isSlice := true) (len := 0) (cap := 0) hlo hhi hmx q0 e1 e2 c0 (Nat.le_refl _) (Nat.le_refl _) (Nat.le_refl _) c.w
      exact Does.same hR (x := .slice none 0 0) (by simp [Instr.sliceAt, Instr.slice, run_underlying h1, this, (hE.ty e0 y hy).run_size]) (.g .nils)
    · cases h
  · rename_i e0 hu
    cases xmx with
    | some _ => exact hmx.elim
    | none =>
    rw [hu] at h2; have := of_slice h2; subst this
    replace h := Option.bind_eq_some_iff.1 h; obtain ⟨y, hy, h⟩ := h
    replace h := Option.bind_eq_some_iff.1 h; obtain ⟨hh, e1, h⟩ := h
    replace h := Option.bind_eq_some_iff.1 h; obtain ⟨l, e2, h⟩ := h
    split at h
    · rename_i hc
      cases h
      obtain ⟨c1, c2⟩ := hc; subst c1; subst c2
      obtain ⟨a, rfl⟩ := hp.emp_inv
      have := bounds_run (P := P) (isSlice := true) (len := 0) (cap := 0) hlo hhi e1 e2 (Nat.le_refl _) (Nat.le_refl _) c.w
      exact Does.same hR (x := .slice (some a) 0 0) (by simp [Instr.sliceAt, Instr.slice, run_underlying h1, this, (hE.ty e0 y hy).run_size]) (.g (.emp _))
    · cases h
  · rename_i e0 m hu
    cases xmx with
    | none => exact hmx.elim
    | some xm =>
    rw [hu] at h2; have := of_slice h2; subst this
    replace h := Option.bind_eq_some_iff.1 h; obtain ⟨y, hy, h⟩ := h
    replace h := Option.bind_eq_some_iff.1 h; obtain ⟨m', q0, h⟩ := h
    replace h := Option.bind_eq_some_iff.1 h; obtain ⟨hh, e1, h⟩ := h
    replace h := Option.bind_eq_some_iff.1 h; obtain ⟨l, e2, h⟩ := h
    split at h
    · rename_i hc
      cases h
      obtain ⟨c0, c1, c2, c3⟩ := hc; subst c1; subst c2; subst c3
      obtain ⟨a, rfl⟩ := hp.emp_inv
      have := bounds3_run (P := P) (isSlice := true) (len := 0) (cap := 0) hlo hhi hmx q0 e1 e2 c0 (Nat.le_refl _) (Nat.le_refl _) (Nat.le_refl _) c.w
      exact Does.same hR (x := .slice (some a) 0 0) (by simp [Instr.sliceAt, Instr.slice, run_underlying h1, this, (hE.ty e0 y hy).run_size]) (.g (.emp _))
    · cases h
  · rename_i n e0 b o sz hu
    cases xmx with
    | some _ => exact hmx.elim
    | none =>
    rw [hu] at h2; have := of_array h2; subst this
    replace h := Option.bind_eq_some_iff.1 h; obtain ⟨y, hy, h⟩ := h
    replace h := Option.bind_eq_some_iff.1 h; obtain ⟨hh, e1, h⟩ := h
    replace h := Option.bind_eq_some_iff.1 h; obtain ⟨l, e2, h⟩ := h
    split at h
    · rename_i hc
      cases h
      obtain ⟨c1, c2, c3, c4, c5⟩ := hc
      obtain ⟨hb, hs, a, rfl⟩ := hp.ptr_parts
      have := bounds_run (P := P) (isSlice := false) (len := n) (cap := n) hlo hhi e1 e2 c1 c2 c.w
      refine Does.same hR (x := .slice (some (a.add (l * y.size))) (hh - l) (n - l)) ?_ (.sl _ _ _ _ _ _ _ ⟨_, _, rfl, Nat.le_refl _⟩ hb hs fun hv => ?_)
      · have hne : n ≠ l := by omega
        simp [Instr.sliceAt, Instr.sureAddr, run_underlying h1, this, (hE.ty e0 y hy).run_size, hne]
      · obtain ⟨T, cs, hbc, hcl⟩ := hsz_some hv
        obtain ⟨C, lo', hi', g1, g2, g3, g4, _⟩ := hR.cells b T cs hbc
        have e := hp.ptr_inv hv
        cases e
        refine ⟨n - l, C, T, _, by rw [Addr.add_mk, Nat.add_assoc], Nat.le_refl _, g1, ?_⟩
        have : (n - l) * y.size + l * y.size = n * y.size := by rw [← Nat.add_mul]; congr 1; omega
        omega
    · cases h
  · cases h

end
end Go.Sb
