/- Seat 25: what the rows give to the evaluator: the table of blanks; arguments. -/
import Derived.Test.YtnefminojpandaaDoorSbEvents25
import Derived.Test.YtnefminojpandaaDoorSbTop
import Derived.LaidMore
set_option linter.unusedVariables false
set_option linter.unusedSimpArgs false
namespace Go.Proofs.YtnefminojpandaaDoor
open Go.Sb Go.ChangeShapes Go.WideShapes Go.ChangeAt Go.WideMaps Go.WideElems Go.RowKit
set_option maxRecDepth 100000

theorem own : ownKnob Tryd.prog.godebug = none := by kernel_rfl
theorem laidOut : laidOutB Tryd.prog = true := by kernel_rfl

theorem space_laid {H : Type} : (Rows.laid_strings_asciiSpace : DataW H) = .agg (((List.range 256).map spaceN).map fun n => .lit (.int .u8 n)) := by rfl

theorem pow_laid {H : Type} : (Rows.laid_internal_strconv_uint64pow10 : DataW H) = .agg (Lib.pow10Tab.map fun n => .lit (.int .u64 n)) := by rfl

theorem err_laid {H : Type} : (Rows.laid_strconv_ErrSyntax : DataW H) = .iface "*errors.errorString" (.ptr (.agg [.lit (.string [105, 110, 118, 97, 108, 105, 100, 32, 115, 121, 110, 116, 97, 120])])) := rfl
theorem range_laid {H : Type} : (Rows.laid_strconv_ErrRange : DataW H) = .iface "*errors.errorString" (.ptr (.agg [.lit (.string [118, 97, 108, 117, 101, 32, 111, 117, 116, 32, 111, 102, 32, 114, 97, 110, 103, 101])])) := rfl

theorem laid_err {W : World} {n : String} {g : Nat} {d : DataW Unit} {l : List (String × DataW Unit)} {ps : List MemPlace} (h : DataW.LaidVars Tryd.prog W l ps)
    (hm : (n, .iface "*errors.errorString" (.ptr d)) ∈ l) (hg : Tryd.prog.globalNamed n = some g) (ht : (Tryd.prog.globals[g]?).map (·.type) = some 68) : GlOk (fun r => r < W.heap.size) W g errV := by
  obtain ⟨g', t', cs, fuel, p, k1, k2, k3, k4⟩ := laid_mem h hm
  rw [hg] at k1; cases k1
  rw [ht] at k2; cases k2
  obtain ⟨C, T, fz, hb, hC⟩ : ∃ C T fz, W.heap[g]? = some (.cells C T fz) ∧ C = cs := by
    have k3' := k3
    simp only [World.var?, hg, Option.bind_some] at k3'
    split at k3'
    · rename_i C T fz hb; exact ⟨C, T, fz, hb, by simpa using k3'⟩
    · cases k3'
  subst hC
  have hone : ∃ u v, C.toList = [.iface u v] := by
    cases fuel with
    | zero => simp [DataW.trod] at k4
    | succ fuel =>
      rw [DataW.trod.eq_def] at k4
      simp only [Tryd.underlying68] at k4
      split at k4
      all_goals first
        | (exfalso; rename_i h1 h2; cases h1; done)
        | (exfalso; rename_i h2; cases h2; done)
        | (exfalso; cases k4; done)
        | skip
      rename_i hC
      split at k4
      · rename_i e; cases e
      · rename_i nm e1 e2
        exact ⟨_, _, hC⟩
      · cases k4
  obtain ⟨u, v, hC⟩ := hone
  have hsz : C.size = 1 := by rw [← Array.length_toList, hC]; rfl
  have h0 : C[0]? = some (.iface u v) := by rw [← Array.getElem?_toList, hC]; rfl
  have hcell : W.cell? ⟨g, 0, none⟩ = some (.iface u v) := by rw [World.var?_cell hg k3 0]; exact h0
  refine ⟨.rop _ _ (fun _ => .iface u v) (fun j hj => ?_) (fun j w hw => ?_) (fun hne => (Array.getElem?_eq_some_iff.1 hb).1), (Array.getElem?_eq_some_iff.1 hb).1, C, T, fz, hb, hsz⟩
  · have : j = 0 := by simp [errV] at hj; omega
    subst this
    exact hcell
  · match j with
    | 0 =>
      cases hw
      exact .ifo _ _ _
    | j + 1 => simp [errV] at hw

theorem space_of {W : World} {laid : List (String × DataW Unit)} {ps : List MemPlace} (h : DataW.LaidVars Tryd.prog W laid ps)
    (hm : ("strings.asciiSpace", Rows.laid_strings_asciiSpace) ∈ laid) (hm2 : ("internal/strconv.uint64pow10", Rows.laid_internal_strconv_uint64pow10) ∈ laid) (hm3 : ("strconv.ErrSyntax", Rows.laid_strconv_ErrSyntax) ∈ laid) (hm4 : ("strconv.ErrRange", Rows.laid_strconv_ErrRange) ∈ laid) :
    ∀ g cs, env2.gl g = some cs → GlOk (fun r => r < W.heap.size) W g cs := by
  intro g cs hg
  have hg' : (bif Nat.beq g 0 then some spaceV else bif Nat.beq g 3 then some pow10V else bif Nat.beq g 4 then some errV else bif Nat.beq g 5 then some errV else none) = some cs := hg
  rw [cond_eq_ite] at hg'
  split at hg'
  · rename_i e; have e := Nat.eq_of_beq_eq_true e; subst e; cases hg'
    rw [space_laid] at hm
    have := laid_rop (ns := (List.range 256).map spaceN) h hm (g := 0) (by kernel_rfl) (t := 116) (by kernel_rfl) Tryd.underlying116 Tryd.underlying5 (by kernel_rfl) (by kernel_rfl)
    rw [List.map_map] at this
    exact this
  · rw [cond_eq_ite] at hg'
    split at hg'
    · rename_i e; have e := Nat.eq_of_beq_eq_true e; subst e; cases hg'
      rw [pow_laid] at hm2
      exact laid_rop (ns := Lib.pow10Tab) h hm2 (g := 3) (by kernel_rfl) (t := 152) (by kernel_rfl) Tryd.underlying152 Tryd.underlying129 (by kernel_rfl) (by kernel_rfl)
    · rw [cond_eq_ite] at hg'
      split at hg'
      · rename_i e; have e := Nat.eq_of_beq_eq_true e; subst e; cases hg'
        rw [err_laid] at hm3
        exact laid_err h hm3 (by kernel_rfl) (by kernel_rfl)
      · rw [cond_eq_ite] at hg'
        split at hg'
        · rename_i e; have e := Nat.eq_of_beq_eq_true e; subst e; cases hg'
          rw [range_laid] at hm4
          exact laid_err h hm4 (by kernel_rfl) (by kernel_rfl)
        · cases hg'

/-! Arguments -/
theorem shp_int {n : Nat} {vs : List V} (h : Shp env2 (n + 1) 3 vs) : ∃ z, vs = [.int .i64 z] ∧ (Lit.int .i64 z).wf = true := by
  obtain ⟨d, hd, _, h⟩ := h
  cases (show some ty3 = some d from hd)
  exact h
theorem shp_str {n : Nat} {vs : List V} (h : Shp env2 (n + 1) 9 vs) : ∃ s, vs = [.str s] ∧ s.length ≤ maxLen := by
  obtain ⟨d, hd, _, h⟩ := h
  cases (show some ty9 = some d from hd)
  exact h

theorem shp_event {n : Nat} {vs : List V} (h : Shp env2 (n + 3) 27 vs) : ∃ e : Ev, vs = e.cells := by
  obtain ⟨d, hd, _, h⟩ := h
  cases (show some ty27 = some d from hd)
  obtain ⟨_, _, rfl, h1, _, _, rfl, h2, _, _, rfl, h3, _, _, rfl, h4, _, _, rfl, h5, _, _, rfl, h6, _, _, rfl, h7, rfl⟩ := h
  obtain ⟨z1, rfl, _⟩ := shp_int h1
  obtain ⟨z2, rfl, _⟩ := shp_int h2
  obtain ⟨z3, rfl, _⟩ := shp_int h3
  obtain ⟨z4, rfl, _⟩ := shp_int h4
  obtain ⟨z5, rfl, _⟩ := shp_int h5
  obtain ⟨d, hd, _, h6⟩ := h6
  cases (show some ty23 = some d from hd)
  obtain ⟨_, _, rfl, g1, _, _, rfl, g2, _, _, rfl, g3, rfl⟩ := h6
  obtain ⟨y1, rfl, _⟩ := shp_int g1
  obtain ⟨y2, rfl, _⟩ := shp_int g2
  obtain ⟨y3, rfl, _⟩ := shp_str g3
  obtain ⟨d, hd, _, h7⟩ := h7
  cases (show some ty25 = some d from hd)
  obtain ⟨_, _, rfl, k1, _, _, rfl, k2, rfl⟩ := h7
  obtain ⟨x1, rfl, _⟩ := shp_int k1
  obtain ⟨x2, rfl, _⟩ := shp_str k2
  exact ⟨⟨z1, z2, z3, z4, z5, y1, y2, y3, x1, x2⟩, rfl⟩

theorem wf_i64 {n : Int} (h : (Lit.int .i64 n).wf = true) : -9223372036854775808 ≤ n ∧ n ≤ 9223372036854775807 := by
  simp [Lit.wf, IntKind.min, IntKind.max, IntKind.signed, IntKind.bits] at h
  omega

theorem shp_event2 {n : Nat} {vs : List V} (h : Shp env2 (n + 3) 27 vs) : ∃ e : Ev, vs = e.cells ∧ (Lit.int .i64 e.vn).wf = true := by
  obtain ⟨d, hd, _, h⟩ := h
  cases (show some ty27 = some d from hd)
  obtain ⟨_, _, rfl, h1, _, _, rfl, h2, _, _, rfl, h3, _, _, rfl, h4, _, _, rfl, h5, _, _, rfl, h6, _, _, rfl, h7, rfl⟩ := h
  obtain ⟨z1, rfl, _⟩ := shp_int h1
  obtain ⟨z2, rfl, _⟩ := shp_int h2
  obtain ⟨z3, rfl, _⟩ := shp_int h3
  obtain ⟨z4, rfl, _⟩ := shp_int h4
  obtain ⟨z5, rfl, _⟩ := shp_int h5
  obtain ⟨d, hd, _, h6⟩ := h6
  cases (show some ty23 = some d from hd)
  obtain ⟨_, _, rfl, g1, _, _, rfl, g2, _, _, rfl, g3, rfl⟩ := h6
  obtain ⟨y1, rfl, _⟩ := shp_int g1
  obtain ⟨y2, rfl, hy2⟩ := shp_int g2
  obtain ⟨y3, rfl, _⟩ := shp_str g3
  obtain ⟨d, hd, _, h7⟩ := h7
  cases (show some ty25 = some d from hd)
  obtain ⟨_, _, rfl, k1, _, _, rfl, k2, rfl⟩ := h7
  obtain ⟨x1, rfl, _⟩ := shp_int k1
  obtain ⟨x2, rfl, _⟩ := shp_str k2
  exact ⟨⟨z1, z2, z3, z4, z5, y1, y2, y3, x1, x2⟩, rfl, hy2⟩

theorem shpA_event {n : Nat} {u : V} (h : ShpA env2 (n + 3) 27 u) : ∃ e : Ev, u = e.v ∧ (Lit.int .i64 e.vn).wf = true := by
  obtain ⟨h1, h2⟩ := h
  obtain ⟨cs, rfl⟩ := (h2 ty27 rfl).1 rfl
  obtain ⟨e, he, hw⟩ := shp_event2 h1
  exact ⟨e, by rw [Ev.v, ← he]; rfl, hw⟩

theorem shp_events {n : Nat} {u : V} (h : ShpA env2 (n + 4) 34 u) : ∃ l, Fr 10 u (evs l) := by
  obtain ⟨⟨d, hd, _, h⟩, hu⟩ := h
  have hu := (hu ty34 rfl).2 rfl
  cases (show some ty34 = some d from hd)
  obtain ⟨y, hy, h⟩ := h
  cases (show some ty27 = some y from hy)
  rw [hu] at h
  rcases h with h | ⟨es, h, hle, hes⟩
  · exact ⟨[], .inl ⟨.inl (by simpa using h), rfl⟩⟩
  · have : ∃ l, es = evs l := by
      clear h hle
      induction es with
      | nil => exact ⟨[], rfl⟩
      | cons v es ih =>
        obtain ⟨l, rfl⟩ := ih fun x hx => hes x (by simp [hx])
        obtain ⟨h1, h2⟩ := hes v (by simp)
        obtain ⟨cs, rfl⟩ := h2 rfl
        obtain ⟨e, he⟩ := shp_event h1
        exact ⟨e :: l, by simp only [evs, List.map_cons, Ev.v]; rw [← he]; rfl⟩
    obtain ⟨l, rfl⟩ := this
    exact ⟨l, .inr (by simpa [show ty27.size = 10 from rfl] using h)⟩

theorem shpA_int {n : Nat} {u : V} (h : ShpA env2 (n + 1) 3 u) : ∃ z, u = .int .i64 z ∧ (Lit.int .i64 z).wf = true := by
  obtain ⟨z, h1, h2⟩ := shp_int h.1
  rw [(h.2 ty3 rfl).2 rfl] at h1
  exact ⟨z, by simpa using h1, h2⟩

end Go.Proofs.YtnefminojpandaaDoor
