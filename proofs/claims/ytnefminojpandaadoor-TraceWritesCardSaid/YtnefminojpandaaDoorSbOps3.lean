/- Operations: places, indexes, cuts, fields. -/
import Derived.Test.YtnefminojpandaaDoorSbOps2
set_option linter.unusedVariables false
set_option linter.unusedSimpArgs false
namespace Go.Sb
section
variable {P : Program} {E : Env} {c : Cx}

theorem RV.ptr_mk {b o sz : Nat} (hb : b < c.h.length) (hs : ∀ n, hsz c.h b = some n → sz ≤ n) (o0 : Nat) {x : Value} (hp : RV c (.ptr b o0 sz) x) :
    ∀ a, x = .pointer (some a) → RV c (.ptr b (o0 + o) sz) (.pointer (some (a.add o))) := by
  intro a ha
  refine .ptr _ _ _ _ ⟨_, rfl⟩ hb hs fun h => ?_
  have := hp.ptr_inv h
  rw [ha] at this; cases this
  rw [Addr.add_mk]; simp [Nat.add_assoc]

theorem RV.ptr_parts {b o sz : Nat} {x : Value} (h : RV c (.ptr b o sz) x) : b < c.h.length ∧ (∀ n, hsz c.h b = some n → sz ≤ n) ∧ ∃ a, x = .pointer (some a) := by
  cases h with
  | g h => cases h
  | ptr _ _ _ _ hp hb hs hx => exact ⟨hb, hs, hp⟩

theorem RV.ptr_add {b o sz : Nat} {x : Value} (h : RV c (.ptr b o sz) x) : ∃ a, x = .pointer (some a) ∧ ∀ n, RV c (.ptr b (o + n) sz) (.pointer (some (a.add n))) := by
  obtain ⟨hb, hs, a, rfl⟩ := h.ptr_parts
  exact ⟨a, rfl, fun n => RV.ptr_mk hb hs o h a rfl⟩

theorem RV.rop_drop {cs : List V} {x : Value} (h : RV c (.rop cs) x) : ∃ a, x = .pointer (some a) ∧ ∀ n, RV c (.rop (cs.drop n)) (.pointer (some (a.add n))) := by
  obtain ⟨a, f, rfl, h1, h2, h3⟩ := h.rop_inv
  refine ⟨a, rfl, fun n => .g (.rop _ _ (fun j => f (n + j)) (fun j hj => ?_) (fun j v hv => ?_) (fun hne => ?_))⟩
  · rw [Addr.add_add]; exact h1 _ (by simp at hj; omega)
  · rw [List.getElem?_drop] at hv; exact h2 _ v hv
  · rw [Addr.block_add]; exact h3 (by intro e; subst e; simp at hne)

theorem fieldPlace_run (hE : EnvOk P E) {f : Field} {y : TyD} (hy : E.ty f.type = some y) (h0 : y.size ≠ 0) (a : Addr) (w : World) : (fieldPlace a f).run P w = .ok (a.add f.offset) w := by
  simp [fieldPlace, (hE.ty _ y hy).run_size, h0]

theorem fieldAddr_does (hE : EnvOk P E) (hR : Rel E c) {s : TypeId} {p v : V} {x : Value} {f : Nat} (hp : RV c p x) (h : evFieldAddr E s p f = some v) : Does P E c (Instr.fieldAt s x f) v c.h := by
  replace h := Option.bind_eq_some_iff.1 h; obtain ⟨d, hd, h⟩ := h
  cases hu : d.u <;> rw [hu] at h
  case struct l =>
    obtain ⟨fs, h1, h2⟩ := struct_field hE hd hu
    replace h := Option.bind_eq_some_iff.1 h; obtain ⟨g, hg, h⟩ := h
    replace h := Option.bind_eq_some_iff.1 h; obtain ⟨y, hy, h⟩ := h
    obtain ⟨fl, e1, e2, e3⟩ := field_get h2 hg
    split at h
    · cases h
    · rename_i h0
      have hpl := fun a w => fieldPlace_run (P := P) hE (f := fl) (by rw [e2]; exact hy) h0 a w
      cases p
      case ptr b o sz =>
        cases h
        obtain ⟨a, rfl, hadd⟩ := hp.ptr_add
        refine Does.same hR (x := .pointer (some (a.add fl.offset))) ?_ (by rw [e3]; exact hadd _)
        simp [Instr.fieldAt, run_underlying h1, e1, Instr.sureAddr, hpl]
      case rop cs =>
        cases h
        obtain ⟨a, rfl, hadd⟩ := hp.rop_drop
        refine Does.same hR (x := .pointer (some (a.add fl.offset))) ?_ (by rw [e3]; exact hadd _)
        simp [Instr.fieldAt, run_underlying h1, e1, Instr.sureAddr, hpl]
      all_goals cases h
  all_goals cases h

theorem part_spec (hE : EnvOk P E) {t : TypeId} {cs : List V} {xs : Array Value} {o : Nat} {v : V} (hc : RVs c cs xs.toList) (h : partV E t cs o = some v) : ∃ y, (part t xs o).run P c.w = .ok y c.w ∧ RV c v y := by
  replace h := Option.bind_eq_some_iff.1 h; obtain ⟨d, hd, h⟩ := h
  have hT := hE.ty t d hd
  simp only [part, Sem.run_bind, hT.run_agg, Result.andThen_ok]
  have hdr := hc.drop o
  split at h
  · rename_i ha
    split at h
    · rename_i hl
      cases h
      rw [ha]
      simp only [if_true, Sem.run_bind, hT.run_size, Result.andThen_ok, Sem.run_pure]
      refine ⟨_, rfl, ?_⟩
      have := RV.agg_mk (hdr.take d.size)
      have e : (⟨(xs.toList.drop o).take d.size⟩ : Array Value) = xs.extract o (o + d.size) := by
        apply Array.ext'; simp [Array.toList_extract, List.extract_eq_take_drop]
      rw [e] at this; exact this
    · cases h
  · rename_i ha
    simp only [ha, if_false, Bool.false_eq_true]
    cases hcs : cs.drop o with
    | nil => rw [hcs] at h; cases h
    | cons u us =>
      rw [hcs] at h; cases h
      rw [hcs] at hdr
      obtain ⟨y, ys', e, h3, _⟩ := hdr.cons_left
      refine ⟨y, ?_, h3⟩
      have : xs[o]? = some y := by
        have : (xs.toList.drop o)[0]? = some y := by rw [e]; rfl
        rw [List.getElem?_drop] at this; simpa using this
      simp [this]

theorem field_does (hE : EnvOk P E) (hR : Rel E c) {s : TypeId} {p v : V} {x : Value} {f : Nat} (hp : RV c p x) (h : evField E s p f = some v) : Does P E c (Instr.field s x f) v c.h := by
  replace h := Option.bind_eq_some_iff.1 h; obtain ⟨d, hd, h⟩ := h
  cases hu : d.u <;> rw [hu] at h
  case struct l =>
    obtain ⟨fs, h1, h2⟩ := struct_field hE hd hu
    cases p
    case agg cs =>
      replace h := Option.bind_eq_some_iff.1 h; obtain ⟨g, hg, h⟩ := h
      obtain ⟨fl, e1, e2, e3⟩ := field_get h2 hg
      obtain ⟨xs, rfl, hxs⟩ := hp.agg_inv
      obtain ⟨y, k1, k2⟩ := part_spec hE hxs h
      refine Does.same hR (x := y) ?_ k2
      simp [Instr.field, run_underlying h1, e1, asAgg, e2, e3, k1]
    all_goals cases h
  all_goals (cases p <;> cases h)

theorem indexAddr_does (hE : EnvOk P E) (hR : Rel E c) {t : TypeId} {p i v : V} {x xi : Value} (hp : RV c p x) (hi : RV c i xi) (h : evIndexAddr E t p i = some v) : Does P E c (Instr.indexAt t x xi) v c.h := by
  replace h := Option.bind_eq_some_iff.1 h; obtain ⟨d, hd, h⟩ := h
  obtain ⟨u, h1, h2⟩ := (hE.ty t d hd).und
  split at h
  · rename_i n e b o sz k i hu
    rw [hu] at h2; have := of_array h2; subst this
    replace h := Option.bind_eq_some_iff.1 h; obtain ⟨y, hy, h⟩ := h
    split at h
    · rename_i hc
      cases h
      rw [hi.int_inv]
      obtain ⟨a, rfl, hadd⟩ := hp.ptr_add
      refine Does.same hR (x := .pointer (some (a.add (i.toNat * y.size)))) ?_ (hadd _)
      simp [Instr.indexAt, run_underlying h1, asIntOf, Instr.sureAddr, hc, (hE.ty e y hy).run_size]
    · cases h
  · rename_i n e cs k i hu
    rw [hu] at h2; have := of_array h2; subst this
    replace h := Option.bind_eq_some_iff.1 h; obtain ⟨y, hy, h⟩ := h
    split at h
    · rename_i hc
      cases h
      rw [hi.int_inv]
      obtain ⟨a, rfl, hadd⟩ := hp.rop_drop
      refine Does.same hR (x := .pointer (some (a.add (i.toNat * y.size)))) ?_ (hadd _)
      simp [Instr.indexAt, run_underlying h1, asIntOf, Instr.sureAddr, hc, (hE.ty e y hy).run_size]
    · cases h
  · rename_i e b o z len cap sz k i hu
    rw [hu] at h2; have := of_slice h2; subst this
    replace h := Option.bind_eq_some_iff.1 h; obtain ⟨y, hy, h⟩ := h
    split at h
    · rename_i hc
      cases h
      obtain ⟨c1, c2, c3⟩ := hc
      rw [hi.int_inv]
      have hTe := hE.ty e y hy
      cases hp with
      | g hp => cases hp
      | sl _ _ _ _ _ _ _ hsh hb hs hx =>
        obtain ⟨a, m, rfl, hcm⟩ := hsh
        refine Does.same hR (x := .pointer (some (a.add (i.toNat * z)))) ?_ (.ptr _ _ _ _ ⟨_, rfl⟩ hb hs fun hv => ?_)
        · simp [Instr.indexAt, run_underlying h1, asIntOf, c1, c2, hTe.run_size, c3]
        · obtain ⟨cap', C, T, fz, e0, e1, e2, e3⟩ := hx hv
          cases e0
          rw [Addr.add_mk, Nat.add_assoc]
    · cases h
  · rename_i e z es k i hu
    rw [hu] at h2; have := of_slice h2; subst this
    replace h := Option.bind_eq_some_iff.1 h; obtain ⟨y, hy, h⟩ := h
    split at h
    · rename_i h0
      obtain ⟨h0, hz⟩ := h0
      subst hz
      replace h := Option.bind_eq_some_iff.1 h; obtain ⟨w, hw, h⟩ := h
      cases h
      rw [hi.int_inv]
      obtain ⟨a, cap, f, rfl, q0, q1, q2, q3, q4, q5⟩ := hp.lst_inv
      have hlt : i.toNat < es.length := (List.getElem?_eq_some_iff.1 hw).1
      have hcl := q0 _ w hw
      refine Does.same hR (x := .pointer (some (a.add (i.toNat * y.size)))) ?_ (.g (.rop _ _ (fun j => f i.toNat j) (fun j hj => ?_) (fun j v hv => q2 _ j w v hw hv) (fun hne => ?_)))
      · have c2 : i < (es.length : Int) := by omega
        simp [Instr.indexAt, run_underlying h1, asIntOf, h0, c2, (hE.ty e y hy).run_size]
      · rw [Addr.add_add]; exact q1 _ j hlt (by rw [← hcl]; exact hj)
      · rw [Addr.block_add]; exact q3 (by intro e; subst e; simp at hlt)
    · cases h
  · cases h

end
end Go.Sb
