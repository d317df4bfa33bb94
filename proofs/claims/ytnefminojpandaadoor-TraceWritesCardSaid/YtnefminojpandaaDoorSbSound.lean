/- Regions, code, functions: what the evaluator answers holds for every run of the machine. -/
import Derived.Test.YtnefminojpandaaDoorSbDraw
set_option linter.unusedVariables false
set_option linter.unusedSimpArgs false
namespace Go.Sb
section
variable {P : Program} {E : Env}

theorem ops_sound (hE : EnvOk P E) {md : FuncId → Mode} {call : CallF} (hC : CallOk P E call) (ops : Array Oper) {Q : Exit → Act → World → Prop} : ∀ (n k : Nat) (c : Cx) (s : List V) (a : Act) (e : Ex) (s' : List V) (h' : Heap),
    k + n = ops.size → Rel E c → FrOk c s a → evOps E md call ops.toList (ops.toList.drop k) s c.h = some (e, s', h') → PostOk E c Q e s' h' → wpOps P ops Q (List.range' k n) a c.w
  | 0, k, c, s, a, e, s', h', hk, hR, hF, hev, hP => by
    rw [List.drop_eq_nil_of_le (by simp; omega)] at hev
    simp only [evOps] at hev
    cases hev
    exact hP c a (Ext.refl c) hR rfl hF
  | n + 1, k, c, s, a, e, s', h', hk, hR, hF, hev, hP => by
    have hlt : k < ops.toList.length := by simp; omega
    rw [List.drop_eq_getElem_cons hlt] at hev
    have ho : ops[k]? = some ops.toList[k] := by simp [show k < ops.size by omega]
    simp only [evOps] at hev
    replace hev := Option.bind_eq_some_iff.1 hev; obtain ⟨b, hb, hev⟩ := hev
    have hw := wanted_ok (ops := ops) hF hb
    rw [List.range'_succ]
    simp only [wpOps, ho, hw]
    split at hev
    · rename_i hbt
      subst hbt
      rw [if_pos rfl]
      replace hev := Option.bind_eq_some_iff.1 hev; obtain ⟨r, hr, hev⟩ := hev
      left
      refine op_sound hE hR hC hF hr ?_
      cases r with
      | val v h1 =>
        intro c' x hx hR' hh hv
        exact ops_sound hE hC ops n (k + 1) c' _ _ e s' h' (by omega) hR' ((hF.mono hx).put _ hv) (by rw [hh]; exact hev) (hP.ext hx)
      | pan v h1 =>
        intro c' x hx hR' hh hv
        cases hev
        exact hP c' a hx hR' hh (hF.mono hx) x hv
    · rename_i hbf
      have : b = false := by simpa using hbf
      subst this
      rw [if_neg (by simp)]
      exact ops_sound hE hC ops n (k + 1) c _ _ e s' h' (by omega) hR (hF.put _ (RV.undM c)) hev hP

/-- A loop, round by round. -/
theorem wp_loop_rounds' {c : Code} {Q : Exit → Act → World → Prop} (R : Nat → Act → World → Prop) (hr : ∀ n a w, R (n + 1) a w → c.wp P (Exit.then (R n) Q) a w) (h0 : ∀ a w, ¬ R 0 a w) : ∀ n a w, R n a w → (Code.loop c).wp P Q a w := by
  intro n a w h b k cs
  have key : ∀ n a w, R n a w → ∃ e a' w', Q e a' w' ∧ Arrives P (lone (b.at a (.code c :: .inLoop c :: k)) cs w) b k cs e a' w' := by
    intro n
    induction n with
    | zero => intro a w h; exact absurd h (h0 a w)
    | succ n ih =>
      intro a w h
      obtain ⟨e, a₁, w₁, hq, harr⟩ := hr n a w h b (.inLoop c :: k) cs
      cases e with
      | normal =>
        obtain ⟨e₂, a₂, w₂, hq₂, harr₂⟩ := ih a₁ w₁ hq
        exact ⟨e₂, a₂, w₂, hq₂, .of_steps (Steps.trans harr (.one step_inLoop)) harr₂⟩
      | exit id => exact ⟨_, a₁, w₁, hq, .pass (x := .inLoop c) rfl (fun _ _ => .inl (by simp)) harr⟩
      | goto l => exact ⟨_, a₁, w₁, hq, .pass (x := .inLoop c) rfl (fun _ _ => .inl (by simp)) harr⟩
      | ret => exact ⟨_, a₁, w₁, hq, .pass (x := .inLoop c) rfl (fun _ _ => .inl (by simp)) harr⟩
      | panic ch => exact ⟨_, a₁, w₁, hq, .pass (x := .inLoop c) rfl (fun _ _ => .inl (by simp)) harr⟩
      | outgrown => exact ⟨_, a₁, w₁, hq, .pass (x := .inLoop c) rfl (fun _ _ => .inl (by simp)) harr⟩
  obtain ⟨e, a', w', hq, harr⟩ := key n a w h
  exact ⟨e, a', w', hq, .of_steps (.one step_loop) harr⟩

theorem code_sound (hE : EnvOk P E) {md : FuncId → Mode} {call : CallF} (hC : CallOk P E call) (n : Nat) : ∀ (code : Code) (Q : Exit → Act → World → Prop) (c : Cx) (s : List V) (a : Act) (e : Ex) (s' : List V) (h' : Heap),
    Rel E c → FrOk c s a → evCode E md call n code s c.h = some (e, s', h') → PostOk E c Q e s' h' → code.wp P Q a c.w := by
  intro code
  induction code with
  | skip =>
    intro Q c s a e s' h' hR hF hev hP
    simp only [evCode] at hev; cases hev
    exact wp_skip (hP c a (Ext.refl c) hR rfl hF)
  | region id ops draw =>
    intro Q c s a e s' h' hR hF hev hP
    simp only [evCode] at hev
    cases draw with
    | false =>
      simp only [Bool.false_eq_true, if_false] at hev
      refine wp_region ?_
      rw [List.range_eq_range']
      exact ops_sound hE hC ops ops.size 0 c s a e s' h' (by omega) hR hF (by simpa using hev) hP
    | true =>
      simp only [if_true] at hev
      split at hev
      · rename_i hok
        exact draw_sound hE hC hok hR hF hev hP
      · cases hev
  | seq x y ihx ihy =>
    intro Q c s a e s' h' hR hF hev hP
    simp only [evCode] at hev
    replace hev := Option.bind_eq_some_iff.1 hev; obtain ⟨r, hr, hev⟩ := hev
    obtain ⟨e1, s1, h1⟩ := r
    refine wp_seq (ihx _ c s a e1 s1 h1 hR hF hr ?_)
    intro c' a' hx hR' hh hF'
    cases e1 with
    | normal =>
      simp only at hev
      exact ihy Q c' s1 a' e s' h' hR' hF' (by rw [hh]; exact hev) (hP.ext hx)
    | exit i => simp only at hev; cases hev; exact hP c' a' hx hR' hh hF'
    | ret => simp only at hev; cases hev; exact hP c' a' hx hR' hh hF'
    | panic v => simp only at hev; cases hev; exact hP c' a' hx hR' hh hF'
  | cond cc x y ihx ihy =>
    intro Q c s a e s' h' hR hF hev hP
    simp only [evCode] at hev
    split at hev
    · rename_i t ht
      have hv := opd_ok hR hF cc
      rw [ht] at hv
      refine wp_cond (t := t) hv.bool_inv ?_
      cases t with
      | true => exact ihx Q c s a e s' h' hR hF (by simpa using hev) hP
      | false => exact ihy Q c s a e s' h' hR hF (by simpa using hev) hP
    · cases hev
  | block id x ih =>
    intro Q c s a e s' h' hR hF hev hP
    simp only [evCode] at hev
    replace hev := Option.bind_eq_some_iff.1 hev; obtain ⟨r, hr, hev⟩ := hev
    obtain ⟨e1, s1, h1⟩ := r
    refine wp_block (ih _ c s a e1 s1 h1 hR hF hr ?_)
    intro c' a' hx hR' hh hF'
    cases e1 with
    | normal => simp only at hev; cases hev; exact hP c' a' hx hR' hh hF'
    | exit i =>
      simp only at hev
      simp only [Exit.inBlock]
      split at hev
      · rename_i hi; cases hev; rw [if_pos hi]; exact hP c' a' hx hR' hh hF'
      · rename_i hi; cases hev; rw [if_neg hi]; exact hP c' a' hx hR' hh hF'
    | ret => simp only at hev; cases hev; exact hP c' a' hx hR' hh hF'
    | panic v => simp only at hev; cases hev; exact hP c' a' hx hR' hh hF'
  | loop x ih =>
    intro Q c s a e s' h' hR hF hev hP
    simp only [evCode] at hev
    refine wp_loop_rounds' (fun m a' w' => ∃ c' s1, Ext c c' ∧ Rel E c' ∧ c'.w = w' ∧ FrOk c' s1 a' ∧ evLoop (fun s h => evCode E md call n x s h) m s1 c'.h = some (e, s', h')) ?_ ?_ n a c.w ⟨c, s, Ext.refl c, hR, rfl, hF, hev⟩
    · rintro m a' w' ⟨c', s1, hx, hR', rfl, hF', hl⟩
      simp only [evLoop] at hl
      replace hl := Option.bind_eq_some_iff.1 hl; obtain ⟨r, hr, hl⟩ := hl
      obtain ⟨e1, s2, h2⟩ := r
      refine ih _ c' s1 a' e1 s2 h2 hR' hF' hr ?_
      intro c2 a2 hx2 hR2 hh2 hF2
      cases e1 with
      | normal => simp only at hl; exact ⟨c2, s2, hx.trans hx2, hR2, rfl, hF2, by rw [hh2]; exact hl⟩
      | exit i => simp only at hl; cases hl; exact hP c2 a2 (hx.trans hx2) hR2 hh2 hF2
      | ret => simp only at hl; cases hl; exact hP c2 a2 (hx.trans hx2) hR2 hh2 hF2
      | panic v => simp only at hl; cases hl; exact hP c2 a2 (hx.trans hx2) hR2 hh2 hF2
    · rintro a' w' ⟨c', s1, _, _, _, _, hl⟩
      simp [evLoop] at hl
  | exit id =>
    intro Q c s a e s' h' hR hF hev hP
    simp only [evCode] at hev; cases hev
    exact wp_exit (hP c a (Ext.refl c) hR rfl hF)
  | ret =>
    intro Q c s a e s' h' hR hF hev hP
    simp only [evCode] at hev; cases hev
    exact wp_ret (hP c a (Ext.refl c) hR rfl hF)
  | rangeFunc => intro Q c s a e s' h' hR hF hev hP; simp [evCode] at hev
  | scope => intro Q c s a e s' h' hR hF hev hP; simp [evCode] at hev
  | label => intro Q c s a e s' h' hR hF hev hP; simp [evCode] at hev
  | goto => intro Q c s a e s' h' hR hF hev hP; simp [evCode] at hev
  | refuse => intro Q c s a e s' h' hR hF hev hP; simp [evCode] at hev

theorem result_ok (hE : EnvOk P E) {c : Cx} (hR : Rel E c) {s : List V} {a : Act} (hF : FrOk c s a) {r : ResultVar} {v : V} (h : evResult E s c.h r = some v) :
    ∃ x, ((match r with | .tmp t => pure (a.tmps.getD t undef) | .cell p t => do loadVar t (← asAddr (a.tmps.getD p undef)) : Sem Value)).run P c.w = .ok x c.w ∧ RV c v x := by
  cases r with
  | tmp t => simp only [evResult] at h; cases h; exact ⟨_, rfl, hF.get t⟩
  | cell p t =>
    simp only [evResult] at h
    have hp := hF.get p
    generalize hg : getT s p = pv at h hp
    cases pv <;> simp only [evLoad] at h
    case ptr b o sz =>
      replace h := Option.bind_eq_some_iff.1 h; obtain ⟨q, hq, hr⟩ := h
      obtain ⟨hb, hbl⟩ := cellsAt_some hq
      have e := hp.ptr_inv (by rw [hsz_cells hb, hbl])
      obtain ⟨y, h1, h2⟩ := rd_spec hE (cellsAt_at hR hq o) hr
      exact ⟨y, by simp only [e, asAddr, Sem.run_bind, Sem.run_pure, Result.andThen_ok]; exact h1, h2⟩
    case rop cs =>
      obtain ⟨ad, e, ha⟩ := rop_at hp
      obtain ⟨y, h1, h2⟩ := rd_spec hE ha h
      exact ⟨y, by simp only [e, asAddr, Sem.run_bind, Sem.run_pure, Result.andThen_ok]; exact h1, h2⟩
    all_goals cases h

theorem results_ok (hE : EnvOk P E) {c : Cx} (hR : Rel E c) {s : List V} {a : Act} (hF : FrOk c s a) {fn : Func} {v : V} (h : evResults E fn.results.toList s c.h = some v) : ∃ x, (results fn a.tmps).run P c.w = .ok x c.w ∧ RV c v x := by
  obtain ⟨vs, hvs, rfl⟩ := Option.map_eq_some_iff.1 h
  have key : ∀ (rs : List ResultVar) (vs : List V), rs.mapM (evResult E s c.h) = some vs → ∃ xs : List Value, (rs.mapM (fun | .tmp t => pure (a.tmps.getD t undef) | .cell p t => do loadVar t (← asAddr (a.tmps.getD p undef)) : ResultVar → Sem Value)).run P c.w = .ok xs c.w ∧ RVs c vs xs := by
    intro rs
    induction rs with
    | nil => intro vs h; simp at h; subst h; exact ⟨[], by simp, RVs.nil c⟩
    | cons r rs ih =>
      intro vs h
      simp only [List.mapM_cons, Option.bind_eq_bind, Option.bind_eq_some_iff] at h
      obtain ⟨v, hv, us, hus, h⟩ := h
      cases h
      obtain ⟨x, h1, h2⟩ := result_ok (P := P) hE hR hF hv
      obtain ⟨xs, h3, h4⟩ := ih us hus
      refine ⟨x :: xs, ?_, RVs.cons h2 h4⟩
      simp only [List.mapM_cons, Sem.run_bind]
      rw [h1]
      simp only [Result.andThen_ok]
      rw [h3]
      rfl
  obtain ⟨xs, h1, h2⟩ := key _ _ hvs
  have hm : (fn.results.mapM (fun | .tmp t => pure (a.tmps.getD t undef) | .cell p t => do loadVar t (← asAddr (a.tmps.getD p undef)) : ResultVar → Sem Value)).run P c.w = .ok xs.toArray c.w := by
    rw [Array.mapM_eq_mapM_toList]
    simp only [Sem.run_map, h1, Result.andThen_ok]
  refine ⟨if h : xs.toArray.size = 1 then xs.toArray[0] else .tuple xs.toArray, ?_, ?_⟩
  · simp only [results, Sem.run_bind]
    exact Eq.trans (congrArg (fun r => Result.andThen r _) hm) rfl
  · match vs, xs, h2 with
    | [], xs, h2 => have := h2.nil_left; subst this; simp; exact RV.tup_mk h2
    | [v], xs, h2 => obtain ⟨x, ys, rfl, h3, h4⟩ := h2.cons_left; have := h4.nil_left; subst this; simpa using h3
    | v :: w :: vs, xs, h2 =>
      obtain ⟨x, ys, rfl, h3, h4⟩ := h2.cons_left
      obtain ⟨y, zs, rfl, h5, h6⟩ := h4.cons_left
      simp
      exact RV.tup_mk h2

theorem fn_sound (hE : EnvOk P E) {call : CallF} (hC : CallOk P E call) {n : Nat} {f : FuncId} {d : FnD} (hfn : FnOk P f d) {args : List V} {r : OpR} {c : Cx} {xs : List Value} (hR : Rel E c) (hargs : RVs c args xs)
    (h : evFn E call n d args c.h = some r) : Calls P f ⟨xs⟩ c.w (Ret E c r) := by
  obtain ⟨F, hf, hb, hnt, hres, hname⟩ := hfn.fn
  unfold evFn at h
  split at h
  · rename_i hlen
    replace h := Option.bind_eq_some_iff.1 h; obtain ⟨q, hq, h⟩ := h
    obtain ⟨e, s', h'⟩ := q
    refine calls_of_wp hf hb ?_
    have hF0 : FrOk c (initT d.nt args) { tmps := (⟨xs⟩ : Array Value) ++ Array.replicate (F.ntmps - (⟨xs⟩ : Array Value).size) undef, defers := [] } := by
      refine ⟨⟨_, rfl, ?_⟩, rfl⟩
      have hrep : RVs c (List.replicate (d.nt - args.length) und) (List.replicate (d.nt - args.length) undef) := by
        refine ⟨by simp, fun i v x hv hx => ?_⟩
        rw [List.getElem?_replicate] at hv hx
        split at hv
        · rename_i hi; rw [if_pos hi] at hx; cases hv; cases hx; exact RV.undM c
        · cases hv
      have := hargs.append hrep
      simpa [hnt, hargs.1] using this
    refine code_sound hE hC n d.body _ c _ _ e s' h' hR hF0 hq ?_
    intro c' a' hx hR' hh hF'
    have fin : ∀ v, evResults E d.res s' h' = some v → r = .val v h' → a'.defers = [] ∧ ∃ v, (results F a'.tmps).run P c'.w = .ok v c'.w ∧ Ret E c r (.returned v) c'.w := by
      intro v hv hr
      obtain ⟨x, k1, k2⟩ := results_ok (P := P) (fn := F) hE hR' hF' (by rw [hres, hh]; exact hv)
      refine ⟨hF'.d, x, k1, c', hx, hR', rfl, ?_⟩
      rw [hr]
      exact ⟨hh, x, rfl, k2⟩
    cases e with
    | normal =>
      simp only at h
      split at h
      · obtain ⟨v, hv, rfl⟩ := Option.map_eq_some_iff.1 h; exact fin v hv rfl
      · cases h
    | ret =>
      simp only at h
      split at h
      · obtain ⟨v, hv, rfl⟩ := Option.map_eq_some_iff.1 h; exact fin v hv rfl
      · cases h
    | exit i => cases h
    | panic v =>
      simp only at h
      split at h
      · cases h
        intro x hxv
        exact ⟨hF'.d, c', hx, hR', rfl, hh, x, rfl, hxv⟩
      · cases h
  · cases h

end
end Go.Sb
