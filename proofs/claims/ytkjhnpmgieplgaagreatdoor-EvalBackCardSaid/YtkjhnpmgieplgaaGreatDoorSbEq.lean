/- '==' at structs of numbers, strings and such structs. -/
import Derived.Test.YtkjhnpmgieplgaaGreatDoorSbLib
import Derived.Laws.StructEq
set_option linter.unusedVariables false
set_option linter.unusedSimpArgs false
namespace Go.Sb

def eqFs (f : TypeId × Nat → Option Bool) : List (TypeId × Nat) → Option Bool
  | [] => some true
  | g :: gs => (f g).bind fun r => if r = true then eqFs f gs else some false

/-- '==' at plain types; 'S': the structs that it may meet. -/
def eqT (E : Env) (S : List TypeId) : Nat → TypeId → V → V → Option Bool
  | 0, _, _, _ => none
  | n + 1, t, a, b => (E.ty t).bind fun d =>
    match d.u, a, b with
    | .int _, .int k x, .int l y => if k = l then some (x == y) else none
    | .bool, .bool x, .bool y => some (x == y)
    | .str, .str x, .str y => some (x == y)
    | .struct fs, .agg xs, .agg ys => if S.contains t = true then eqFs (fun g => (partV E g.1 xs g.2).bind fun u => (partV E g.1 ys g.2).bind fun v => eqT E S n g.1 u v) fs else none
    | _, _, _ => none

def plainStruct (P : Program) (t : TypeId) : Bool := match P.underlying t with
  | some (.struct fs) => !P.stoodInHeld t && fs.toList.all (fun f => f.name != "_") && !P.eqGuardType P.depth t
  | _ => false

section
variable {P : Program} {E : Env}

theorem eqT_run (hE : EnvOk P E) {S : List TypeId} (hS : S.all (plainStruct P) = true) : ∀ (n : Nat) (t : TypeId) (a b : V) (r : Bool), eqT E S n t a b = some r → ∀ (c : Cx) (x y : Value), RV c a x → RV c b y → ∀ d, n ≤ d → (Op.equalIn d t x y).run P c.w = .ok r c.w
  | 0, _, _, _, _, h, _, _, _, _, _, _, _ => by simp [eqT] at h
  | n + 1, t, a, b, r, h, c, x, y, hx, hy, d, hd => by
    obtain ⟨d, rfl⟩ : ∃ d', d = d' + 1 := ⟨d - 1, by omega⟩
    replace h := Option.bind_eq_some_iff.1 h; obtain ⟨dt, hdt, h⟩ := h
    obtain ⟨ut, h1, h2⟩ := (hE.ty t dt hdt).und
    split at h
    · rename_i e
      rw [e] at h2; have := of_int h2; subst this
      split at h
      · rename_i hk; subst hk; cases h
        rw [hx.int_inv, hy.int_inv]; exact run_equalIn_int c.w d t _ _ _ _ h1
      · cases h
    · rename_i e
      rw [e] at h2; have := of_bool h2; subst this
      cases h
      rw [hx.bool_inv, hy.bool_inv]; exact eqIn_bool h1 d _ _ _
    · rename_i e
      rw [e] at h2; have := of_str h2; subst this
      cases h
      rw [hx.str_inv, hy.str_inv, run_equalIn_string c.w d t _ _ h1, bs_eq]
    · rename_i fs xs ys e
      split at h
      · rename_i hmem
        have hps : plainStruct P t = true := List.all_eq_true.1 hS t (by simpa using hmem)
        rw [e] at h2
        obtain ⟨gs, g1, g2⟩ := of_struct h2
        subst g1
        have hfo : P.fieldsOf t = gs := by simp [Program.fieldsOf, h1]
        unfold plainStruct at hps
        rw [h1] at hps
        simp only [Bool.and_eq_true, Bool.not_eq_true'] at hps
        obtain ⟨⟨p1, p2⟩, p3⟩ := hps
        obtain ⟨X, rfl, hX⟩ := hx.agg_inv
        obtain ⟨Y, rfl, hY⟩ := hy.agg_inv
        rw [run_equalIn_struct c.w d t X Y (by rw [hfo]; exact h1) p1, hfo]
        have ih := eqT_run hE hS n
        have key : ∀ (gl : List Field) (r : Bool), (∀ f ∈ gl, (f.name != "_") = true) → eqFs (fun g => (partV E g.1 xs g.2).bind fun u => (partV E g.1 ys g.2).bind fun v => eqT E S n g.1 u v) (gl.map fun f => (f.type, f.offset)) = some r →
            (Op.eqFields d X Y gl).run P c.w = .ok r c.w := by
          intro gl
          induction gl with
          | nil => intro r _ h; simp [eqFs] at h; subst h; simp [Op.eqFields]
          | cons f gl ihg =>
            intro r hn h
            simp only [List.map_cons, eqFs] at h
            obtain ⟨q, hq, h⟩ := Option.bind_eq_some_iff.1 h
            obtain ⟨u, hu, hq⟩ := Option.bind_eq_some_iff.1 hq
            obtain ⟨v, hv, hq⟩ := Option.bind_eq_some_iff.1 hq
            obtain ⟨xu, k1, k2⟩ := part_spec hE hX hu
            obtain ⟨yv, l1, l2⟩ := part_spec hE hY hv
            have hm := ih f.type u v q hq c xu yv k2 l2 d (by omega)
            have hne : f.name ≠ "_" := by simpa using hn f (by simp)
            simp only [Op.eqFields]
            rw [if_pos hne]
            simp only [Sem.run_bind, k1, l1, hm, Result.andThen_ok]
            cases q
            · simp at h; subst h; simp
            · simp only [if_true] at h
              simp only [Bool.not_true, Bool.false_eq_true, if_false]
              exact ihg r (fun f hf => hn f (by simp [hf])) h
        have hlist : fs = gs.toList.map fun f => (f.type, f.offset) := g2.symm
        rw [hlist] at h
        exact key gs.toList r (fun f hf => List.all_eq_true.1 p2 f hf) h
      · cases h
    · cases h

/-- The line of the table. -/
def eqLine (E : Env) (S : List TypeId) (t : TypeId) : Option (List V → List V → Option Bool) := if S.contains t = true then some fun a b => eqT E S 20 t (.agg a) (.agg b) else none

theorem eqs_ok (hE : EnvOk P E) {S : List TypeId} (hS : S.all (plainStruct P) = true) : EnvOk P { E with eqs := eqLine E S } := by
  refine ⟨hE.ty, hE.fn, hE.ext, hE.lib, fun t f hf => ?_, hE.mixed, hE.gd⟩
  simp only [eqLine] at hf
  split at hf
  · rename_i hm
    cases hf
    have hps : plainStruct P t = true := List.all_eq_true.1 hS t (by simpa using hm)
    unfold plainStruct at hps
    split at hps
    · simp only [Bool.and_eq_true, Bool.not_eq_true'] at hps
      exact ⟨hps.2, fun c a b xs ys r ha hb h => eqT_run hE hS 20 t (.agg a) (.agg b) r h c _ _ (RV.agg_mk ha) (RV.agg_mk hb) 10000 (by omega)⟩
    · cases hps
  · cases hf

end
end Go.Sb
