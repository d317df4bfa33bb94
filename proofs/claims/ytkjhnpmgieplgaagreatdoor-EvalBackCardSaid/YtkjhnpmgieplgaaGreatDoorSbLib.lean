/- What the evaluator answers, as a law of the machine: for a function called from anywhere. -/
import Derived.Test.YtkjhnpmgieplgaaGreatDoorSbCall
set_option linter.unusedVariables false
set_option linter.unusedSimpArgs false
namespace Go.Sb

theorem has_calls {P : Program} {E : Env} (hE : EnvOk P E) {f : FuncId} {vs : List V} {v : V} {n : Nat} (h : callN E n .own f vs [] = some (.val v [])) (hv : v.noref = true) {ro : Nat → Prop} {w : World} {xs : List Value}
    (h1 : ∀ r, ro r → r < w.heap.size) (h2 : ∀ g cs, E.gl g = some cs → GlOk ro w g cs) (h3 : vs.length = xs.length) (h4 : ∀ (i : Nat) (u : V) (x : Value), vs[i]? = some u → xs[i]? = some x → RG ro w u x) :
    Calls P f ⟨xs⟩ w fun e w' => (w'.os = w.os ∧ w'.tape = w.tape ∧ w'.output = w.output) ∧ w.heap.size ≤ w'.heap.size ∧ (∀ r, r < w.heap.size → w'.heap[r]? = w.heap[r]?) ∧ ∃ x, e = .returned x ∧ RG (fun r => ro r ∨ (w.heap.size ≤ r ∧ r < w'.heap.size)) w' v x := by
  have nl : ∀ b, ¬ live (Cx.mk (fun _ => (0, 0)) [] ro w (fun _ => False)).h b := fun b ⟨k, hk, _⟩ => by simp at hk
  have hR : Rel E (Cx.mk (fun _ => (0, 0)) [] ro w (fun _ => False)) := ⟨fun b T cs hb => by simp at hb, fun b es hb => by simp at hb, fun b L hb => by simp at hb, fun b hb => absurd hb (nl b), fun b b' hb => absurd hb (nl b), h1, h2, fun b hb => absurd hb (nl b), fun b T cs d hb => by simp at hb⟩
  refine (((callN_ok hE n .own f vs [] _ h).2.1 (by simp)).2 (Cx.mk (fun _ => (0, 0)) [] ro w (fun _ => False)) xs hR rfl ⟨h3, fun i u x hu hx => .g (h4 i u x hu hx)⟩).mono fun e w' hr => ?_
  obtain ⟨c', hX, hR', hw, hr⟩ := hr
  obtain ⟨hh, x, rfl, hx⟩ := hr
  subst hw
  exact ⟨hX.rest, hX.grow, fun r hr => hX.frame r hr (fun q => q), x, rfl, (noref_rg hx hv).mono (fun r hr => (hX.ro2 r hr).imp id fun q => ⟨q, hR'.rolt r hr⟩) (fun _ _ => rfl)⟩

/-- Contracts made ready: laid beside the functions. -/
def Env.told (E : Env) (f : FuncId) (p : List V → Option V) : Env := { E with lib := fun g => if g = f then some p else E.lib g }

theorem EnvOk.told {P : Program} {E : Env} (hE : EnvOk P E) {f : FuncId} {p : List V → Option V} (hp : ∀ vs v, p vs = some v → v.noref = true ∧ ∃ n, callN E n .own f vs [] = some (.val v []))
    (hF : ∃ F, P.funcs[f]? = some F ∧ F.body.isSome = true ∧ (F.name == "runtime.NumGoroutine") = false) : EnvOk P (E.told f p) := by
  refine ⟨hE.ty, hE.fn, hE.ext, fun g q hg => ?_, hE.eqs, hE.mixed, hE.gd⟩
  simp only [Env.told] at hg
  split at hg
  · rename_i e; subst e; cases hg
    refine ⟨fun ro w vs xs v k1 k2 k3 k4 k5 => ?_, hF⟩
    obtain ⟨hv, n, hn⟩ := hp vs v k5
    exact has_calls hE hn hv k1 k2 k3 k4
  · exact hE.lib g q hg

/-- A contract that is proved elsewhere, laid beside the functions. -/
theorem EnvOk.addLib {P : Program} {E : Env} (hE : EnvOk P E) {f : FuncId} {p : List V → Option V} (hp : LibOk P E f p) (hF : ∃ F, P.funcs[f]? = some F ∧ F.body.isSome = true ∧ (F.name == "runtime.NumGoroutine") = false) : EnvOk P (E.told f p) := by
  refine ⟨hE.ty, hE.fn, hE.ext, fun g q hg => ?_, hE.eqs, hE.mixed, hE.gd⟩
  simp only [Env.told] at hg
  split at hg
  · rename_i e; subst e; cases hg
    exact ⟨hp, hF⟩
  · exact hE.lib g q hg

end Go.Sb
