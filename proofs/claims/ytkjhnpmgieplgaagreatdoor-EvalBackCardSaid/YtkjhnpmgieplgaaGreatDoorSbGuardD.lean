/- Functions with a deferred closure: read off their code. -/
import Derived.Test.YtkjhnpmgieplgaaGreatDoorSbCall
set_option linter.unusedVariables false
set_option linter.unusedSimpArgs false
namespace Go.Sb

def stripSeq : Nat → Code → List Code × Code
  | k + 1, .seq a b => (a :: (stripSeq k b).1, (stripSeq k b).2)
  | _, c => ([], c)

theorem stripSeq_ok : ∀ (k : Nat) (c : Code), seqs (stripSeq k c).1 (stripSeq k c).2 = c
  | 0, c => by unfold stripSeq; rfl
  | k + 1, c => by
    cases c <;> simp only [stripSeq, seqs]
    rw [stripSeq_ok k]

def isMk : Op → Bool
  | .makeFunc (.func _) ⟨[]⟩ _ => true
  | _ => false

def guardOf (k : Nat) (d gd : FnD) (g : FuncId) : Option GuardD :=
  match (stripSeq k d.body).2, gd.body with
  | .seq (.region id ⟨[m, ⟨dst, .defer ⟨.value (.tmp t), ⟨[]⟩, ts⟩, ty, pos, after, none⟩]⟩ false) rest, .seq (.region gid ⟨[⟨rdst, .call ⟨.builtin .recover, ⟨[]⟩, rts⟩, rty, rpos, rafter, none⟩]⟩ false) grest =>
    if m.guard = none ∧ isMk m.op = true ∧ ((stripSeq k d.body).1.all plainC = true ∧ plainC rest = true ∧ plainC grest = true) then some { d := d, first := (stripSeq k d.body).1, id := id, mkf := m, df := ⟨dst, .defer ⟨.value (.tmp t), #[], ts⟩, ty, pos, after, none⟩, t := t, rest := rest, g := g, gd := gd, gid := gid, rc := ⟨rdst, .call ⟨.builtin .recover, #[], rts⟩, rty, rpos, rafter, none⟩, grest := grest } else none
  | _, _ => none

theorem guardOf_ok {P : Program} {k : Nat} {d gd : FnD} {f g : FuncId} {G : GuardD} (h : guardOf k d gd g = some G) (h1 : FnOk P f d) (h2 : FnOk P g gd) : GuardOk P f G := by
  unfold guardOf at h
  split at h
  · rename_i e1 e2
    split at h
    · rename_i hm
      cases h
      obtain ⟨hm1, hm2, hm3, hm4, hm5⟩ := hm
      refine ⟨h1, h2, ?_, e2, ⟨hm1, ?_⟩, ⟨fun x hx => List.all_eq_true.1 hm3 x hx, hm4, hm5⟩, ⟨rfl, _, rfl⟩, ⟨rfl, _, rfl⟩⟩
      case refine_2 =>
        revert hm2; unfold isMk; split
        · rename_i f cs heq; intro _; exact ⟨f, cs, heq⟩
        · intro h; cases h
      have := stripSeq_ok k d.body
      rw [e1] at this
      exact this.symm
    · cases h
  · cases h
end Go.Sb
