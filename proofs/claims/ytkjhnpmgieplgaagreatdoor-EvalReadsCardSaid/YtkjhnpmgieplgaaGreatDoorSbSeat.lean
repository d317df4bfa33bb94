/- A seat's tables, checked. -/
import Derived.Test.YtkjhnpmgieplgaaGreatDoorSbArg
import Derived.Laws.Externs
import Derived.KernelRfl
set_option linter.unusedVariables false
set_option linter.unusedSimpArgs false
namespace Go.Sb

def isZ : Value → V → Bool
  | .bool a, .bool b => a == b
  | .int k a, .int l b => decide (k = l) && a == b
  | .string s, .str l => s.data.toList == l
  | .pointer none, .nilp => true
  | .slice none 0 0, .nils => true
  | .map none, .nilm => true
  | .nilFunc, .nilf => true
  | .nilIface, .nili => true
  | _, _ => false

theorem isZ_eq {x : Value} {v : V} (h : isZ x v = true) : x = zeroX v ∧ zeroOk v = true := by
  unfold isZ at h
  split at h
  · simp at h; subst h; exact ⟨rfl, rfl⟩
  · simp at h; obtain ⟨rfl, rfl⟩ := h; exact ⟨rfl, rfl⟩
  · rename_i s l
    simp at h
    refine ⟨?_, rfl⟩
    obtain ⟨⟨a⟩⟩ := s
    simp at h; subst h; rfl
  all_goals first | exact ⟨rfl, rfl⟩ | cases h

def isZs : List Value → List V → Bool
  | [], [] => true
  | x :: xs, v :: vs => isZ x v && isZs xs vs
  | _, _ => false

theorem isZs_eq : ∀ {xs : List Value} {vs : List V}, isZs xs vs = true → xs = vs.map zeroX ∧ vs.all zeroOk = true
  | [], [], _ => ⟨rfl, rfl⟩
  | x :: xs, v :: vs, h => by
    simp only [isZs, Bool.and_eq_true] at h
    obtain ⟨e1, e2⟩ := isZ_eq h.1
    obtain ⟨e3, e4⟩ := isZs_eq h.2
    exact ⟨by rw [e1, e3]; rfl, by simp [e2]; simpa using e4⟩
  | [], _ :: _, h => by simp [isZs] at h
  | _ :: _, [], h => by simp [isZs] at h

def tyOkB (P : Program) (t : TypeId) (d : TyD) : Bool :=
  (match P.underlying t with | some u => decide (TyU.of u = d.u) | none => false) &&
  (match P.info? t with
    | some i => i.size == d.size && i.bytes == d.bytes &&
      (match i.zero with
       | some (.agg xs) => d.agg && isZs xs.toList d.zero
       | some x => !d.agg && (match d.zero with | [v] => isZ x v | _ => false)
       | none => false)
    | none => false) && d.zero.length == d.size

theorem tyOk_of {P : Program} {t : TypeId} {d : TyD} (h : tyOkB P t d = true) : TyOk P t d := by
  unfold tyOkB at h
  simp only [Bool.and_eq_true] at h
  obtain ⟨⟨h1, h2⟩, h3⟩ := h
  cases hu : P.underlying t with
  | none => rw [hu] at h1; cases h1
  | some u =>
    rw [hu] at h1
    cases hi : P.info? t with
    | none => rw [hi] at h2; cases h2
    | some i =>
      rw [hi] at h2
      simp only [Bool.and_eq_true, beq_iff_eq] at h2
      obtain ⟨⟨g1, g2⟩, g3⟩ := h2
      have h3' : d.zero.length = d.size := by simpa using h3
      cases hz : i.zero with
      | none => rw [hz] at g3; cases g3
      | some x =>
        rw [hz] at g3
        have key : x = d.zeroV ∧ d.zero.all zeroOk = true ∧ (d.agg = false → d.zero.length = 1) := by
          split at g3
          · rename_i xs e
            cases e
            simp only [Bool.and_eq_true] at g3
            obtain ⟨e1, e2⟩ := isZs_eq g3.2
            refine ⟨?_, e2, fun h => by rw [g3.1] at h; cases h⟩
            unfold TyD.zeroV
            rw [if_pos g3.1, ← e1]
          · rename_i e
            cases e
            simp only [Bool.and_eq_true, Bool.not_eq_true'] at g3
            obtain ⟨g4, g5⟩ := g3
            split at g5
            · rename_i v hv
              obtain ⟨e1, e2⟩ := isZ_eq g5
              refine ⟨?_, by rw [hv]; simp [e2], fun _ => by rw [hv]; rfl⟩
              unfold TyD.zeroV
              rw [if_neg (by simp [g4]), hv, e1]; rfl
            · cases g5
          · rename_i e; cases e
        exact ⟨by rw [hu]; simpa using h1, by rw [hi]; simp [g1, g2], by rw [hi]; simp [hz, key.1], key.2.1, key.2.2, h3'⟩

theorem none_no {α : Type} {x : α} (h : none = some x) : False := by cases h

/-- A function as the seat's load gives it. -/
def fnDof (F : Func) (md : FuncId → Mode) : FnD := ⟨F.ntmps, F.results.toList, F.body.getD .skip, md⟩

theorem fnOk_of {P : Program} {f : FuncId} {F : Func} {md : FuncId → Mode} (h : P.funcs[f]? = some F) (hb : F.body.isSome = true) (hn : (F.name == "runtime.NumGoroutine") = false) : FnOk P f (fnDof F md) := by
  refine ⟨F, h, ?_, rfl, rfl, hn⟩
  unfold fnDof
  cases hF : F.body with
  | none => rw [hF] at hb; cases hb
  | some b => rfl

end Go.Sb
