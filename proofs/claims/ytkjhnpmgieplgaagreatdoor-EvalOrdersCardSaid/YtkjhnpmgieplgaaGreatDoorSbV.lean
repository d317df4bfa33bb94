/- The plain values and the plain memory of an evaluator for the model's code: no addresses but numbers of blocks of its own, no tape. -/
import GoSem.Step
set_option linter.unusedVariables false
set_option linter.unusedSimpArgs false
namespace Go.Sb

inductive V where
  | bool (b : Bool)
  | int (k : IntKind) (n : Int)
  | str (s : List UInt8)
  | nilp | nils | nilm | nilf | nili
  | ptr (b o sz : Nat)
  | rop (cs : List V)
  | sl (b o e len cap sz : Nat)
  | lst (e : Nat) (es : List V)
  | emp
  | mp (b : Nat)
  | it (b : Nat)
  | fn (f : Fn) (caps : List V)
  | bm (f : FuncId) (cs : List V)
  /-- some int of this kind -/
  | ub (k : IntKind)
  | ifc (t : TypeId) (x : V)
  | agg (cs : List V)
  | tup (cs : List V)
  | junk
  deriving Inhabited

/-- How a function is called: 'own': its arguments are laid open (what they refer to is read, and written by nobody meanwhile), it runs in a memory of its own, and what it returns is laid open; 'shared': it runs in its caller's memory; 'round': a round of a range over a function (its number is the loop's block). -/
inductive Mode | own | shared | round
  deriving DecidableEq

/-- A range over a function under way: how it stands, how its body was left ('none': by ret; 'some i': by an exit), the slots of the function that it stands in, the loop variables, what is done with them, the body. -/
structure LoopD where
  st : LoopState
  pend : Option (Option Nat)
  tmps : List V
  params : List Nat
  assign : Code
  body : Code
  md : FuncId → Mode

inductive Blk where
  | dead
  | cells (t : TypeId) (cs : List V)
  | map (es : List (V × V))
  | siter (L : LoopD)
  deriving Inhabited

abbrev Heap := List Blk

def V.cells : V → List V
  | .agg cs => cs
  | v => [v]

def V.isCell : V → Bool
  | .agg _ | .tup _ | .junk => false
  | _ => true

mutual
/-- No reference into the evaluator's own memory. -/
def V.ground : V → Bool
  | .ptr .. | .sl .. | .mp _ | .it _ | .junk | .bm .. => false
  | .rop cs | .lst _ cs | .fn _ cs | .agg cs | .tup cs => V.grounds cs
  | .ifc _ x => x.ground
  | _ => true
def V.grounds : List V → Bool
  | [] => true
  | v :: vs => v.ground && V.grounds vs
end

mutual
def V.beq : V → V → Bool
  | .bool a, .bool b => a == b
  | .int k a, .int l b => k == l && a == b
  | .str a, .str b => a == b
  | .nilp, .nilp | .nils, .nils | .nilm, .nilm | .nilf, .nilf | .nili, .nili | .emp, .emp | .junk, .junk => true
  | .ptr a b c, .ptr d e f => a == d && b == e && c == f
  | .rop a, .rop b | .agg a, .agg b | .tup a, .tup b => V.beqs a b
  | .lst e a, .lst f b => e == f && V.beqs a b
  | .sl a b c d e f, .sl a' b' c' d' e' f' => a == a' && b == b' && c == c' && d == d' && e == e' && f == f'
  | .mp a, .mp b => a == b
  | .it a, .it b => a == b
  | .ub a, .ub b => a == b
  | .fn f a, .fn g b => f == g && V.beqs a b
  | .bm f a, .bm g b => f == g && V.beqs a b
  | .ifc t x, .ifc u y => t == u && x.beq y
  | _, _ => false
def V.beqs : List V → List V → Bool
  | [], [] => true
  | a :: as, b :: bs => a.beq b && V.beqs as bs
  | _, _ => false
end

mutual
theorem V.beq_eq : ∀ (a b : V), a.beq b = true → a = b
  | .bool a, b, h => by cases b <;> simp_all [V.beq]
  | .int k a, b, h => by cases b <;> simp_all [V.beq]
  | .str a, b, h => by cases b <;> simp_all [V.beq]
  | .nilp, b, h => by cases b <;> simp_all [V.beq]
  | .nils, b, h => by cases b <;> simp_all [V.beq]
  | .nilm, b, h => by cases b <;> simp_all [V.beq]
  | .nilf, b, h => by cases b <;> simp_all [V.beq]
  | .nili, b, h => by cases b <;> simp_all [V.beq]
  | .emp, b, h => by cases b <;> simp_all [V.beq]
  | .junk, b, h => by cases b <;> simp_all [V.beq]
  | .ptr _ _ _, b, h => by cases b <;> simp_all [V.beq]
  | .sl _ _ _ _ _ _, b, h => by cases b <;> simp_all [V.beq]
  | .mp _, b, h => by cases b <;> simp_all [V.beq]
  | .it _, b, h => by cases b <;> simp_all [V.beq]
  | .ub _, b, h => by cases b <;> simp_all [V.beq]
  | .rop a, b, h => by
    cases b <;> simp [V.beq] at h
    rw [V.beqs_eq _ _ h]
  | .lst e a, b, h => by
    cases b <;> simp [V.beq] at h
    rw [V.beqs_eq _ _ h.2, h.1]
  | .agg a, b, h => by
    cases b <;> simp [V.beq] at h
    rw [V.beqs_eq _ _ h]
  | .tup a, b, h => by
    cases b <;> simp [V.beq] at h
    rw [V.beqs_eq _ _ h]
  | .fn f a, b, h => by
    cases b <;> simp [V.beq] at h
    rw [V.beqs_eq _ _ h.2, h.1]
  | .bm f a, b, h => by
    cases b <;> simp [V.beq] at h
    rw [V.beqs_eq _ _ h.2, h.1]
  | .ifc t a, b, h => by
    cases b <;> simp [V.beq] at h
    rw [V.beq_eq _ _ h.2, h.1]
theorem V.beqs_eq : ∀ (a b : List V), V.beqs a b = true → a = b
  | [], b, h => by cases b <;> simp_all [V.beqs]
  | x :: xs, b, h => by
    cases b with
    | nil => simp [V.beqs] at h
    | cons y ys =>
      simp [V.beqs] at h
      rw [V.beq_eq _ _ h.1, V.beqs_eq _ _ h.2]
end

mutual
theorem V.beq_refl : ∀ (a : V), a.beq a = true
  | .bool _ | .int _ _ | .str _ | .nilp | .nils | .nilm | .nilf | .nili | .emp | .junk | .ptr _ _ _ | .sl _ _ _ _ _ _ | .mp _ | .it _ | .ub _ => by simp [V.beq]
  | .rop a | .lst _ a | .agg a | .tup a | .fn _ a | .bm _ a => by simp [V.beq, V.beqs_refl a]
  | .ifc _ x => by simp [V.beq, V.beq_refl x]
theorem V.beqs_refl : ∀ (a : List V), V.beqs a a = true
  | [] => rfl
  | x :: xs => by simp [V.beqs, V.beq_refl x, V.beqs_refl xs]
end

instance : DecidableEq V := fun a b => if h : a.beq b = true then .isTrue (V.beq_eq a b h) else .isFalse (fun e => h (e ▸ V.beq_refl a))

end Go.Sb
