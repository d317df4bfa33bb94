/- 'run', a step at a time: for great functions (one rule a statement; nothing is unfolded ahead of its turn). -/
import Derived.Test.YtekmafoicobphaaGreatDoorSbBytes
set_option linter.unusedVariables false
set_option linter.unusedSimpArgs false
namespace Go.Sb
structure RunP (E : Env) (md : FuncId → Mode) (c : Code) (s : List V) (h : Heap) (Q : Ex → List V → Heap → Prop) : Prop where
 ok : ∃ e s' g, Q e s' g ∧ Evt fun n => yap E md (callN E n) n c s h = some (e, s', g)
section
variable {E : Env} {md : FuncId → Mode} {s : List V} {h : Heap} {Q : Ex → List V → Heap → Prop}
theorem RunP.of {c : Code} (hr : run E md c s h Q) : RunP E md c s h Q := ⟨run_ok hr⟩
theorem RunP.seq {a b : Code} (hr : RunP E md a s h (seqK (fun s' h' => RunP E md b s' h' Q) Q)) : RunP E md (.seq a b) s h Q := by
 obtain ⟨e, s1, g1, h1, h2⟩ := hr.ok
 cases e with
 | normal =>
  obtain ⟨e, s2, g2, k1, k2⟩ := (show RunP E md b s1 g1 Q from h1).ok
  exact ⟨e, s2, g2, k1, h2.and k2 fun n e1 e2 => by simp only [yap, e1, Option.bind_some]; exact e2⟩
 | _ => exact ⟨_, s1, g1, h1, h2.imp fun n e1 => by simp only [yap, e1, Option.bind_some]⟩
theorem RunP.block {id : Nat} {c : Code} (hr : RunP E md c s h (yhx id Q)) : RunP E md (.block id c) s h Q := by
 obtain ⟨e, s1, g1, h1, h2⟩ := hr.ok
 cases e with
 | exit i =>
  simp only [yhx] at h1
  by_cases hi : i = id
  ·rw [if_pos hi] at h1
   exact ⟨_, s1, g1, h1, h2.imp fun n e1 => by simp only [yap, e1, Option.bind_some]; rw [if_pos hi]⟩
  ·rw [if_neg hi] at h1
   exact ⟨_, s1, g1, h1, h2.imp fun n e1 => by simp only [yap, e1, Option.bind_some]; rw [if_neg hi]⟩
 | _ => exact ⟨_, s1, g1, h1, h2.imp fun n e1 => by simp only [yap, e1, Option.bind_some]⟩
theorem RunP.region {x : Nat} {ops : Array Oper} (hr : ydc ops.toList ops.toList fun rs => yag E md rs s h fun s' h' => Q .normal s' h') : RunP E md (.region x ops false) s h Q := .of hr
theorem RunP.drawn {x : Nat} {ops : Array Oper} (hd : yei E md ops = true) (hr : ydc ops.toList ops.toList fun rs => yaq E md (ancT ops.toList []) 0 rs [] s h fun s' h' => Q .normal s' h') : RunP E md (.region x ops true) s h Q := .of ⟨hd, hr⟩
theorem RunP.condT {c : Operand} {a b : Code} (hc : opd E s c = .bool true) (hr : RunP E md a s h Q) : RunP E md (.cond c a b) s h Q := by
 obtain ⟨e, s1, g1, h1, h2⟩ := hr.ok
 exact ⟨e, s1, g1, h1, h2.imp fun n e1 => by simp only [yap, hc, if_true]; exact e1⟩
theorem RunP.condF {c : Operand} {a b : Code} (hc : opd E s c = .bool false) (hr : RunP E md b s h Q) : RunP E md (.cond c a b) s h Q := by
 obtain ⟨e, s1, g1, h1, h2⟩ := hr.ok
 exact ⟨e, s1, g1, h1, h2.imp fun n e1 => by simp only [yap, hc]; rw [if_neg (by simp)]; exact e1⟩
theorem RunP.cond {c : Operand} {a b : Code} {t : Bool} (hc : opd E s c = .bool t) (ht : t = true → RunP E md a s h Q) (hf : t = false → RunP E md b s h Q) : RunP E md (.cond c a b) s h Q := by
 cases t
 ·exact .condF hc (hf rfl)
 ·exact .condT hc (ht rfl)
theorem RunP.skip (hr : Q .normal s h) : RunP E md .skip s h Q := .of hr
theorem RunP.exit {i : Nat} (hr : Q (.exit i) s h) : RunP E md (.exit i) s h Q := .of hr
theorem RunP.label {l : Nat} (hr : Q .normal s h) : RunP E md (.label l) s h Q := ⟨⟨_, _, _, hr, .all fun n => rfl⟩⟩
theorem RunP.scope {c : Code} (hr : RunP E md c s h Q) : RunP E md (.scope c) s h Q := by
 obtain ⟨e, s', g, h1, h2⟩ := hr.ok
 exact ⟨⟨e, s', g, h1, h2.imp fun n e => e⟩⟩
theorem RunP.ret (hr : Q .ret s h) : RunP E md .ret s h Q := .of hr
theorem RunP.loop {c : Code} (I : Nat → List V → Heap → Prop) (step : ∀ k s h, I k s h → RunP E md c s h fun e s' h' => match e with | .normal => ∃ j, j < k ∧ I j s' h' | e => Q e s' h') (k : Nat) (hI : I k s h) : RunP E md (.loop c) s h Q := by
 have key : ∀ k s h, I k s h → ∃ e s' g, Q e s' g ∧ ∃ N, ∀ n m, N ≤ n → N ≤ m → ydy (fun s h => yap E md (callN E n) n c s h) m s h = some (e, s', g) := by
  intro k
  induction k using Nat.strongRecOn with
  | _ k ih =>
   intro s h hI
   obtain ⟨e, s', g, h1, N, h2⟩ := (step k s h hI).ok
   cases e with
   | normal =>
    obtain ⟨j, hj, hIj⟩ := h1
    obtain ⟨e, s2, g2, k1, M, k2⟩ := ih j hj s' g hIj
    refine ⟨e, s2, g2, k1, max N M + 1, fun n m hn hm => ?_⟩
    obtain ⟨m, rfl⟩ : ∃ m', m = m' + 1 := ⟨m - 1, by omega⟩
    simp only [ydy, h2 n (by omega), Option.bind_some]
    exact k2 n m (by omega) (by omega)
   | _ =>
    refine ⟨_, s', g, h1, N + 1, fun n m hn hm => ?_⟩
    obtain ⟨m, rfl⟩ : ∃ m', m = m' + 1 := ⟨m - 1, by omega⟩
    simp only [ydy, h2 n (by omega), Option.bind_some]
 obtain ⟨e, s', g, h1, N, h2⟩ := key k s h hI
 exact ⟨e, s', g, h1, N, fun n hn => by simp only [yap]; exact h2 n n hn hn⟩
def endK (E : Env) (d : FnD) (K : V → Heap → Prop) (e : Ex) (s' : List V) (h' : Heap) : Prop := match e with
 | .normal | .ret => getDf s' = und ∧ bindK (ybp E d.res s' h') fun v => K v h'
 | _ => False
theorem fnP_ok {d : FnD} {args : List V} {K : V → Heap → Prop} (h0 : args.length ≤ d.nt) (hr : yas (initT d.nt args) fun s => RunP E d.md d.body s h (endK E d K)) : ∃ v g, K v g ∧ Evt fun n => evFn E (callN E n) n d args h = some (.val v g) := by
 rw [yat] at hr
 obtain ⟨e, s', g, h1, h2⟩ := hr.ok
 have key : (e = .normal ∨ e = .ret) ∧ getDf s' = und ∧ bindK (ybp E d.res s' g) fun v => K v g := by
  cases e with
  | normal => exact ⟨.inl rfl, h1⟩
  | ret => exact ⟨.inr rfl, h1⟩
  | _ => exact (show False from h1).elim
 obtain ⟨he, k1, k2⟩ := key
 obtain ⟨v, hv, hK⟩ := ybx k2
 refine ⟨v, g, hK, h2.imp fun n hn => ?_⟩
 unfold evFn
 rw [if_pos h0, hn]
 rcases he with rfl | rfl
 ·simp only [Option.bind_some]; rw [if_pos k1, hv]; rfl
 ·simp only [Option.bind_some]; rw [if_pos k1, hv]; rfl
theorem HasP.own {f : FuncId} {args a : List V} {d : FnD} {v : V} (h1 : args.mapM (fz E h ycb) = some a) (h2 : E.lib f = none) (h3 : E.fn f = some d) (h0 : a.length ≤ d.nt)
  (h4 : yas (initT d.nt a) fun s => RunP E d.md d.body s [] (endK E d fun v' h' => fz E h' ycb v' = some v ∧ (V.norefs args || v.flat) = true)) : Has E .own f args h (.val v h) := by
 obtain ⟨v', g, ⟨h5, h6⟩, N, h7⟩ := fnP_ok h0 h4
 refine ⟨N + 1, fun n hn => ?_⟩
 obtain ⟨n, rfl⟩ : ∃ n', n = n' + 1 := ⟨n - 1, by omega⟩
 simp only [callN, evAny, h1, Option.bind_some, h2, h3, h7 n (by omega), yea, h5]
 rw [if_pos h6]
theorem HasP.sharedE {f : FuncId} {args : List V} {d : FnD} {R : V → Heap → Prop} (h3 : E.fn f = some d) (h0 : args.length ≤ d.nt) (h4 : yas (initT d.nt args) fun s => RunP E d.md d.body s h (endK E d R)) : ∃ v g, Has E .shared f args h (.val v g) ∧ R v g := by
 obtain ⟨v', g', hR, N, h7⟩ := fnP_ok h0 h4
 refine ⟨v', g', ⟨N + 1, fun n hn => ?_⟩, hR⟩
 obtain ⟨n, rfl⟩ : ∃ n', n = n' + 1 := ⟨n - 1, by omega⟩
 simp only [callN, evAny, h3, Option.bind_some, h7 n (by omega)]
end
set_option linter.defProp false
def jA := @RunP.seq
def jB := @RunP.region
def jC := @RunP.condT
def jD := @RunP.condF
def jE := @RunP.skip
def jF := @RunP.block
def jG := @RunP.exit
def jH := @RunP.ret
theorem jN {P A B : Prop} (h : ¬ P) (b : B) : (P → A) ∧ B := ⟨fun w => absurd w h, b⟩
theorem jY {Q A B : Prop} (a : A) (h : ¬ Q) : A ∧ (Q → B) := ⟨a, fun w => absurd w h⟩
theorem jT {p : Prop} [Decidable p] (h : decide p = true) : p := of_decide_eq_true h
theorem jU {p : Prop} [Decidable p] (h : decide p = false) : ¬ p := of_decide_eq_false h
theorem jO (b : Bool) : (b || true) = true := Bool.or_true b
theorem jI {a b : Prop} (x : a) (y : b) : a ∧ b := ⟨x, y⟩
class Stp (E : Env) (md : Go.FuncId → Sb.Mode) (c : Go.Code) (s : List V) (h : Heap) (Q : Ex → List V → Heap → Prop) (P : outParam Prop) : Prop where
 ok : P → RunP E md c s h Q
def condS (v : V) (A B : Prop) : Prop := match v with | .bool true => A | .bool false => B | _ => False
section
variable {E : Env} {md : Go.FuncId → Sb.Mode} {s : List V} {h : Heap} {Q : Ex → List V → Heap → Prop}
instance {a b : Go.Code} : Stp E md (.seq a b) s h Q (RunP E md a s h (seqK (fun s' h' => RunP E md b s' h' Q) Q)) := ⟨RunP.seq⟩
instance {i : Nat} {c : Go.Code} : Stp E md (.block i c) s h Q (RunP E md c s h (yhx i Q)) := ⟨RunP.block⟩
instance : Stp E md .skip s h Q (Q .normal s h) := ⟨RunP.skip⟩
instance {i : Nat} : Stp E md (.exit i) s h Q (Q (.exit i) s h) := ⟨RunP.exit⟩
theorem condS_ok {c : Go.Operand} {a b : Go.Code} (p : condS (opd E s c) (RunP E md a s h Q) (RunP E md b s h Q)) : RunP E md (.cond c a b) s h Q := by
 unfold condS at p
 split at p
 ·rename_i e; exact RunP.condT e p
 ·rename_i e; exact RunP.condF e p
 ·exact p.elim
instance {c : Go.Operand} {a b : Go.Code} : Stp E md (.cond c a b) s h Q (condS (opd E s c) (RunP E md a s h Q) (RunP E md b s h Q)) := ⟨condS_ok⟩
theorem jZ {c : Go.Code} {P : Prop} [i : Stp E md c s h Q P] (p : P) : RunP E md c s h Q := i.ok p
end
theorem jW {p q : Prop} (h : q) (k : q → p := by intro h; (repeat first|apply jZ|apply jA); exact h) : p := k h
theorem jV {p q : Prop} (h : q) (k : q → p := by intro h; (repeat first|apply jZ|apply jA|apply jB|apply jH); exact h) : p := k h
end Go.Sb

/- A region whose order is drawn, an operation at a time. -/

namespace Go.Sb
theorem drawR {c d : Prop} [Decidable c] [Decidable d] {A B C : Prop} (h1 : ¬ c) (h2 : d) (h : B) : if c then A else if d then B else C := by
 rw [if_neg h1, if_pos h2]; exact h
theorem drawZ {c d : Prop} [Decidable c] [Decidable d] {A B C : Prop} (h1 : ¬ c) (h2 : ¬ d) (h : C) : if c then A else if d then B else C := by
 rw [if_neg h1, if_neg h2]; exact h
theorem drawW {E : Env} {md : FuncId → Mode} {c : Prop} [Decidable c] {A : List Nat} {h : Heap} {acc : List (Nat × Op × List V × V)} {K B : Prop} (h1 : c) (h2 : acc.all (fun p => A.contains p.1) = true) (hk : K) : if c then accK E md A h acc K else B := by
 rw [if_pos h1]
 clear h1
 induction acc with
 | nil => exact hk
 | cons p ps ih =>
  simp only [List.all_cons, Bool.and_eq_true] at h2
  unfold accK
  rw [if_pos h2.1]
  exact ih h2.2
theorem ybd {s : List V} {n : Nat} (h : s.length = n) : s = (List.range n).map fun j => s.getD j und := by
 subst h
 apply List.ext_getElem (by simp)
 intro i h1 h2
 simp [h1]
end Go.Sb

/- A function of its own memory whose answer the proof finds ars it goes. -/

namespace Go.Sb
theorem HasP.ownE {E : Env} {f : FuncId} {args a : List V} {h : Heap} {d : FnD} {R : V → Prop} (h1 : args.mapM (fz E h ycb) = some a) (h2 : E.lib f = none) (h3 : E.fn f = some d) (h0 : a.length ≤ d.nt)
  (h4 : yas (initT d.nt a) fun s => RunP E d.md d.body s [] (endK E d fun v' h' => ∃ v, fz E h' ycb v' = some v ∧ (V.norefs args || v.flat) = true ∧ R v)) : ∃ v, Has E .own f args h (.val v h) ∧ R v := by
 obtain ⟨v', g, ⟨v, h5, h6, hR⟩, N, h7⟩ := fnP_ok h0 h4
 refine ⟨v, ⟨N + 1, fun n hn => ?_⟩, hR⟩
 obtain ⟨n, rfl⟩ : ∃ n', n = n' + 1 := ⟨n - 1, by omega⟩
 simp only [callN, evAny, h1, Option.bind_some, h2, h3, h7 n (by omega), yea, h5]
 rw [if_pos h6]
end Go.Sb
