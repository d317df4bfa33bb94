/- Functions with a deferred closure: read off their code. -/
import Derived.Test.YtekmafoicobphaaGreatDoorSbLib
import Derived.Test.YtekmafoicobphaaGreatDoorSbBytes
set_option linter.unusedVariables false
set_option linter.unusedSimpArgs false
namespace Go.Sb
def yfi : Nat → Code → List Code × Code
 | k + 1, .seq a b => (a :: (yfi k b).1, (yfi k b).2)
 | _, c => ([], c)
theorem yqc : ∀ (k : Nat) (c : Code), seqs (yfi k c).1 (yfi k c).2 = c
 | 0, c => by unfold yfi; rfl
 | k + 1, c => by
  cases c <;> simp only [yfi, seqs]
  rw [yqc k]
def isMk : Op → Bool
 | .makeFunc (.func _) ⟨[]⟩ _ => true
 | _ => false
def ymv (k : Nat) (d gd : FnD) (g : FuncId) : Option GuardD :=
 match (yfi k d.body).2, gd.body with
 | .seq (.region id ⟨[m, ⟨dst, .defer ⟨.value (.tmp t), ⟨[]⟩, ts⟩, ty, pos, after, none⟩]⟩ false) rest, .seq (.region gid ⟨[⟨rdst, .call ⟨.builtin .recover, ⟨[]⟩, rts⟩, rty, rpos, rafter, none⟩]⟩ false) grest =>
  if m.guard = none ∧ isMk m.op = true ∧ ((yfi k d.body).1.all ydc = true ∧ ydc rest = true ∧ ydc grest = true) then some { d := d, first := (yfi k d.body).1, id := id, mkf := m, df := ⟨dst, .defer ⟨.value (.tmp t), #[], ts⟩, ty, pos, after, none⟩, t := t, rest := rest, g := g, gd := gd, gid := gid, rc := ⟨rdst, .call ⟨.builtin .recover, #[], rts⟩, rty, rpos, rafter, none⟩, grest := grest } else none
 | _, _ => none
theorem yuz {P : Program} {k : Nat} {d gd : FnD} {f g : FuncId} {G : GuardD} (h : ymv k d gd g = some G) (h1 : FnOk P f d) (h2 : FnOk P g gd) : GuardOk P f G := by
 unfold ymv at h
 split at h
 ·rename_i e1 e2
  split at h
  ·rename_i hm
   cases h
   obtain ⟨hm1, hm2, hm3, hm4, hm5⟩ := hm
   refine ⟨h1, h2, ?_, e2, ⟨hm1, ?_⟩, ⟨fun x hx => List.all_eq_true.1 hm3 x hx, hm4, hm5⟩, ⟨rfl, _, rfl⟩, ⟨rfl, _, rfl⟩⟩
   case refine_2 =>
    revert hm2; unfold isMk; split
    ·rename_i f cs heq; intro _; exact ⟨f, cs, heq⟩
    ·intro h; cases h
   have := yqc k d.body
   rw [e1] at this
   exact this.symm
  ·cases h
 ·cases h
end Go.Sb

/- 'run', a step at a time: for great functions (one rule a statement; nothing is unfolded ahead of its turn). -/

namespace Go.Sb
structure RunP (E : Env) (md : FuncId → Mode) (c : Code) (s : List V) (h : Heap) (Q : Ex → List V → Heap → Prop) : Prop where
 ok : ∃ e s' g, Q e s' g ∧ Evt fun n => yba E md (callN E n) n c s h = some (e, s', g)
section
variable {E : Env} {md : FuncId → Mode} {s : List V} {h : Heap} {Q : Ex → List V → Heap → Prop}
theorem RunP.of {c : Code} (hr : run E md c s h Q) : RunP E md c s h Q := ⟨run_ok hr⟩
theorem RunP.seq {a b : Code} (hr : RunP E md a s h (seqK (fun s' h' => RunP E md b s' h' Q) Q)) : RunP E md (.seq a b) s h Q := by
 obtain ⟨e, s1, g1, h1, h2⟩ := hr.ok
 cases e with
 | normal =>
  obtain ⟨e, s2, g2, k1, k2⟩ := (show RunP E md b s1 g1 Q from h1).ok
  exact ⟨e, s2, g2, k1, h2.and k2 fun n e1 e2 => by simp only [yba, e1, Option.bind_some]; exact e2⟩
 | _ => exact ⟨_, s1, g1, h1, h2.imp fun n e1 => by simp only [yba, e1, Option.bind_some]⟩
theorem RunP.block {id : Nat} {c : Code} (hr : RunP E md c s h (yia id Q)) : RunP E md (.block id c) s h Q := by
 obtain ⟨e, s1, g1, h1, h2⟩ := hr.ok
 cases e with
 | exit i =>
  simp only [yia] at h1
  by_cases hi : i = id
  ·rw [if_pos hi] at h1
   exact ⟨_, s1, g1, h1, h2.imp fun n e1 => by simp only [yba, e1, Option.bind_some]; rw [if_pos hi]⟩
  ·rw [if_neg hi] at h1
   exact ⟨_, s1, g1, h1, h2.imp fun n e1 => by simp only [yba, e1, Option.bind_some]; rw [if_neg hi]⟩
 | _ => exact ⟨_, s1, g1, h1, h2.imp fun n e1 => by simp only [yba, e1, Option.bind_some]⟩
theorem RunP.region {x : Nat} {ops : Array Oper} (hr : ydq ops.toList ops.toList fun rs => yai E md rs s h fun s' h' => Q .normal s' h') : RunP E md (.region x ops false) s h Q := .of hr
theorem RunP.drawn {x : Nat} {ops : Array Oper} (hd : yff E md ops = true) (hr : ydq ops.toList ops.toList fun rs => yar E md (ancT ops.toList []) 0 rs [] s h fun s' h' => Q .normal s' h') : RunP E md (.region x ops true) s h Q := .of ⟨hd, hr⟩
theorem RunP.condT {c : Operand} {a b : Code} (hc : opd E s c = .bool true) (hr : RunP E md a s h Q) : RunP E md (.cond c a b) s h Q := by
 obtain ⟨e, s1, g1, h1, h2⟩ := hr.ok
 exact ⟨e, s1, g1, h1, h2.imp fun n e1 => by simp only [yba, hc, if_true]; exact e1⟩
theorem RunP.condF {c : Operand} {a b : Code} (hc : opd E s c = .bool false) (hr : RunP E md b s h Q) : RunP E md (.cond c a b) s h Q := by
 obtain ⟨e, s1, g1, h1, h2⟩ := hr.ok
 exact ⟨e, s1, g1, h1, h2.imp fun n e1 => by simp only [yba, hc]; rw [if_neg (by simp)]; exact e1⟩
theorem RunP.cond {c : Operand} {a b : Code} {t : Bool} (hc : opd E s c = .bool t) (ht : t = true → RunP E md a s h Q) (hf : t = false → RunP E md b s h Q) : RunP E md (.cond c a b) s h Q := by
 cases t
 ·exact .condF hc (hf rfl)
 ·exact .condT hc (ht rfl)
theorem RunP.skip (hr : Q .normal s h) : RunP E md .skip s h Q := .of hr
theorem RunP.exit {i : Nat} (hr : Q (.exit i) s h) : RunP E md (.exit i) s h Q := .of hr
theorem RunP.label {l : Nat} (hr : Q .normal s h) : RunP E md (.label l) s h Q := ⟨⟨_, _, _, hr, .all fun n => rfl⟩⟩
theorem RunP.scope {c : Code} (hr : RunP E md c s h Q) : RunP E md (.scope c) s h Q := by
 obtain ⟨e, s', g, h1, h2⟩ := hr.ok
 exact ⟨⟨e, s', g, h1, h2.imp fun n e => e⟩⟩
theorem RunP.ret (hr : Q .ret s h) : RunP E md .ret s h Q := .of hr
theorem RunP.loop {c : Code} (I : Nat → List V → Heap → Prop) (step : ∀ k s h, I k s h → RunP E md c s h fun e s' h' => match e with | .normal => ∃ j, j < k ∧ I j s' h' | e => Q e s' h') (k : Nat) (hI : I k s h) : RunP E md (.loop c) s h Q := by
 have key : ∀ k s h, I k s h → ∃ e s' g, Q e s' g ∧ ∃ N, ∀ n m, N ≤ n → N ≤ m → yeh (fun s h => yba E md (callN E n) n c s h) m s h = some (e, s', g) := by
  intro k
  induction k using Nat.strongRecOn with
  | _ k ih =>
   intro s h hI
   obtain ⟨e, s', g, h1, N, h2⟩ := (step k s h hI).ok
   cases e with
   | normal =>
    obtain ⟨j, hj, hIj⟩ := h1
    obtain ⟨e, s2, g2, k1, M, k2⟩ := ih j hj s' g hIj
    refine ⟨e, s2, g2, k1, max N M + 1, fun n m hn hm => ?_⟩
    obtain ⟨m, rfl⟩ : ∃ m', m = m' + 1 := ⟨m - 1, by omega⟩
    simp only [yeh, h2 n (by omega), Option.bind_some]
    exact k2 n m (by omega) (by omega)
   | _ =>
    refine ⟨_, s', g, h1, N + 1, fun n m hn hm => ?_⟩
    obtain ⟨m, rfl⟩ : ∃ m', m = m' + 1 := ⟨m - 1, by omega⟩
    simp only [yeh, h2 n (by omega), Option.bind_some]
 obtain ⟨e, s', g, h1, N, h2⟩ := key k s h hI
 exact ⟨e, s', g, h1, N, fun n hn => by simp only [yba]; exact h2 n n hn hn⟩
def endK (E : Env) (d : FnD) (K : V → Heap → Prop) (e : Ex) (s' : List V) (h' : Heap) : Prop := match e with
 | .normal | .ret => getDf s' = und ∧ bindK (ycn E d.res s' h') fun v => K v h'
 | _ => False
theorem fnP_ok {d : FnD} {args : List V} {K : V → Heap → Prop} (h0 : args.length ≤ d.nt) (hr : ybc (initT d.nt args) fun s => RunP E d.md d.body s h (endK E d K)) : ∃ v g, K v g ∧ Evt fun n => evFn E (callN E n) n d args h = some (.val v g) := by
 rw [ybh] at hr
 obtain ⟨e, s', g, h1, h2⟩ := hr.ok
 have key : (e = .normal ∨ e = .ret) ∧ getDf s' = und ∧ bindK (ycn E d.res s' g) fun v => K v g := by
  cases e with
  | normal => exact ⟨.inl rfl, h1⟩
  | ret => exact ⟨.inr rfl, h1⟩
  | _ => exact (show False from h1).elim
 obtain ⟨he, k1, k2⟩ := key
 obtain ⟨v, hv, hK⟩ := ycg k2
 refine ⟨v, g, hK, h2.imp fun n hn => ?_⟩
 unfold evFn
 rw [if_pos h0, hn]
 rcases he with rfl | rfl
 ·simp only [Option.bind_some]; rw [if_pos k1, hv]; rfl
 ·simp only [Option.bind_some]; rw [if_pos k1, hv]; rfl
theorem HasP.own {f : FuncId} {args a : List V} {d : FnD} {v : V} (h1 : args.mapM (fz E h ybq) = some a) (h2 : E.lib f = none) (h3 : E.fn f = some d) (h0 : a.length ≤ d.nt)
  (h4 : ybc (initT d.nt a) fun s => RunP E d.md d.body s [] (endK E d fun v' h' => fz E h' ybq v' = some v ∧ (V.norefs args || v.flat) = true)) : Has E .own f args h (.val v h) := by
 obtain ⟨v', g, ⟨h5, h6⟩, N, h7⟩ := fnP_ok h0 h4
 refine ⟨N + 1, fun n hn => ?_⟩
 obtain ⟨n, rfl⟩ : ∃ n', n = n' + 1 := ⟨n - 1, by omega⟩
 simp only [callN, evAny, h1, Option.bind_some, h2, h3, h7 n (by omega), yej, h5]
 rw [if_pos h6]
theorem HasP.sharedE {f : FuncId} {args : List V} {d : FnD} {R : V → Heap → Prop} (h3 : E.fn f = some d) (h0 : args.length ≤ d.nt) (h4 : ybc (initT d.nt args) fun s => RunP E d.md d.body s h (endK E d R)) : ∃ v g, Has E .shared f args h (.val v g) ∧ R v g := by
 obtain ⟨v', g', hR, N, h7⟩ := fnP_ok h0 h4
 refine ⟨v', g', ⟨N + 1, fun n hn => ?_⟩, hR⟩
 obtain ⟨n, rfl⟩ : ∃ n', n = n' + 1 := ⟨n - 1, by omega⟩
 simp only [callN, evAny, h3, Option.bind_some, h7 n (by omega)]
end
set_option linter.defProp false
def jA := @RunP.seq
def jB := @RunP.region
def jC := @RunP.condT
def jD := @RunP.condF
def jE := @RunP.skip
def jF := @RunP.block
def jG := @RunP.exit
def jH := @RunP.ret
theorem jN {P A B : Prop} (h : ¬ P) (b : B) : (P → A) ∧ B := ⟨fun w => absurd w h, b⟩
theorem jY {Q A B : Prop} (a : A) (h : ¬ Q) : A ∧ (Q → B) := ⟨a, fun w => absurd w h⟩
theorem jT {p : Prop} [Decidable p] (h : decide p = true) : p := of_decide_eq_true h
theorem jU {p : Prop} [Decidable p] (h : decide p = false) : ¬ p := of_decide_eq_false h
theorem jO (b : Bool) : (b || true) = true := Bool.or_true b
theorem jI {a b : Prop} (x : a) (y : b) : a ∧ b := ⟨x, y⟩
class Stp (E : Env) (md : Go.FuncId → Sb.Mode) (c : Go.Code) (s : List V) (h : Heap) (Q : Ex → List V → Heap → Prop) (P : outParam Prop) : Prop where
 ok : P → RunP E md c s h Q
def condS (v : V) (A B : Prop) : Prop := match v with | .bool true => A | .bool false => B | _ => False
section
variable {E : Env} {md : Go.FuncId → Sb.Mode} {s : List V} {h : Heap} {Q : Ex → List V → Heap → Prop}
instance {a b : Go.Code} : Stp E md (.seq a b) s h Q (RunP E md a s h (seqK (fun s' h' => RunP E md b s' h' Q) Q)) := ⟨RunP.seq⟩
instance {i : Nat} {c : Go.Code} : Stp E md (.block i c) s h Q (RunP E md c s h (yia i Q)) := ⟨RunP.block⟩
instance : Stp E md .skip s h Q (Q .normal s h) := ⟨RunP.skip⟩
instance {i : Nat} : Stp E md (.exit i) s h Q (Q (.exit i) s h) := ⟨RunP.exit⟩
theorem condS_ok {c : Go.Operand} {a b : Go.Code} (p : condS (opd E s c) (RunP E md a s h Q) (RunP E md b s h Q)) : RunP E md (.cond c a b) s h Q := by
 unfold condS at p
 split at p
 ·rename_i e; exact RunP.condT e p
 ·rename_i e; exact RunP.condF e p
 ·exact p.elim
instance {c : Go.Operand} {a b : Go.Code} : Stp E md (.cond c a b) s h Q (condS (opd E s c) (RunP E md a s h Q) (RunP E md b s h Q)) := ⟨condS_ok⟩
theorem jZ {c : Go.Code} {P : Prop} [i : Stp E md c s h Q P] (p : P) : RunP E md c s h Q := i.ok p
end
theorem jW {p q : Prop} (h : q) (k : q → p := by intro h; (repeat first|apply jZ|apply jA); exact h) : p := k h
theorem jV {p q : Prop} (h : q) (k : q → p := by intro h; (repeat first|apply jZ|apply jA|apply jB|apply jH); exact h) : p := k h
end Go.Sb

/- A region whose order is drawn, an operation at a time. -/

namespace Go.Sb
theorem ybb {s : List V} {n : Nat} (h : s.length = n) : s = (List.range n).map fun j => s.getD j und := by
 subst h
 apply List.ext_getElem (by simp)
 intro i h1 h2
 simp [h1]
end Go.Sb

/- A function of its own memory whose answer the proof finds as it goes. -/

namespace Go.Sb
theorem HasP.ownE {E : Env} {f : FuncId} {args a : List V} {h : Heap} {d : FnD} {R : V → Prop} (h1 : args.mapM (fz E h ybq) = some a) (h2 : E.lib f = none) (h3 : E.fn f = some d) (h0 : a.length ≤ d.nt)
  (h4 : ybc (initT d.nt a) fun s => RunP E d.md d.body s [] (endK E d fun v' h' => ∃ v, fz E h' ybq v' = some v ∧ (V.norefs args || v.flat) = true ∧ R v)) : ∃ v, Has E .own f args h (.val v h) ∧ R v := by
 obtain ⟨v', g, ⟨v, h5, h6, hR⟩, N, h7⟩ := fnP_ok h0 h4
 refine ⟨v, ⟨N + 1, fun n hn => ?_⟩, hR⟩
 obtain ⟨n, rfl⟩ : ∃ n', n = n' + 1 := ⟨n - 1, by omega⟩
 simp only [callN, evAny, h1, Option.bind_some, h2, h3, h7 n (by omega), yej, h5]
 rw [if_pos h6]
end Go.Sb

/- Panics, symbolically: regions whose last run operation panics, functions that panic, a function with a deferred closure. -/

namespace Go.Sb
def CallP (E : Env) (m : Mode) (f : FuncId) (args : List V) (h : Heap) (K : V → Heap → Prop) : Prop := ∃ v g, Has E m f args h (.pan v g) ∧ K v g
theorem CallP.of {E : Env} {m : Mode} {f : FuncId} {args : List V} {h : Heap} {K : V → Heap → Prop} {v : V} {g : Heap} (e : Has E m f args h (.pan v g)) (k : K v g) : CallP E m f args h K := ⟨v, g, e, k⟩
section
variable {E : Env} {md : FuncId → Mode} {s : List V} {h : Heap} {Q : Ex → List V → Heap → Prop}
theorem RunP.mono {a : Code} {Q' : Ex → List V → Heap → Prop} (h1 : RunP E md a s h Q') (h2 : ∀ e s' h', Q' e s' h' → Q e s' h') : RunP E md a s h Q := by
 obtain ⟨e, s1, g1, k1, k2⟩ := h1.ok
 exact ⟨e, s1, g1, h2 _ _ _ k1, k2⟩
def RunPre (E : Env) (md : FuncId → Mode) (K : List V → Heap → Prop) : List Code → List V → Heap → Prop
 | [], s, h => K s h
 | c :: cs, s, h => RunP E md c s h fun e s' h' => e = .normal ∧ RunPre E md K cs s' h'
theorem RunPre.ok {K : List V → Heap → Prop} : ∀ {cs : List Code} {s : List V} {h : Heap}, RunPre E md K cs s h → ∃ s' g, K s' g ∧ Evt fun n => evPre E md (callN E n) n cs s h = some (s', g)
 | [], s, h, hr => ⟨s, h, hr, .all fun n => rfl⟩
 | c :: cs, s, h, hr => by
  obtain ⟨e, s1, g1, ⟨rfl, h1⟩, h2⟩ := RunP.ok hr
  obtain ⟨s', g, k1, k2⟩ := RunPre.ok h1
  exact ⟨s', g, k1, h2.and k2 fun n e1 e2 => by simp only [evPre, e1, Option.bind_some]; exact e2⟩
def DefK (E : Env) (G : GuardD) (caps : List V) (pv : V) (h : Heap) (K : Heap → Prop) : Prop :=
 caps.length ≤ G.gd.nt ∧ ybc (putT (initT G.gd.nt caps) G.rc.dst pv) fun s => RunP E G.gd.md G.grest s h fun e s' h' => (e = .normal ∨ e = .ret) ∧ bindK (ycn E G.gd.res s' h') fun _ => K h'
theorem DefK.ok {G : GuardD} {caps : List V} {pv : V} {K : Heap → Prop} (hr : DefK E G caps pv h K) : ∃ h5, K h5 ∧ Evt fun n => evDef E (callN E n) n G caps pv h = some h5 := by
 obtain ⟨h0, hr⟩ := hr
 rw [ybh] at hr
 obtain ⟨e, s', g, ⟨he, h1⟩, h2⟩ := hr.ok
 obtain ⟨v, hv, hK⟩ := ycg h1
 refine ⟨g, hK, h2.imp fun n e1 => ?_⟩
 unfold evDef
 rw [if_pos h0, e1]
 rcases he with rfl | rfl <;> (simp only [Option.bind_some]; rw [hv]; rfl)
def guardK (E : Env) (G : GuardD) (caps : List V) (R : V → Heap → Prop) (e : Ex) (s4 : List V) (h4 : Heap) : Prop := match e with
 | .normal | .ret => DefK E G caps .nili h4 fun h5 => bindK (ycn E G.d.res s4 h5) fun v => R v h5
 | .panic pv => DefK E G caps pv h4 fun h5 => bindK (ycn E G.d.res s4 h5) fun v => R v h5
 | .exit _ => False
theorem HasP.guard {f : FuncId} {args : List V} {G : GuardD} {R : V → Heap → Prop} (h1 : E.fn f = none) (h2 : E.gd f = some G) (h0 : args.length ≤ G.d.nt)
  (hp : ybc (initT G.d.nt args) fun s => RunPre E G.d.md (fun s1 g1 => runOp E G.d.md G.mkf.op s1 g1 fun fv g2 => ybc (putT s1 G.mkf.dst fv) fun s2 => ∃ caps, getT s2 G.t = .fn (.func G.g) caps ∧
   ybc (putT s2 G.df.dst und) fun s3 => RunP E G.d.md G.rest s3 g2 (guardK E G caps R)) G.first s h) : ∃ v g, Has E .shared f args h (.val v g) ∧ R v g := by
 rw [ybh] at hp
 obtain ⟨s1, g1, hp, N1, k1⟩ := RunPre.ok hp
 obtain ⟨fv, g2, hp, N2, k2⟩ := yhx hp
 rw [ybh] at hp
 obtain ⟨caps, hcl, hp⟩ := hp
 rw [ybh] at hp
 obtain ⟨e, s4, g4, hp, N3, k3⟩ := hp.ok
 have fin : ∀ (pv : V), (DefK E G caps pv g4 fun h5 => bindK (ycn E G.d.res s4 h5) fun v => R v h5) → ((e = .normal ∨ e = .ret) ∧ pv = .nili ∨ e = .panic pv) → ∃ v g, Has E .shared f args h (.val v g) ∧ R v g := by
  intro pv hd he
  obtain ⟨h5, k5, N4, k4⟩ := DefK.ok hd
  obtain ⟨v, hv, hR⟩ := ycg k5
  refine ⟨v, h5, ⟨N1 + N2 + N3 + N4 + 1, fun n hn => ?_⟩, hR⟩
  obtain ⟨n, rfl⟩ : ∃ n', n = n' + 1 := ⟨n - 1, by omega⟩
  simp only [callN, evAny, h1, h2, Option.bind_some]
  unfold yjg
  rw [if_pos h0, k1 n (by omega)]
  simp only [Option.bind_some]
  rw [k2 n (by omega)]
  simp only [Option.bind_some, hcl, if_true]
  rw [k3 n (by omega)]
  rcases he with ⟨rfl | rfl, rfl⟩ | rfl <;> (simp only [Option.bind_some]; rw [k4 n (by omega)]; simp only [Option.bind_some]; rw [hv]; rfl)
 cases e with
 | normal => exact fin .nili hp (.inl ⟨.inl rfl, rfl⟩)
 | ret => exact fin .nili hp (.inl ⟨.inr rfl, rfl⟩)
 | panic pv => exact fin pv hp (.inr rfl)
 | exit i => exact (show False from hp).elim
end
end Go.Sb

/- A range over a function, a step at a time. -/

namespace Go.Sb
section
variable {E : Env} {md : FuncId → Mode} {s : List V} {h : Heap} {Q : Ex → List V → Heap → Prop}
theorem RunP.range {f : Operand} {ps : Array Tmp} {assign body : Code} {g : FuncId} {caps : List V} (ho : opd E s f = .fn (.func g) caps)
  (hc : CallK E .shared g (.it h.length :: caps) (push h (.siter ⟨.ready, none, s.tail, ps.toList, assign, body, md⟩)) fun _ h1 => ∃ e s' g', yln h.length s h1 = some (e, s', g') ∧ Q e s' g') : RunP E md (.rangeFunc f ps assign body) s h Q := by
 obtain ⟨v, g1, hh, e, s', g', he, hq⟩ := hc
 refine ⟨e, s', g', hq, hh.imp fun n hn => ?_⟩
 simp only [yba, ho, hn, Option.bind_some, he]
def roundK (b : Nat) (R : OpR → Prop) (e : Ex) (_ : List V) (h : Heap) : Prop := ∃ L, h[b]? = some (.siter L) ∧ match e with
 | .normal => R (.val (.bool true) (h.set b (.siter { L with st := .ready, pend := none })))
 | .ret => R (.val (.bool false) (h.set b (.siter { L with st := .done, pend := some none })))
 | .exit i => R (.val (.bool false) (h.set b (.siter { L with st := .done, pend := some (some i) })))
 | .panic _ => False
theorem Has.round {b : Nat} {args : List V} {L : LoopD} {R : OpR → Prop} (hb : h[b]? = some (.siter L)) (hl : args.length = L.params.length) (hpa : ydc L.assign = true) (hpb : ydc L.body = true)
  (hr : RunP E L.md L.assign ((L.params.zip args).foldl (fun s p => setT s p.1 p.2) (und :: L.tmps)) h fun e s1 h1 => e = .normal ∧ ∃ L1, h1[b]? = some (.siter L1) ∧ L1.st = .ready ∧ RunP E L.md L.body s1 (h1.set b (.siter { L1 with st := .busy })) (roundK b R)) :
  ∃ r, Has E .round b args h r ∧ R r := by
 obtain ⟨e, s1, h1, ⟨rfl, L1, q1, q2, hr2⟩, N, hn⟩ := hr.ok
 obtain ⟨e2, s2, h2, ⟨L2, q3, hR⟩, M, hm⟩ := hr2.ok
 have key : ∀ r, (∀ n, max N M ≤ n → ygn E (callN E n) n b args h = some r) → Has E .round b args h r := fun r hk => ⟨max N M + 1, fun n hle => by
  obtain ⟨n, rfl⟩ : ∃ m, n = m + 1 := ⟨n - 1, by omega⟩
  simp only [callN]; exact hk n (by omega)⟩
 have base : ∀ n, max N M ≤ n → ygn E (callN E n) n b args h = (match (some (e2, s2, h2) : Res) with
  | some (.normal, _, h2) => (match h2[b]? with | some (.siter L2) => some (OpR.val (.bool true) (h2.set b (.siter { L2 with st := .ready, pend := none }))) | _ => none)
  | some (.ret, _, h2) => (match h2[b]? with | some (.siter L2) => some (.val (.bool false) (h2.set b (.siter { L2 with st := .done, pend := some none }))) | _ => none)
  | some (.exit i, _, h2) => (match h2[b]? with | some (.siter L2) => some (.val (.bool false) (h2.set b (.siter { L2 with st := .done, pend := some (some i) }))) | _ => none)
  | _ => none) := fun n hle => by
  simp only [ygn, hb]
  rw [if_pos ⟨hl, hpa, hpb⟩, hn n (by omega)]
  simp only [Option.bind_some, q1]
  rw [if_pos q2, hm n (by omega)]
  simp only [Option.bind_some]
  cases e2 <;> rfl
 cases e2 with
 | normal => exact ⟨_, key _ fun n hle => by rw [base n hle]; simp only [q3], hR⟩
 | ret => exact ⟨_, key _ fun n hle => by rw [base n hle]; simp only [q3], hR⟩
 | exit i => exact ⟨_, key _ fun n hle => by rw [base n hle]; simp only [q3], hR⟩
 | panic v => exact hR.elim
end
end Go.Sb
