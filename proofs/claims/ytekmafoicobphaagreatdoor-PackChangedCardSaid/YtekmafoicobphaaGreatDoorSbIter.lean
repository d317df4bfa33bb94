/- Panics, symbolically: regions whose last run operation panics, functions that panic, a function with a deferred closure. -/
import Derived.Test.YtekmafoicobphaaGreatDoorSbOwnE
import Derived.Test.YtekmafoicobphaaGreatDoorSb13Base
set_option linter.unusedVariables false
set_option linter.unusedSimpArgs false
namespace Go.Sb
def CallP (E : Env) (m : Mode) (f : FuncId) (args : List V) (h : Heap) (K : V → Heap → Prop) : Prop := ∃ v g, Has E m f args h (.pan v g) ∧ K v g
theorem CallP.of {E : Env} {m : Mode} {f : FuncId} {args : List V} {h : Heap} {K : V → Heap → Prop} {v : V} {g : Heap} (e : Has E m f args h (.pan v g)) (k : K v g) : CallP E m f args h K := ⟨v, g, e, k⟩
def ykd (E : Env) (md : FuncId → Mode) (o : Op) (s : List V) (h : Heap) (K : V → Heap → Prop) : Prop :=
 match o with
 | .panic x => opdK E s x fun v => match v with
  | .ifc t y => K (.ifc t y) h
  | _ => False
 | .call c => match c.callee with
  | .value f => opdK E s f fun fv => opdsK E s c.args.toList fun ars => match fv with
   | .fn (.func g) caps => (match E.ext g with
    | some _ => False
    | none => CallP E (nrm (md g)) g (ars ++ caps) h K)
   | .bm g cs => CallP E (nrm (md g)) g (cs ++ ars) h K
   | _ => False
  | _ => False
 | _ => False
theorem yqv {E : Env} {md : FuncId → Mode} {o : Op} {s : List V} {h : Heap} {K : V → Heap → Prop} (hr : ykd E md o s h K) : ∃ v g, K v g ∧ Evt fun n => evOp E md (callN E n) o s h = some (.pan v g) := by
 unfold ykd at hr
 split at hr
 ·rename_i x
  rw [ybq] at hr
  split at hr
  ·rename_i t y e
   exact ⟨_, h, hr, .all fun n => by simp only [evOp, e]⟩
  ·exact hr.elim
 ·rename_i c
  obtain ⟨callee, args, ats⟩ := c
  simp only at hr
  split at hr
  ·rename_i f
   rw [ybq, yjz] at hr
   split at hr
   ·rename_i g caps hf
    split at hr
    ·exact hr.elim
    ·rename_i hp
     obtain ⟨v, g', h1, h2⟩ := hr
     exact ⟨v, g', h2, h1.imp fun n hn => by simp only [evOp, ydo, hf, hp]; exact hn⟩
   ·rename_i g cs hf
    obtain ⟨v, g', h1, h2⟩ := hr
    exact ⟨v, g', h2, h1.imp fun n hn => by simp only [evOp, ydo, hf]; exact hn⟩
   ·exact hr.elim
  ·exact hr.elim
 ·exact hr.elim
def yke (E : Env) (md : FuncId → Mode) (Q : V → List V → Heap → Prop) : Nat → List ROp → List V → Heap → Prop
 | _, [], _, _ => False
 | 0, o :: _, s, h => wantK s o (fun s => ykd E md o.op s h fun v g => Q v s g) (fun _ => False)
 | k + 1, o :: os, s, h => wantK s o (fun s => runOp E md o.op s h fun v g => yas (putT s o.dst v) fun s' => yke E md Q k os s' g) (fun s => yas (putT s o.dst und) fun s' => yke E md Q k os s' h)
theorem ymx {E : Env} {md : FuncId → Mode} {Q : V → List V → Heap → Prop} {all : List Oper} : ∀ {k : Nat} {os : List Oper} {rs : List ROp} {s : List V} {h : Heap}, yfv all os rs → yke E md Q k rs s h → ∃ v s' g, Q v s' g ∧ Evt fun n => evOps E md (callN E n) all os s h = some (.panic v, s', g)
 | k, [], [], s, h, _, hr => by cases k <;> exact hr.elim
 | 0, o :: os, r :: rs, s, h, hR, hr => by
  obtain ⟨hR1, hR2⟩ := hR
  have e1 := hR1.1
  rcases yfx hR1 hr with ⟨hw, hr⟩ | ⟨hw, hr⟩
  ·rw [e1] at hr
   obtain ⟨v, g, h1, h2⟩ := yqv hr
   exact ⟨v, s, g, h1, h2.imp fun n e => by simp only [evOps, hw, Option.bind_some, if_true, e]⟩
  ·exact hr.elim
 | k + 1, o :: os, r :: rs, s, h, hR, hr => by
  obtain ⟨hR1, hR2⟩ := hR
  have e1 := hR1.1
  have e2 := hR1.2.1
  rcases yfx hR1 hr with ⟨hw, hr⟩ | ⟨hw, hr⟩
  ·rw [e1, e2] at hr
   obtain ⟨v, g, h1, h2⟩ := yft hr
   rw [yat] at h1
   obtain ⟨v', s', g', k1, k2⟩ := ymx hR2 h1
   exact ⟨v', s', g', k1, h2.and k2 fun n e1 e2 => by simp only [evOps, hw, Option.bind_some, if_true, e1]; exact e2⟩
  ·rw [yat, e2] at hr
   obtain ⟨v', s', g', k1, k2⟩ := ymx hR2 hr
   exact ⟨v', s', g', k1, k2.imp fun n e2 => by simp only [evOps, hw, Option.bind_some]; rw [if_neg (by simp)]; exact e2⟩
 | k, [], _ :: _, _, _, hR, _ => hR.elim
 | k, _ :: _, [], _, _, hR, _ => hR.elim
def ygz (E : Env) (md : FuncId → Mode) (A : List (List Nat)) (Q : V → List V → Heap → Prop) (all : Nat) : Nat → List ROp → List (Nat × Op × List V × V) → List V → Heap → Prop
 | _, [], _, _, _ => False
 | k, [o], _, s, h => wantK s o (fun s => (k + 1 = all ∧ (List.range k).all (fun i => (A.getD k []).contains i) = true) ∧ ykd E md o.op s h fun v g => Q v s g) (fun _ => False)
 | k, o :: os, acc, s, h => wantK s o
   (fun s => runOp E md o.op s h fun v g =>
    if yai E md o.op = 2 then accK E md (A.getD k []) g acc (yas (putT s o.dst v) fun s' => ygz E md A Q all (k + 1) os acc s' g)
    else if yai E md o.op = 1 then yas (putT s o.dst v) fun s' => ygz E md A Q all (k + 1) os ((k, o.op, s, v) :: acc) s' g
    else yas (putT s o.dst v) fun s' => ygz E md A Q all (k + 1) os acc s' g)
   (fun s => if yai E md o.op = 2 then False else yas (putT s o.dst und) fun s' => ygz E md A Q all (k + 1) os acc s' h)
theorem yid {E : Env} {md : FuncId → Mode} {A : List (List Nat)} {Q : V → List V → Heap → Prop} {all : List Oper} : ∀ {os : List Oper} {rs : List ROp} {k : Nat} {acc : List (Nat × Op × List V × V)} {s : List V} {h : Heap}, yfv all os rs → ygz E md A Q all.length k rs acc s h →
  ∃ v s' g, Q v s' g ∧ Evt fun n => ych E md (callN E n) A all k os acc s h = some (.panic v, s', g)
 | [], [], k, acc, s, h, _, hr => hr.elim
 | o :: os, r :: rs, k, acc, s, h, hR, hr => by
  obtain ⟨hR1, hR2⟩ := hR
  have e1 := hR1.1
  have e2 := hR1.2.1
  match os, rs, hR2, hr with
  | [], [], _, hr =>
   rcases yfx hR1 hr with ⟨hw, hr⟩ | ⟨hw, hr⟩
   ·obtain ⟨hc, hr⟩ := hr
    rw [e1] at hr
    obtain ⟨v, g, h1, h2⟩ := yqv hr
    exact ⟨v, s, g, h1, h2.imp fun n e => by
     simp only [ych, hw, Option.bind_some, if_true, e]
     rw [if_pos ⟨trivial, hc.1, hc.2⟩]⟩
   ·exact hr.elim
  | o2 :: os, r2 :: rs, hR2, hr =>
   rcases yfx hR1 hr with ⟨hw, hr⟩ | ⟨hw, hr⟩
   ·rw [e1, e2] at hr
    obtain ⟨v, g, h1, h2⟩ := yft hr
    split at h1
    ·rename_i hk
     obtain ⟨h1, h3⟩ := yfy h1
     rw [yat] at h1
     obtain ⟨v', s', g', k1, k2⟩ := yid hR2 h1
     exact ⟨v', s', g', k1, (h2.and h3 fun n e1 e2 => jI e1 e2).and k2 fun n e1 e2 => by
      rw [ych]
      simp only [hw, Option.bind_some, if_true, e1.1, hk, e1.2]; exact e2⟩
    ·rename_i hk
     split at h1
     ·rename_i hk1
      rw [yat] at h1
      obtain ⟨v', s', g', k1, k2⟩ := yid hR2 h1
      exact ⟨v', s', g', k1, h2.and k2 fun n e1 e2 => by
       rw [ych]
       simp only [hw, Option.bind_some, if_true, e1, hk1]; simpa using e2⟩
     ·rename_i hk1
      rw [yat] at h1
      obtain ⟨v', s', g', k1, k2⟩ := yid hR2 h1
      exact ⟨v', s', g', k1, h2.and k2 fun n e1 e2 => by
       rw [ych]
       simp only [hw, Option.bind_some, if_true, e1, hk, hk1, if_false, false_and]; exact e2⟩
   ·rw [e1, e2] at hr
    split at hr
    ·exact hr.elim
    ·rename_i hk
     rw [yat] at hr
     obtain ⟨v', s', g', k1, k2⟩ := yid hR2 hr
     exact ⟨v', s', g', k1, k2.imp fun n e2 => by
      rw [ych]
      simp only [hw, Option.bind_some, hk, if_false]
      simpa using e2⟩
  | [], _ :: _, hR2, _ => exact hR2.elim
  | _ :: _, [], hR2, _ => exact hR2.elim
 | [], _ :: _, _, _, _, _, hR, _ => hR.elim
 | _ :: _, [], _, _, _, _, hR, _ => hR.elim
section
variable {E : Env} {md : FuncId → Mode} {s : List V} {h : Heap} {Q : Ex → List V → Heap → Prop}
theorem RunP.regionP {x : Nat} {ops : Array Oper} (k : Nat) (hr : ydc ops.toList ops.toList fun rs => yke E md (fun v s' h' => Q (.panic v) s' h') k rs s h) : RunP E md (.region x ops false) s h Q := by
 obtain ⟨rs, h1, h2⟩ := yfw hr
 obtain ⟨v, s', g, k1, k2⟩ := ymx h1 h2
 exact ⟨_, s', g, k1, k2.imp fun n e => by simp only [yap]; rw [if_neg (by simp)]; exact e⟩
theorem RunP.drawnP {x : Nat} {ops : Array Oper} (hd : yei E md ops = true) (hr : ydc ops.toList ops.toList fun rs => ygz E md (ancT ops.toList []) (fun v s' h' => Q (.panic v) s' h') ops.toList.length 0 rs [] s h) : RunP E md (.region x ops true) s h Q := by
 obtain ⟨rs, h1, h2⟩ := yfw hr
 obtain ⟨v, s', g, k1, k2⟩ := yid h1 h2
 exact ⟨_, s', g, k1, k2.imp fun n e => by unfold yap; rw [if_pos rfl, if_pos hd]; exact e⟩
theorem RunP.mid {a b : Code} {M : List V → Heap → Prop} (h1 : RunP E md a s h fun e s' h' => e = .normal ∧ M s' h') (h2 : ∀ s' h', M s' h' → RunP E md b s' h' Q) : RunP E md (.seq a b) s h Q := by
 obtain ⟨e, s1, g1, ⟨rfl, k1⟩, k2⟩ := h1.ok
 obtain ⟨e, s2, g2, l1, l2⟩ := (h2 s1 g1 k1).ok
 exact ⟨e, s2, g2, l1, k2.and l2 fun n e1 e2 => by simp only [yap, e1, Option.bind_some]; exact e2⟩
theorem RunP.mono {a : Code} {Q' : Ex → List V → Heap → Prop} (h1 : RunP E md a s h Q') (h2 : ∀ e s' h', Q' e s' h' → Q e s' h') : RunP E md a s h Q := by
 obtain ⟨e, s1, g1, k1, k2⟩ := h1.ok
 exact ⟨e, s1, g1, h2 _ _ _ k1, k2⟩
def endX (E : Env) (d : FnD) (R : OpR → Prop) (e : Ex) (s' : List V) (h' : Heap) : Prop := match e with
 | .normal | .ret => getDf s' = und ∧ bindK (ybp E d.res s' h') fun v => R (.val v h')
 | .panic v => getDf s' = und ∧ R (.pan v h')
 | _ => False
theorem HasP.sharedX {f : FuncId} {args : List V} {d : FnD} {R : OpR → Prop} (h3 : E.fn f = some d) (h0 : args.length ≤ d.nt) (h4 : yas (initT d.nt args) fun s => RunP E d.md d.body s h (endX E d R)) : ∃ r, Has E .shared f args h r ∧ R r := by
 rw [yat] at h4
 obtain ⟨e, s', g, h1, N, h2⟩ := h4.ok
 have key : ∃ r, R r ∧ ∀ n, N ≤ n → evFn E (callN E n) n d args h = some r := by
  cases e with
  | normal =>
   obtain ⟨k1, k2⟩ := (show getDf s' = und ∧ bindK (ybp E d.res s' g) fun v => R (.val v g) from h1)
   obtain ⟨v, hv, hK⟩ := ybx k2
   refine ⟨_, hK, fun n hn => ?_⟩
   unfold evFn; rw [if_pos h0, h2 n hn]
   simp only [Option.bind_some]; rw [if_pos k1, hv]; rfl
  | ret =>
   obtain ⟨k1, k2⟩ := (show getDf s' = und ∧ bindK (ybp E d.res s' g) fun v => R (.val v g) from h1)
   obtain ⟨v, hv, hK⟩ := ybx k2
   refine ⟨_, hK, fun n hn => ?_⟩
   unfold evFn; rw [if_pos h0, h2 n hn]
   simp only [Option.bind_some]; rw [if_pos k1, hv]; rfl
  | panic v =>
   obtain ⟨k1, k2⟩ := (show getDf s' = und ∧ R (.pan v g) from h1)
   refine ⟨_, k2, fun n hn => ?_⟩
   unfold evFn; rw [if_pos h0, h2 n hn]
   simp only [Option.bind_some]; rw [if_pos k1]
  | exit i => exact (show False from h1).elim
 obtain ⟨r, hR, h7⟩ := key
 refine ⟨r, ⟨N + 1, fun n hn => ?_⟩, hR⟩
 obtain ⟨n, rfl⟩ : ∃ n', n = n' + 1 := ⟨n - 1, by omega⟩
 simp only [callN, evAny, h3, h7 n (by omega)]
theorem HasP.sharedP {f : FuncId} {args : List V} {d : FnD} {R : V → Heap → Prop} (h3 : E.fn f = some d) (h0 : args.length ≤ d.nt) (h4 : yas (initT d.nt args) fun s => RunP E d.md d.body s h fun e s' h' => ∃ v, e = .panic v ∧ getDf s' = und ∧ R v h') : ∃ v g, Has E .shared f args h (.pan v g) ∧ R v g := by
 have := HasP.sharedX (E := E) (f := f) (args := args) (h := h) (d := d) (R := fun r => ∃ v g, r = .pan v g ∧ R v g) h3 h0 (by
  rw [yat] at h4 ⊢
  obtain ⟨e, s', g, ⟨v, rfl, k1, k2⟩, h2⟩ := h4.ok
  exact ⟨_, s', g, (show endX E d _ (.panic v) s' g from ⟨k1, v, g, rfl, k2⟩), h2⟩)
 obtain ⟨r, hr, v, g, rfl, hR⟩ := this
 exact ⟨v, g, hr, hR⟩
def RunPre (E : Env) (md : FuncId → Mode) (K : List V → Heap → Prop) : List Code → List V → Heap → Prop
 | [], s, h => K s h
 | c :: cs, s, h => RunP E md c s h fun e s' h' => e = .normal ∧ RunPre E md K cs s' h'
theorem RunPre.ok {K : List V → Heap → Prop} : ∀ {cs : List Code} {s : List V} {h : Heap}, RunPre E md K cs s h → ∃ s' g, K s' g ∧ Evt fun n => evPre E md (callN E n) n cs s h = some (s', g)
 | [], s, h, hr => ⟨s, h, hr, .all fun n => rfl⟩
 | c :: cs, s, h, hr => by
  obtain ⟨e, s1, g1, ⟨rfl, h1⟩, h2⟩ := RunP.ok hr
  obtain ⟨s', g, k1, k2⟩ := RunPre.ok h1
  exact ⟨s', g, k1, h2.and k2 fun n e1 e2 => by simp only [evPre, e1, Option.bind_some]; exact e2⟩
def DefK (E : Env) (G : GuardD) (caps : List V) (pv : V) (h : Heap) (K : Heap → Prop) : Prop :=
 caps.length ≤ G.gd.nt ∧ yas (putT (initT G.gd.nt caps) G.rc.dst pv) fun s => RunP E G.gd.md G.grest s h fun e s' h' => (e = .normal ∨ e = .ret) ∧ bindK (ybp E G.gd.res s' h') fun _ => K h'
theorem DefK.ok {G : GuardD} {caps : List V} {pv : V} {K : Heap → Prop} (hr : DefK E G caps pv h K) : ∃ h5, K h5 ∧ Evt fun n => evDef E (callN E n) n G caps pv h = some h5 := by
 obtain ⟨h0, hr⟩ := hr
 rw [yat] at hr
 obtain ⟨e, s', g, ⟨he, h1⟩, h2⟩ := hr.ok
 obtain ⟨v, hv, hK⟩ := ybx h1
 refine ⟨g, hK, h2.imp fun n e1 => ?_⟩
 unfold evDef
 rw [if_pos h0, e1]
 rcases he with rfl | rfl <;> (simp only [Option.bind_some]; rw [hv]; rfl)
def guardK (E : Env) (G : GuardD) (caps : List V) (R : V → Heap → Prop) (e : Ex) (s4 : List V) (h4 : Heap) : Prop := match e with
 | .normal | .ret => DefK E G caps .nili h4 fun h5 => bindK (ybp E G.d.res s4 h5) fun v => R v h5
 | .panic pv => DefK E G caps pv h4 fun h5 => bindK (ybp E G.d.res s4 h5) fun v => R v h5
 | .exit _ => False
theorem HasP.guard {f : FuncId} {args : List V} {G : GuardD} {R : V → Heap → Prop} (h1 : E.fn f = none) (h2 : E.gd f = some G) (h0 : args.length ≤ G.d.nt)
  (hp : yas (initT G.d.nt args) fun s => RunPre E G.d.md (fun s1 g1 => runOp E G.d.md G.mkf.op s1 g1 fun fv g2 => yas (putT s1 G.mkf.dst fv) fun s2 => ∃ caps, getT s2 G.t = .fn (.func G.g) caps ∧
   yas (putT s2 G.df.dst und) fun s3 => RunP E G.d.md G.rest s3 g2 (guardK E G caps R)) G.first s h) : ∃ v g, Has E .shared f args h (.val v g) ∧ R v g := by
 rw [yat] at hp
 obtain ⟨s1, g1, hp, N1, k1⟩ := RunPre.ok hp
 obtain ⟨fv, g2, hp, N2, k2⟩ := yft hp
 rw [yat] at hp
 obtain ⟨caps, hcl, hp⟩ := hp
 rw [yat] at hp
 obtain ⟨e, s4, g4, hp, N3, k3⟩ := hp.ok
 have fin : ∀ (pv : V), (DefK E G caps pv g4 fun h5 => bindK (ybp E G.d.res s4 h5) fun v => R v h5) → ((e = .normal ∨ e = .ret) ∧ pv = .nili ∨ e = .panic pv) → ∃ v g, Has E .shared f args h (.val v g) ∧ R v g := by
  intro pv hd he
  obtain ⟨h5, k5, N4, k4⟩ := DefK.ok hd
  obtain ⟨v, hv, hR⟩ := ybx k5
  refine ⟨v, h5, ⟨N1 + N2 + N3 + N4 + 1, fun n hn => ?_⟩, hR⟩
  obtain ⟨n, rfl⟩ : ∃ n', n = n' + 1 := ⟨n - 1, by omega⟩
  simp only [callN, evAny, h1, h2, Option.bind_some]
  unfold yjd
  rw [if_pos h0, k1 n (by omega)]
  simp only [Option.bind_some]
  rw [k2 n (by omega)]
  simp only [Option.bind_some, hcl, if_true]
  rw [k3 n (by omega)]
  rcases he with ⟨rfl | rfl, rfl⟩ | rfl <;> (simp only [Option.bind_some]; rw [k4 n (by omega)]; simp only [Option.bind_some]; rw [hv]; rfl)
 cases e with
 | normal => exact fin .nili hp (.inl ⟨.inl rfl, rfl⟩)
 | ret => exact fin .nili hp (.inl ⟨.inr rfl, rfl⟩)
 | panic pv => exact fin pv hp (.inr rfl)
 | exit i => exact (show False from hp).elim
end
end Go.Sb

/- A range over a function, a step at a time. -/

namespace Go.Sb
section
variable {E : Env} {md : FuncId → Mode} {s : List V} {h : Heap} {Q : Ex → List V → Heap → Prop}
theorem RunP.range {f : Operand} {ps : Array Tmp} {assign body : Code} {g : FuncId} {caps : List V} (ho : opd E s f = .fn (.func g) caps)
  (hc : CallK E .shared g (.it h.length :: caps) (push h (.siter ⟨.ready, none, s.tail, ps.toList, assign, body, md⟩)) fun _ h1 => ∃ e s' g', ylj h.length s h1 = some (e, s', g') ∧ Q e s' g') : RunP E md (.rangeFunc f ps assign body) s h Q := by
 obtain ⟨v, g1, hh, e, s', g', he, hq⟩ := hc
 refine ⟨e, s', g', hq, hh.imp fun n hn => ?_⟩
 simp only [yap, ho, hn, Option.bind_some, he]
def roundK (b : Nat) (R : OpR → Prop) (e : Ex) (_ : List V) (h : Heap) : Prop := ∃ L, h[b]? = some (.siter L) ∧ match e with
 | .normal => R (.val (.bool true) (h.set b (.siter { L with st := .ready, pend := none })))
 | .ret => R (.val (.bool false) (h.set b (.siter { L with st := .done, pend := some none })))
 | .exit i => R (.val (.bool false) (h.set b (.siter { L with st := .done, pend := some (some i) })))
 | .panic _ => False
theorem Has.round {b : Nat} {args : List V} {L : LoopD} {R : OpR → Prop} (hb : h[b]? = some (.siter L)) (hl : args.length = L.params.length) (hpa : ycv L.assign = true) (hpb : ycv L.body = true)
  (hr : RunP E L.md L.assign ((L.params.zip args).foldl (fun s p => setT s p.1 p.2) (und :: L.tmps)) h fun e s1 h1 => e = .normal ∧ ∃ L1, h1[b]? = some (.siter L1) ∧ L1.st = .ready ∧ RunP E L.md L.body s1 (h1.set b (.siter { L1 with st := .busy })) (roundK b R)) :
  ∃ r, Has E .round b args h r ∧ R r := by
 obtain ⟨e, s1, h1, ⟨rfl, L1, q1, q2, hr2⟩, N, hn⟩ := hr.ok
 obtain ⟨e2, s2, h2, ⟨L2, q3, hR⟩, M, hm⟩ := hr2.ok
 have key : ∀ r, (∀ n, max N M ≤ n → ygj E (callN E n) n b args h = some r) → Has E .round b args h r := fun r hk => ⟨max N M + 1, fun n hle => by
  obtain ⟨n, rfl⟩ : ∃ m, n = m + 1 := ⟨n - 1, by omega⟩
  simp only [callN]; exact hk n (by omega)⟩
 have base : ∀ n, max N M ≤ n → ygj E (callN E n) n b args h = (match (some (e2, s2, h2) : Res) with
  | some (.normal, _, h2) => (match h2[b]? with | some (.siter L2) => some (OpR.val (.bool true) (h2.set b (.siter { L2 with st := .ready, pend := none }))) | _ => none)
  | some (.ret, _, h2) => (match h2[b]? with | some (.siter L2) => some (.val (.bool false) (h2.set b (.siter { L2 with st := .done, pend := some none }))) | _ => none)
  | some (.exit i, _, h2) => (match h2[b]? with | some (.siter L2) => some (.val (.bool false) (h2.set b (.siter { L2 with st := .done, pend := some (some i) }))) | _ => none)
  | _ => none) := fun n hle => by
  simp only [ygj, hb]
  rw [if_pos ⟨hl, hpa, hpb⟩, hn n (by omega)]
  simp only [Option.bind_some, q1]
  rw [if_pos q2, hm n (by omega)]
  simp only [Option.bind_some]
  cases e2 <;> rfl
 cases e2 with
 | normal => exact ⟨_, key _ fun n hle => by rw [base n hle]; simp only [q3], hR⟩
 | ret => exact ⟨_, key _ fun n hle => by rw [base n hle]; simp only [q3], hR⟩
 | exit i => exact ⟨_, key _ fun n hle => by rw [base n hle]; simp only [q3], hR⟩
 | panic v => exact hR.elim
end
end Go.Sb
