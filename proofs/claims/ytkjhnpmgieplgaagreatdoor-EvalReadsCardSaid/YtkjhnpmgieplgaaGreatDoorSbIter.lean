/- Panics, symbolically: regions whose last run operation panics, functions that panic, a function with a deferred closure. -/
import Derived.Test.YtkjhnpmgieplgaaGreatDoorSbOwnE
import Derived.Test.YtkjhnpmgieplgaaGreatDoorSbGuardD
set_option linter.unusedVariables false
set_option linter.unusedSimpArgs false
namespace Go.Sb

/-- A call that panics: the proof names the value. -/
def CallP (E : Env) (m : Mode) (f : FuncId) (args : List V) (h : Heap) (K : V → Heap → Prop) : Prop := ∃ v g, Has E m f args h (.pan v g) ∧ K v g
theorem CallP.of {E : Env} {m : Mode} {f : FuncId} {args : List V} {h : Heap} {K : V → Heap → Prop} {v : V} {g : Heap} (e : Has E m f args h (.pan v g)) (k : K v g) : CallP E m f args h K := ⟨v, g, e, k⟩

section
variable {E : Env} {md : FuncId → Mode} {s : List V} {h : Heap} {Q : Ex → List V → Heap → Prop}
/-- Two statements, with what holds between them. -/
theorem RunP.mid {a b : Code} {M : List V → Heap → Prop} (h1 : RunP E md a s h fun e s' h' => e = .normal ∧ M s' h') (h2 : ∀ s' h', M s' h' → RunP E md b s' h' Q) : RunP E md (.seq a b) s h Q := by
  obtain ⟨e, s1, g1, ⟨rfl, k1⟩, k2⟩ := h1.ok
  obtain ⟨e, s2, g2, l1, l2⟩ := (h2 s1 g1 k1).ok
  exact ⟨e, s2, g2, l1, k2.and l2 fun n e1 e2 => by simp only [evCode, e1, Option.bind_some]; exact e2⟩
theorem RunP.mono {a : Code} {Q' : Ex → List V → Heap → Prop} (h1 : RunP E md a s h Q') (h2 : ∀ e s' h', Q' e s' h' → Q e s' h') : RunP E md a s h Q := by
  obtain ⟨e, s1, g1, k1, k2⟩ := h1.ok
  exact ⟨e, s1, g1, h2 _ _ _ k1, k2⟩

def RunPre (E : Env) (md : FuncId → Mode) (K : List V → Heap → Prop) : List Code → List V → Heap → Prop
  | [], s, h => K s h
  | c :: cs, s, h => RunP E md c s h fun e s' h' => e = .normal ∧ RunPre E md K cs s' h'

theorem RunPre.ok {K : List V → Heap → Prop} : ∀ {cs : List Code} {s : List V} {h : Heap}, RunPre E md K cs s h → ∃ s' g, K s' g ∧ Evt fun n => evPre E md (callN E n) n cs s h = some (s', g)
  | [], s, h, hr => ⟨s, h, hr, .all fun n => rfl⟩
  | c :: cs, s, h, hr => by
    obtain ⟨e, s1, g1, ⟨rfl, h1⟩, h2⟩ := RunP.ok hr
    obtain ⟨s', g, k1, k2⟩ := RunPre.ok h1
    exact ⟨s', g, k1, h2.and k2 fun n e1 e2 => by simp only [evPre, e1, Option.bind_some]; exact e2⟩

/-- The deferred closure. -/
def DefK (E : Env) (G : GuardD) (caps : List V) (pv : V) (h : Heap) (K : Heap → Prop) : Prop :=
  caps.length ≤ G.gd.nt ∧ forceL (putT (initT G.gd.nt caps) G.rc.dst pv) fun s => RunP E G.gd.md G.grest s h fun e s' h' => (e = .normal ∨ e = .ret) ∧ bindK (evResults E G.gd.res s' h') fun _ => K h'

theorem DefK.ok {G : GuardD} {caps : List V} {pv : V} {K : Heap → Prop} (hr : DefK E G caps pv h K) : ∃ h5, K h5 ∧ Evt fun n => evDef E (callN E n) n G caps pv h = some h5 := by
  obtain ⟨h0, hr⟩ := hr
  rw [forceL_iff] at hr
  obtain ⟨e, s', g, ⟨he, h1⟩, h2⟩ := hr.ok
  obtain ⟨v, hv, hK⟩ := bindK_to h1
  refine ⟨g, hK, h2.imp fun n e1 => ?_⟩
  unfold evDef
  rw [if_pos h0, e1]
  rcases he with rfl | rfl <;> (simp only [Option.bind_some]; rw [hv]; rfl)

def guardK (E : Env) (G : GuardD) (caps : List V) (R : V → Heap → Prop) (e : Ex) (s4 : List V) (h4 : Heap) : Prop := match e with
  | .normal | .ret => DefK E G caps .nili h4 fun h5 => bindK (evResults E G.d.res s4 h5) fun v => R v h5
  | .panic pv => DefK E G caps pv h4 fun h5 => bindK (evResults E G.d.res s4 h5) fun v => R v h5
  | .exit _ => False

theorem HasP.guard {f : FuncId} {args : List V} {G : GuardD} {R : V → Heap → Prop} (h1 : E.fn f = none) (h2 : E.gd f = some G) (h0 : args.length ≤ G.d.nt)
    (hp : forceL (initT G.d.nt args) fun s => RunPre E G.d.md (fun s1 g1 => runOp E G.d.md G.mkf.op s1 g1 fun fv g2 => forceL (putT s1 G.mkf.dst fv) fun s2 => ∃ caps, getT s2 G.t = .fn (.func G.g) caps ∧
      forceL (putT s2 G.df.dst und) fun s3 => RunP E G.d.md G.rest s3 g2 (guardK E G caps R)) G.first s h) : ∃ v g, Has E .shared f args h (.val v g) ∧ R v g := by
  rw [forceL_iff] at hp
  obtain ⟨s1, g1, hp, N1, k1⟩ := RunPre.ok hp
  obtain ⟨fv, g2, hp, N2, k2⟩ := runOp_ok hp
  rw [forceL_iff] at hp
  obtain ⟨caps, hcl, hp⟩ := hp
  rw [forceL_iff] at hp
  obtain ⟨e, s4, g4, hp, N3, k3⟩ := hp.ok
  have fin : ∀ (pv : V), (DefK E G caps pv g4 fun h5 => bindK (evResults E G.d.res s4 h5) fun v => R v h5) → ((e = .normal ∨ e = .ret) ∧ pv = .nili ∨ e = .panic pv) → ∃ v g, Has E .shared f args h (.val v g) ∧ R v g := by
    intro pv hd he
    obtain ⟨h5, k5, N4, k4⟩ := DefK.ok hd
    obtain ⟨v, hv, hR⟩ := bindK_to k5
    refine ⟨v, h5, ⟨N1 + N2 + N3 + N4 + 1, fun n hn => ?_⟩, hR⟩
    obtain ⟨n, rfl⟩ : ∃ n', n = n' + 1 := ⟨n - 1, by omega⟩
    simp only [callN, evAny, h1, h2, Option.bind_some]
    unfold evGuard
    rw [if_pos h0, k1 n (by omega)]
    simp only [Option.bind_some]
    rw [k2 n (by omega)]
    simp only [Option.bind_some, hcl, if_true]
    rw [k3 n (by omega)]
    rcases he with ⟨rfl | rfl, rfl⟩ | rfl <;> (simp only [Option.bind_some]; rw [k4 n (by omega)]; simp only [Option.bind_some]; rw [hv]; rfl)
  cases e with
  | normal => exact fin .nili hp (.inl ⟨.inl rfl, rfl⟩)
  | ret => exact fin .nili hp (.inl ⟨.inr rfl, rfl⟩)
  | panic pv => exact fin pv hp (.inr rfl)
  | exit i => exact (show False from hp).elim
end
end Go.Sb

/- A range over a function, a step at a time. -/

namespace Go.Sb
section
variable {E : Env} {md : FuncId → Mode} {s : List V} {h : Heap} {Q : Ex → List V → Heap → Prop}

/-- The statement: the function is called with yield; how it is left. -/
theorem RunP.range {f : Operand} {ps : Array Tmp} {assign body : Code} {g : FuncId} {caps : List V} (ho : opd E s f = .fn (.func g) caps)
    (hc : CallK E .shared g (.it h.length :: caps) (push h (.siter ⟨.ready, none, s.tail, ps.toList, assign, body, md⟩)) fun _ h1 => ∃ e s' g', evEndLoop h.length s h1 = some (e, s', g') ∧ Q e s' g') : RunP E md (.rangeFunc f ps assign body) s h Q := by
  obtain ⟨v, g1, hh, e, s', g', he, hq⟩ := hc
  refine ⟨e, s', g', hq, hh.imp fun n hn => ?_⟩
  simp only [evCode, ho, hn, Option.bind_some, he]

/-- The loop has ended; its rounds went through. -/
theorem evEnd_normal {b : Nat} {L : LoopD} (hb : h[b]? = some (.siter L)) (hs : L.st ≠ .busy) (hp : L.pend = none) : evEndLoop b s h = some (.normal, s, h.set b (.siter { L with st := .exhausted })) := by
  simp only [evEndLoop, hb]; rw [if_neg hs, hp]
theorem evEnd_pend {b : Nat} {L : LoopD} {p : Option Nat} (hb : h[b]? = some (.siter L)) (hs : L.st ≠ .busy) (hp : L.pend = some p) : evEndLoop b s h = some (pendEx p, s, h.set b (.siter { L with st := .exhausted })) := by
  simp only [evEndLoop, hb]; rw [if_neg hs, hp]

/-- How a round's body may end. -/
def roundK (b : Nat) (R : OpR → Prop) (e : Ex) (_ : List V) (h : Heap) : Prop := ∃ L, h[b]? = some (.siter L) ∧ match e with
  | .normal => R (.val (.bool true) (h.set b (.siter { L with st := .ready, pend := none })))
  | .ret => R (.val (.bool false) (h.set b (.siter { L with st := .done, pend := some none })))
  | .exit i => R (.val (.bool false) (h.set b (.siter { L with st := .done, pend := some (some i) })))
  | .panic _ => False

/-- One round: yield's call. -/
theorem Has.round {b : Nat} {args : List V} {L : LoopD} {R : OpR → Prop} (hb : h[b]? = some (.siter L)) (hl : args.length = L.params.length) (hpa : plainC L.assign = true) (hpb : plainC L.body = true)
    (hr : RunP E L.md L.assign ((L.params.zip args).foldl (fun s p => setT s p.1 p.2) (und :: L.tmps)) h fun e s1 h1 => e = .normal ∧ ∃ L1, h1[b]? = some (.siter L1) ∧ L1.st = .ready ∧ RunP E L.md L.body s1 (h1.set b (.siter { L1 with st := .busy })) (roundK b R)) :
    ∃ r, Has E .round b args h r ∧ R r := by
  obtain ⟨e, s1, h1, ⟨rfl, L1, q1, q2, hr2⟩, N, hn⟩ := hr.ok
  obtain ⟨e2, s2, h2, ⟨L2, q3, hR⟩, M, hm⟩ := hr2.ok
  have key : ∀ r, (∀ n, max N M ≤ n → evRound E (callN E n) n b args h = some r) → Has E .round b args h r := fun r hk => ⟨max N M + 1, fun n hle => by
    obtain ⟨n, rfl⟩ : ∃ m, n = m + 1 := ⟨n - 1, by omega⟩
    simp only [callN]; exact hk n (by omega)⟩
  have base : ∀ n, max N M ≤ n → evRound E (callN E n) n b args h = (match (some (e2, s2, h2) : Res) with
    | some (.normal, _, h2) => (match h2[b]? with | some (.siter L2) => some (OpR.val (.bool true) (h2.set b (.siter { L2 with st := .ready, pend := none }))) | _ => none)
    | some (.ret, _, h2) => (match h2[b]? with | some (.siter L2) => some (.val (.bool false) (h2.set b (.siter { L2 with st := .done, pend := some none }))) | _ => none)
    | some (.exit i, _, h2) => (match h2[b]? with | some (.siter L2) => some (.val (.bool false) (h2.set b (.siter { L2 with st := .done, pend := some (some i) }))) | _ => none)
    | _ => none) := fun n hle => by
    simp only [evRound, hb]
    rw [if_pos ⟨hl, hpa, hpb⟩, hn n (by omega)]
    simp only [Option.bind_some, q1]
    rw [if_pos q2, hm n (by omega)]
    simp only [Option.bind_some]
    cases e2 <;> rfl
  cases e2 with
  | normal => exact ⟨_, key _ fun n hle => by rw [base n hle]; simp only [q3], hR⟩
  | ret => exact ⟨_, key _ fun n hle => by rw [base n hle]; simp only [q3], hR⟩
  | exit i => exact ⟨_, key _ fun n hle => by rw [base n hle]; simp only [q3], hR⟩
  | panic v => exact hR.elim
end
end Go.Sb
