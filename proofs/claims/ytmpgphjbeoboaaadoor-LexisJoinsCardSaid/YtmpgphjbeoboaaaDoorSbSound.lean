/- Regions whose order is drawn: what one order answers holds of every order. -/
import Derived.Test.YtmpgphjbeoboaaaDoorSbCode
set_option linter.unusedVariables false
set_option linter.unusedSimpArgs false
namespace Go.Sb
section
variable {P : Program} {E : Env} {D : DPred} {ro : Option Nat} {fk : Nat}

/-- What an operation looks at decides what it answers. -/
theorem opd_congr {s s' : List V} {x : Operand} (h : ∀ t, x = .tmp t → getT s t = getT s' t) : opd E s x = opd E s' x := by
  cases x with
  | tmp t => exact h t rfl
  | const v => rfl
  | global g => rfl
  | func f => rfl

theorem evOp_congr {md : FuncId → Mode} {call : CallF} {o : Op} {s s' : List V} {h : Heap} (hs : ∀ x ∈ o.operands.toList, opd E s x = opd E s' x) : evOp E md call o s h = evOp E md call o s' h := by
  have args : ∀ (xs : Array Operand), (∀ x ∈ xs.toList, opd E s x = opd E s' x) → xs.toList.map (opd E s) = xs.toList.map (opd E s') := fun xs h => List.map_congr_left h
  have parts : ∀ (ps : Array (Nat × Operand)), (∀ x ∈ ps.toList.map (·.2), opd E s x = opd E s' x) → (ps.toList.map fun p => (p.1, opd E s p.2)) = (ps.toList.map fun p => (p.1, opd E s' p.2)) := fun ps h =>
    List.map_congr_left fun p hp => by rw [h p.2 (List.mem_map_of_mem (f := (·.2)) hp)]
  cases o <;> simp only [evOp]
  case move x => rw [hs x (by simp [Op.operands])]
  case assign x => rw [hs x (by simp [Op.operands])]
  case pick c a b => rw [hs c (by simp [Op.operands]), hs a (by simp [Op.operands]), hs b (by simp [Op.operands])]
  case box t x => rw [hs x (by simp [Op.operands])]
  case build t ps => rw [parts ps (fun x hx => hs x (by simpa [Op.operands] using hx))]
  case buildSlice t n ps => rw [parts ps (fun x hx => hs x (by simpa [Op.operands] using hx))]
  case load t a => rw [hs a (by simp [Op.operands])]
  case store t a x => rw [hs a (by simp [Op.operands]), hs x (by simp [Op.operands])]
  case nilCheck x => rw [hs x (by simp [Op.operands])]
  case binOp op t x y yt => rw [hs x (by simp [Op.operands]), hs y (by simp [Op.operands])]
  case unOp op t x => rw [hs x (by simp [Op.operands])]
  case convert a b x => rw [hs x (by simp [Op.operands])]
  case makeInterface t x => rw [hs x (by simp [Op.operands])]
  case makeFunc f first caps =>
    cases f with
    | func f => simp only; rw [args caps (fun x hx => hs x (by simp [Op.operands]; exact .inr (by simpa using hx))), args first (fun x hx => hs x (by simp [Op.operands]; exact .inl (by simpa using hx)))]
    | _ => rfl
  case makeMap t r => cases r <;> rfl
  case makeSlice t l c => rw [hs l (by simp [Op.operands]), hs c (by simp [Op.operands])]
  case slice t x lo hi mx =>
    have opt : ∀ y : Option Operand, (∀ z ∈ y.toArray.toList, opd E s z = opd E s' z) → y.map (opd E s) = y.map (opd E s') := fun y hy => by
      cases y with
      | none => rfl
      | some z => simp only [Option.map_some]; rw [hy z (by simp)]
    rw [hs x (by simp [Op.operands]), opt lo (fun z hz => hs z (by simp [Op.operands] at hz ⊢; simp [hz])), opt hi (fun z hz => hs z (by simp [Op.operands] at hz ⊢; simp [hz])), opt mx (fun z hz => hs z (by simp [Op.operands] at hz ⊢; simp [hz]))]
  case fieldAddr t x f => rw [hs x (by simp [Op.operands])]
  case field t x f => rw [hs x (by simp [Op.operands])]
  case indexAddr t x i => rw [hs x (by simp [Op.operands]), hs i (by simp [Op.operands])]
  case index t x i => rw [hs x (by simp [Op.operands]), hs i (by simp [Op.operands])]
  case lookup t x k ok => rw [hs x (by simp [Op.operands]), hs k (by simp [Op.operands])]
  case mapUpdate t m k v => rw [hs m (by simp [Op.operands]), hs k (by simp [Op.operands]), hs v (by simp [Op.operands])]
  case insert t m k v => rw [hs m (by simp [Op.operands]), hs k (by simp [Op.operands]), hs v (by simp [Op.operands])]
  case typeAssert x a t ok => rw [hs x (by simp [Op.operands])]
  case extract x i => rw [hs x (by simp [Op.operands])]
  case panic x => rw [hs x (by simp [Op.operands])]
  case call c =>
    have ha := args c.args (fun x hx => hs x (by simp [Op.operands, Call.operands]; exact .inr (by simpa using hx)))
    split
    · rename_i f hf
      rw [hs f (by simp [Op.operands, Call.operands, hf]), ha]
    · rw [ha]
    · rfl

theorem kind0 {md : FuncId → Mode} {call : CallF} {o : Op} {s : List V} {h g : Heap} {v : V} (hk : opKind E md o = 0) (he : evOp E md call o s h = some (.val v g)) : g = h ∧ ∀ h', evOp E md call o s h' = some (.val v h') := by
  have one : ∀ {x : Option V}, val x h = some (.val v g) → g = h ∧ ∀ h', val x h' = some (.val v h') := fun {x} hx => by
    obtain ⟨u, hu, hv⟩ := Option.map_eq_some_iff.1 hx
    cases hv; subst hu; exact ⟨rfl, fun _ => rfl⟩
  cases o <;> simp only [opKind] at hk <;> simp only [evOp] at he ⊢ <;> first | (exact one he) | (cases he; exact ⟨rfl, fun _ => rfl⟩) | (exfalso; revert hk; decide) | skip
  case pick c a b =>
    split at he
    · cases he; exact ⟨rfl, fun _ => rfl⟩
    · cases he
  case nilCheck x =>
    split at he
    · cases he; exact ⟨rfl, fun _ => rfl⟩
    · cases he; exact ⟨rfl, fun _ => rfl⟩
    · cases he; exact ⟨rfl, fun _ => rfl⟩
    · cases he
  case binOp op t x y yt =>
    split at hk
    · cases hk
    · rename_i hp
      rw [if_neg hp] at he
      obtain ⟨r1, r2⟩ := one he
      exact ⟨r1, fun h' => by rw [if_neg hp]; exact r2 h'⟩
  case convert a b x =>
    obtain ⟨p, hp, he⟩ := Option.map_eq_some_iff.1 he
    cases he
    unfold evConvert at hp
    replace hp := Option.bind_eq_some_iff.1 hp; obtain ⟨sd, hs, hp⟩ := hp
    replace hp := Option.bind_eq_some_iff.1 hp; obtain ⟨dd, hd, hp⟩ := hp
    simp only [hs, hd] at hk
    split at hk
    · rename_i e1 e2
      generalize opd E s x = u at hp ⊢
      cases u <;> simp only [e1, e2] at hp <;> cases hp
      exact ⟨rfl, fun h' => by simp [valH, evConvert, hs, hd, e1, e2]⟩
    · rename_i e1 e2
      generalize opd E s x = u at hp ⊢
      cases u <;> simp only [e1, e2] at hp <;> cases hp
      exact ⟨rfl, fun h' => by simp [valH, evConvert, hs, hd, e1, e2]⟩
    · cases hk
    · cases hk
  case call c =>
    obtain ⟨callee, args, ats⟩ := c
    simp only at hk he ⊢
    cases callee with
    | invoke r m => simp at hk
    | builtin b =>
      simp only at he ⊢
      cases b <;> simp at hk
      case min =>
        unfold evBuiltin at he ⊢
        split at he <;> first | contradiction | skip
        rename_i h1 h2; exact one he
      case max =>
        unfold evBuiltin at he ⊢
        split at he <;> first | contradiction | skip
        exact one he
      case cap =>
        unfold evBuiltin at he ⊢
        split at he <;> first | contradiction | skip
        exact one he
    | value f =>
      cases f with
      | func f =>
        simp only [opd, evCallee] at he hk ⊢
        cases hx : E.ext f with
        | some p => rw [hx] at he; simp only at he ⊢; exact one he
        | none =>
          rw [hx] at hk; simp only at hk
          cases hm : md f <;> rw [hm] at hk <;> simp at hk
      | _ => simp at hk

theorem kind1 {md : FuncId → Mode} {call : CallF} (hC : CallOk P E call) {o : Op} {s : List V} {h g : Heap} {v : V} (hk : opKind E md o = 1) (he : evOp E md call o s h = some (.val v g)) : g = h := by
  have one : ∀ {x : Option V}, val x h = some (.val v g) → g = h := fun {x} hx => by
    obtain ⟨u, hu, hv⟩ := Option.map_eq_some_iff.1 hx
    cases hv; rfl
  cases o <;> simp only [opKind] at hk <;> simp only [evOp] at he <;> first | (exact one he) | (exfalso; revert hk; decide) | skip
  case binOp op t x y yt =>
    split at he
    · exact one he
    · exact one he
  case convert a b x =>
    obtain ⟨p, hp, he⟩ := Option.map_eq_some_iff.1 he
    cases he
    unfold evConvert at hp
    replace hp := Option.bind_eq_some_iff.1 hp; obtain ⟨sd, hs, hp⟩ := hp
    replace hp := Option.bind_eq_some_iff.1 hp; obtain ⟨dd, hd, hp⟩ := hp
    simp only [hs, hd] at hk
    split at hk
    · cases hk
    · cases hk
    · rename_i e1 e2
      simp only [e1, e2] at hp
      replace hp := Option.bind_eq_some_iff.1 hp; obtain ⟨y, hy, hp⟩ := hp
      split at hp
      · split at hp
        · replace hp := Option.bind_eq_some_iff.1 hp; obtain ⟨q, hq, hp⟩ := hp
          obtain ⟨l, hl, hp⟩ := Option.map_eq_some_iff.1 hp
          cases hp; rfl
        · cases hp
      · cases hp
    · cases hk
  case call c =>
    obtain ⟨callee, args, ats⟩ := c
    simp only at hk he
    cases callee with
    | invoke r m => simp at hk
    | builtin b =>
      simp only at he
      cases b <;> simp at hk
      case len =>
        unfold evBuiltin at he
        split at he <;> first | contradiction | skip
        exact one he
      case unsafeSliceData =>
        unfold evBuiltin at he
        split at he <;> first | contradiction | skip
        exact one he
    | value f =>
      cases f with
      | func f =>
        simp only [opd, evCallee] at he hk
        cases hx : E.ext f with
        | some p => rw [hx] at hk; simp at hk
        | none =>
          rw [hx] at hk he; simp only at hk he
          cases hm : md f <;> rw [hm] at hk he <;> simp at hk
          exact (hC _ _ _ _ _ he).1 rfl v g rfl
      | _ => simp at hk

theorem kinds (md : FuncId → Mode) (o : Op) : opKind E md o = 0 ∨ opKind E md o = 1 ∨ opKind E md o = 2 := by
  cases o <;> simp [opKind]
  case binOp op t x y yt => by_cases h : isPtrT E t = true <;> simp [h]
  case convert a b x =>
    split
    · split
      · exact .inl rfl
      · exact .inl rfl
      · exact .inr (.inl rfl)
      · exact .inr (.inr rfl)
    · exact .inr (.inr rfl)
  case call c =>
    obtain ⟨callee, args, ats⟩ := c
    cases callee with
    | builtin b => cases b <;> simp
    | invoke => simp
    | value f =>
      cases f with
      | func f =>
        simp only
        cases E.ext f with
        | some p => simp
        | none => simp only; cases md f <;> simp
      | _ => simp

theorem wanted_ok {c : Cx} {ops : Array Oper} {s : List V} {a : Act} (hF : FrOk D c s a) {o : Oper} {b : Bool} (h : wantedV ops.toList s o = some b) : Region.wanted o (yielded ops a.tmps) = b := by
  unfold wantedV at h
  unfold Region.wanted
  split at h
  · rename_i hg; rw [hg]; simpa using h
  · rename_i j want hg
    rw [hg]
    simp only
    split at h
    · rename_i t ht
      have ht' : (ops[j]?).bind (·.dst) = some t := by simpa using ht
      have hget := hF.get t
      unfold yielded
      rw [ht']
      simp only [Option.bind_some]
      rw [Array.getD_eq_getD_getElem?] at hget
      split at h
      · rename_i b' hb
        rw [hb] at hget
        have e := hget.bool_inv
        cases hq : a.tmps[t]? with
        | none => rw [hq] at e; simp [undef] at e
        | some x => rw [hq] at e; simp only [Option.getD_some] at e; subst e; simp only; cases h; cases b' <;> cases want <;> rfl
      · rename_i hb
        rw [hb] at hget
        have e := RV.und_inv (c := c) hget
        cases h
        cases hq : a.tmps[t]? with
        | none => rfl
        | some x => rw [hq] at e; simp only [Option.getD_some] at e; subst e; rfl
      · cases h
    · cases h

/-- What must hold where a piece of code is left. -/
def PostOk (D : DPred) (E : Env) (c : Cx) (Q : Exit → Act → World → Prop) (e : Ex) (s' : List V) (h' : Heap) : Prop :=
  ∀ c' a', Ext c c' → Rel E c' → c'.h = h' → FrOk D c' s' a' → match e with
    | .normal => Q .normal a' c'.w
    | .exit id => Q (.exit id) a' c'.w
    | .ret => Q .ret a' c'.w
    | .panic v => ∀ x, RV c' v x → Q (.panic [{ v := x, recovered := false }]) a' c'.w

theorem PostOk.ext {c c' : Cx} {Q : Exit → Act → World → Prop} {e : Ex} {s' : List V} {h' : Heap} (h : PostOk D E c Q e s' h') (hx : Ext c c') : PostOk D E c' Q e s' h' :=
  fun c2 a2 h1 h2 h3 h4 => h c2 a2 (hx.trans h1) h2 h3 h4


theorem getT_set (s : List V) (d t : Nat) (v : V) (h : d ≠ t) : getT (setT s d v) t = getT s t := by
  simp only [getT, setT, setL_get]
  rw [List.getD_eq_getElem?_getD, List.getD_eq_getElem?_getD, List.getElem?_set_ne (by omega)]

theorem getT_put (s : List V) (d : Option Tmp) (v : V) (t : Nat) (h : ∀ x, d = some x → x ≠ t) : getT (putT s d v) t = getT s t := by
  cases d with
  | none => rfl
  | some x => exact getT_set s x t v (h x rfl)

theorem putT_comm (s : List V) (d e : Option Tmp) (v u : V) (h : ∀ x, d = some x → e ≠ some x) : putT (putT s d v) e u = putT (putT s e u) d v := by
  cases d with
  | none => rfl
  | some x =>
    cases e with
    | none => rfl
    | some y =>
      have hne : x ≠ y := fun q => h x rfl (by rw [q])
      simp only [putT, setT, setL_get]
      exact List.set_comm _ _ (fun q => hne (Nat.succ.inj q))

/-- An operation with what it saw and answered in the order that was run. -/
structure Ann where
  i : Nat
  o : Oper
  sl : List V
  v : V
  hb : Heap
  ha : Heap
  /-- it panics -/
  pz : Bool

section
variable (E) (md : FuncId → Mode) (call : CallF) (ops : Array Oper)

def Ann.ev (a : Ann) (h h1 : Heap) : Prop :=
  (wantedV ops.toList a.sl a.o = some true ∧ evOp E md call a.o.op a.sl h = some (.val a.v h1)) ∨ (wantedV ops.toList a.sl a.o = some false ∧ a.v = und ∧ h1 = h)

inductive Run : Ex → List Ann → List V → Heap → List V → Heap → Prop
  | nil (s : List V) (h : Heap) : Run .normal [] s h s h
  | cons {e : Ex} {a : Ann} {l : List Ann} {s : List V} {h h1 : Heap} {s' : List V} {h' : Heap} (hp : a.pz = false) (hl : ∀ t ∈ a.o.looksAt ops, getT s t = getT a.sl t) (he : a.ev E md call ops h h1) (hf : opKind E md a.o.op = 2 → h = a.hb ∧ h1 = a.ha)
      (hr : Run e l (putT s a.o.dst a.v) h1 s' h') : Run e (a :: l) s h s' h'
  | pan {a : Ann} {s : List V} {h h1 : Heap} {v : V} (hp : a.pz = true) (hl : ∀ t ∈ a.o.looksAt ops, getT s t = getT a.sl t) (hw : wantedV ops.toList a.sl a.o = some true) (he : evOp E md call a.o.op a.sl h = some (.pan v h1)) : Run (.panic v) [a] s h s h1

def Comm (a b : Ann) : Prop :=
  b.pz = false ∧ a.o.apart ops b.o = true ∧ (opKind E md a.o.op = 2 → opKind E md b.o.op ≠ 2) ∧
    (opKind E md a.o.op = 2 → opKind E md b.o.op = 1 → wantedV ops.toList b.sl b.o = some true → evOp E md call b.o.op b.sl a.hb = some (.val b.v a.hb)) ∧
    (opKind E md b.o.op = 2 → opKind E md a.o.op = 1 → wantedV ops.toList a.sl a.o = some true → evOp E md call a.o.op a.sl b.ha = some (.val a.v b.ha))
end

variable {md : FuncId → Mode} {call : CallF} {ops : Array Oper}

theorem Run.swap (hC : CallOk P E call) {e : Ex} {a b : Ann} {l : List Ann} {s : List V} {h : Heap} {s' : List V} {h' : Heap} (hr : Run E md call ops e (a :: b :: l) s h s' h') (hc : Comm E md call ops a b) : Run E md call ops e (b :: a :: l) s h s' h' := by
  obtain ⟨hbz, hap, hc1, hc3, hc2⟩ := hc
  obtain ⟨p1, p2, p3⟩ := Oper.apart_spec hap
  cases hr with
  | cons hza hla ha hfa hr =>
    cases hr with
    | pan hp => rw [hbz] at hp; cases hp
    | cons hzb hlb hb hfb hr =>
      rename_i h1 h2
      have lb : ∀ t ∈ b.o.looksAt ops, getT s t = getT b.sl t := fun t ht => by
        rw [← hlb t ht, getT_put]
        intro x hx e; subst e; exact p1 x hx ht
      have la : ∀ t ∈ a.o.looksAt ops, getT (putT s b.o.dst b.v) t = getT a.sl t := fun t ht => by
        rw [← hla t ht, getT_put]
        intro x hx e; subst e; exact p3 x hx ht
      have hr' : Run E md call ops e l (putT (putT s b.o.dst b.v) a.o.dst a.v) h2 s' h' := by
        rw [← putT_comm s a.o.dst b.o.dst a.v b.v p2]; exact hr
      have z : ∀ {x : Ann} {g g1 : Heap}, opKind E md x.o.op = 0 → x.ev E md call ops g g1 → g1 = g ∧ ∀ g2, x.ev E md call ops g2 g2 := by
        intro x g g1 hk hx
        rcases hx with ⟨q1, q2⟩ | ⟨q1, q2, q3⟩
        · obtain ⟨r1, r2⟩ := kind0 hk q2
          exact ⟨r1, fun g2 => .inl ⟨q1, r2 g2⟩⟩
        · exact ⟨q3, fun g2 => .inr ⟨q1, q2, rfl⟩⟩
      have o1 : ∀ {x : Ann} {g g1 : Heap}, opKind E md x.o.op = 1 → x.ev E md call ops g g1 → g1 = g := by
        intro x g g1 hk hx
        rcases hx with ⟨q1, q2⟩ | ⟨q1, q2, q3⟩
        · exact kind1 hC hk q2
        · exact q3
      rcases kinds (E := E) md a.o.op with ka | ka | ka
      · obtain ⟨e1, e2⟩ := z ka ha
        subst e1
        exact .cons hzb lb hb hfb (.cons hza la (e2 _) (fun k => by omega) hr')
      · have e1 := o1 ka ha
        subst e1
        refine .cons hzb lb hb hfb (.cons hza la ?_ (fun k => by omega) hr')
        rcases kinds (E := E) md b.o.op with kb | kb | kb
        · have e2 := (z kb hb).1; subst e2; exact ha
        · have e2 := o1 kb hb; subst e2; exact ha
        · obtain ⟨_, e2⟩ := hfb kb
          rcases ha with ⟨q1, q2⟩ | ⟨q1, q2, q3⟩
          · rw [e2]; exact .inl ⟨q1, hc2 kb ka q1⟩
          · exact .inr ⟨q1, q2, rfl⟩
      · rcases kinds (E := E) md b.o.op with kb | kb | kb
        · obtain ⟨e1, e2⟩ := z kb hb
          subst e1
          exact .cons hzb lb (e2 _) (fun k => by omega) (.cons hza la ha hfa hr')
        · have e1 := o1 kb hb
          subst e1
          obtain ⟨e2, _⟩ := hfa ka
          refine .cons hzb lb ?_ (fun k => by omega) (.cons hza la ha hfa hr')
          rcases hb with ⟨q1, q2⟩ | ⟨q1, q2, q3⟩
          · rw [e2]; exact .inl ⟨q1, hc3 ka kb q1⟩
          · exact .inr ⟨q1, q2, rfl⟩
        · exact absurd kb (hc1 ka)

theorem Run.front (hC : CallOk P E call) {e : Ex} {a : Ann} {l2 : List Ann} {s' : List V} {h' : Heap} : ∀ (l1 : List Ann) (s : List V) (h : Heap), Run E md call ops e (l1 ++ a :: l2) s h s' h' → (∀ x ∈ l1, Comm E md call ops x a) → Run E md call ops e (a :: (l1 ++ l2)) s h s' h'
  | [], s, h, hr, _ => hr
  | x :: l1, s, h, hr, hc => by
    generalize hL : x :: l1 ++ a :: l2 = L at hr
    cases hr with
    | nil => cases hL
    | pan => simp at hL
    | cons hz hl he hf hr =>
      simp only [List.cons_append, List.cons.injEq] at hL
      obtain ⟨rfl, rfl⟩ := hL
      have ih := Run.front hC l1 _ _ hr (fun y hy => hc y (by simp [hy]))
      exact Run.swap hC (.cons hz hl he hf ih) (hc x (by simp))

theorem wantedV_congr {s s' : List V} {o : Oper} (h : ∀ t ∈ o.looksAt ops, getT s t = getT s' t) : wantedV ops.toList s o = wantedV ops.toList s' o := by
  unfold wantedV
  cases hg : o.guard with
  | none => rfl
  | some jw =>
    obtain ⟨j, want⟩ := jw
    simp only
    cases ht : (ops.toList[j]?).bind (·.dst) with
    | none => rfl
    | some t =>
      simp only
      rw [h t (by
        have ht' : (ops[j]?).bind (·.dst) = some t := by simpa using ht
        unfold Oper.looksAt
        rw [hg]
        simp only [ht']
        exact List.mem_append_right _ (by simp))]

theorem evOp_looks {s s' : List V} {o : Oper} {h : Heap} (hl : ∀ t ∈ o.looksAt ops, getT s t = getT s' t) : evOp E md call o.op s h = evOp E md call o.op s' h :=
  evOp_congr fun x hx => opd_congr fun t ht => hl t (by
    subst ht
    exact List.mem_append_left _ (List.mem_filterMap.2 ⟨.tmp t, hx, rfl⟩))

structure Static (E : Env) (md : FuncId → Mode) (ops : Array Oper) (A : List (List Nat)) : Prop where
  lt : ∀ (j : Nat) (y : Oper), ops[j]? = some y → ∀ p ∈ preds y, p < j
  cl : ∀ (j : Nat) (y : Oper), ops[j]? = some y → ∀ x ∈ A.getD j [], x ∈ preds y ∨ ∃ p ∈ preds y, x ∈ A.getD p []
  pair : ∀ (i j : Nat) (x y : Oper), i < j → ops[i]? = some x → ops[j]? = some y → i ∈ A.getD j [] ∨ (x.apart ops y = true ∧ (opKind E md x.op = 2 → opKind E md y.op ≠ 2))

theorem drawOk_spec (h : drawOk E md ops = true) : Static E md ops (ancT ops.toList []) ∧ ∀ (i j : Nat) (x y : Oper), i < j → ops[i]? = some x → ops[j]? = some y → i ∈ (ancT ops.toList []).getD j [] ∨ (opKind E md x.op = 2 → opKind E md y.op = 0) := by
  unfold drawOk at h
  simp only [List.all_eq_true, List.mem_range] at h
  have at' : ∀ (j : Nat) (y : Oper), ops[j]? = some y → _ := fun j y hy => by
    have := h j (Array.getElem?_eq_some_iff.1 hy).1
    rw [hy] at this
    simp only [Bool.and_eq_true] at this
    exact this
  refine ⟨⟨fun j y hy p hp => ?_, fun j y hy x hx => ?_, fun i j x y hij hx hy => ?_⟩, fun i j x y hij hx hy => ?_⟩
  · have := (at' j y hy).1.1
    simp only [List.all_eq_true, decide_eq_true_eq] at this
    exact this p hp
  · have := (at' j y hy).1.2
    simp only [List.all_eq_true, Bool.or_eq_true, List.contains_iff_mem, List.any_eq_true] at this
    exact this x hx
  · have := (at' j y hy).2
    simp only [List.all_eq_true, List.mem_range] at this
    have := this i hij
    rw [hx] at this
    simp only [drawPair, Bool.or_eq_true, List.contains_iff_mem, Bool.and_eq_true] at this
    refine this.imp id fun q => ⟨q.1, fun k => ?_⟩
    have := q.2
    rw [if_pos k] at this
    have e : opKind E md y.op = 0 := by simpa using this
    omega
  · have := (at' j y hy).2
    simp only [List.all_eq_true, List.mem_range] at this
    have := this i hij
    rw [hx] at this
    simp only [drawPair, Bool.or_eq_true, List.contains_iff_mem, Bool.and_eq_true] at this
    refine this.imp id fun q => fun k => ?_
    have := q.2
    rw [if_pos k] at this
    simpa using this

theorem drawOk2_spec (h : drawOk2 E md ops = true) : Static E md ops (ancT ops.toList []) := by
  unfold drawOk2 at h
  simp only [List.all_eq_true, List.mem_range] at h
  have at' : ∀ (j : Nat) (y : Oper), ops[j]? = some y → _ := fun j y hy => by
    have := h j (Array.getElem?_eq_some_iff.1 hy).1
    rw [hy] at this
    simp only [Bool.and_eq_true] at this
    exact this
  refine ⟨fun j y hy p hp => ?_, fun j y hy x hx => ?_, fun i j x y hij hx hy => ?_⟩
  · have := (at' j y hy).1.1
    simp only [List.all_eq_true, decide_eq_true_eq] at this
    exact this p hp
  · have := (at' j y hy).1.2
    simp only [List.all_eq_true, Bool.or_eq_true, List.contains_iff_mem, List.any_eq_true] at this
    exact this x hx
  · have := (at' j y hy).2
    simp only [List.all_eq_true, List.mem_range] at this
    have := this i hij
    rw [hx] at this
    simp only [drawPair2, Bool.or_eq_true, List.contains_iff_mem, Bool.and_eq_true] at this
    refine this.imp id fun q => ⟨q.1, fun k => ?_⟩
    have := q.2
    rw [if_pos k] at this
    simpa using this

/-- What the one order's run tells. -/
theorem draw_run (hC : CallOk P E call) {A : List (List Nat)} (hS : Static E md ops A) : ∀ (n k : Nat) (acc : List (Nat × Op × List V × V)) (ws : List (Nat × Heap)) (s : List V) (h : Heap) (e : Ex) (s' : List V) (h' : Heap), k + n = ops.size → (∀ p ∈ acc, opKind E md p.2.1 = 1) → (∀ p ∈ acc, p.1 < k) →
    evDraw2 E md call A ops.toList k (ops.toList.drop k) acc ws s h = some (e, s', h') →
    ∃ L : List Ann, L.length = n ∧ (∀ x ∈ L, ops[x.i]? = some x.o ∧ k ≤ x.i ∧ (x.pz = true → ∀ i, i < x.i → i ∈ A.getD x.i [])) ∧ (∀ i, k ≤ i → i < ops.size → ∃ x ∈ L, x.i = i) ∧ L.Pairwise (fun x y => x.i < y.i) ∧
      L.Pairwise (fun x y => x.i ∈ A.getD y.i [] ∨ Comm E md call ops x y) ∧ Run E md call ops e L s h s' h' ∧
      (∀ b ∈ L, opKind E md b.o.op = 2 → ∀ p ∈ acc, p.1 ∈ A.getD b.i [] ∨ evOp E md call p.2.1 p.2.2.1 b.ha = some (.val p.2.2.2 b.ha)) ∧
      ∀ b ∈ L, opKind E md b.o.op = 1 → wantedV ops.toList b.sl b.o = some true → ∀ q ∈ ws, b.pz = true ∨ q.1 ∈ A.getD b.i [] ∨ evOp E md call b.o.op b.sl q.2 = some (.val b.v q.2)
  | 0, k, acc, ws, s, h, e, s', h', hk, hacc, haccA, hev => by
    rw [List.drop_eq_nil_of_le (by simp; omega)] at hev
    simp only [evDraw2] at hev
    cases hev
    exact ⟨[], rfl, by simp, fun i h1 h2 => by omega, .nil, .nil, .nil _ _, by simp, by simp⟩
  | n + 1, k, acc, ws, s, h, e, s', h', hk, hacc, haccA, hev => by
    have hlt : k < ops.toList.length := by simp; omega
    have ho : ops[k]? = some ops.toList[k] := by simp [show k < ops.size by omega]
    rw [List.drop_eq_getElem_cons hlt] at hev
    generalize ops.toList[k] = o at ho hev
    simp only [evDraw2] at hev
    replace hev := Option.bind_eq_some_iff.1 hev; obtain ⟨b, hb, hev⟩ := hev
    have hb' := hb
    replace hev := Option.bind_eq_some_iff.1 hev; obtain ⟨r, hr, hev⟩ := hev
    cases r with
    | pan v g =>
      simp only at hev
      split at hev
      · rename_i hcond
        obtain ⟨hbt, hlen, hall⟩ := hcond
        subst hbt
        rw [if_pos rfl] at hr
        cases hev
        have hn0 : n = 0 := by simp at hlen; omega
        subst hn0
        refine ⟨[⟨k, o, s, v, h, h, true⟩], rfl, fun x hx => ?_, fun i h1 h2 => ?_, ?_, ?_, .pan rfl (fun t _ => rfl) hb hr, ?_, fun b hb1 _ _ q _ => ?_⟩
        · rcases List.mem_singleton.1 hx with rfl
          refine ⟨ho, Nat.le_refl _, fun _ i hi => ?_⟩
          have := List.all_eq_true.1 hall i (List.mem_range.2 hi)
          simpa using this
        · exact ⟨_, List.mem_singleton.2 rfl, by simp; omega⟩
        · exact List.pairwise_singleton _ _
        · exact List.pairwise_singleton _ _
        · intro b hb1 _ p hp
          rcases List.mem_singleton.1 hb1 with rfl
          exact .inl (by have := List.all_eq_true.1 hall p.1 (List.mem_range.2 (haccA p hp)); simpa using this)
        · rcases List.mem_singleton.1 hb1 with rfl
          exact .inl rfl
      · cases hev
    | val rv rh =>
    simp only at hev
    have hann : ∀ (ann : Ann), ann.o = o → ann.sl = s → ann.v = rv → ann.ev E md call ops h rh := by
      rintro ⟨i, o', sl, v, hb', ha', pz⟩ rfl rfl rfl
      split at hr
      · rename_i hbt; subst hbt
        exact .inl ⟨hb, hr⟩
      · rename_i hbf
        have : b = false := by simpa using hbf
        subst this
        cases hr
        exact .inr ⟨hb, rfl, rfl⟩
    split at hev
    · rename_i h2
      split at hev
      · rename_i hall
        obtain ⟨L, l1, l2, l3, l4, l5, l6, l7, l8⟩ := draw_run hC hS n (k + 1) acc _ _ _ e s' h' (by omega) hacc (fun p hp => by have := haccA p hp; omega) hev
        refine ⟨⟨k, o, s, rv, h, rh, false⟩ :: L, by simp [l1], fun x hx => ?_, fun i h1 h2 => ?_, ?_, ?_, ?_, fun b hb hb2 p hp => ?_, fun b hb hb2 hbw q hq => ?_⟩
        · rcases List.mem_cons.1 hx with rfl | hx
          · exact ⟨ho, Nat.le_refl _, fun h => by cases h⟩
          · obtain ⟨q1, q2, q3⟩ := l2 x hx; exact ⟨q1, by omega, q3⟩
        · by_cases e : k = i
          · exact ⟨_, List.mem_cons_self .., e⟩
          · obtain ⟨x, hx, hxi⟩ := l3 i (by omega) h2; exact ⟨x, List.mem_cons_of_mem _ hx, hxi⟩
        · exact .cons (fun y hy => by have := (l2 y hy).2.1; simp only; omega) l4
        · refine .cons (fun y hy => ?_) l5
          obtain ⟨q1, q2, q3⟩ := l2 y hy
          by_cases hyz : y.pz = true
          · exact .inl (q3 hyz k (by omega))
          rcases hS.pair k y.i o y.o (by omega) ho q1 with u | ⟨u1, u2⟩
          · exact .inl u
          by_cases hy1 : opKind E md y.o.op = 1 ∧ wantedV ops.toList y.sl y.o = some true
          · rcases l8 y hy hy1.1 hy1.2 (k, h) (List.mem_cons_self ..) with u | u | u
            · exact absurd u hyz
            · exact .inl u
            · exact .inr ⟨by simpa using hyz, u1, u2, fun _ _ _ => u, fun u3 u4 => by simp only at u4; omega⟩
          · exact .inr ⟨by simpa using hyz, u1, u2, fun _ u4 u5 => absurd ⟨u4, u5⟩ hy1, fun u3 u4 => by simp only at u4; omega⟩
        · exact .cons rfl (fun t _ => rfl) (hann _ rfl rfl rfl) (fun _ => ⟨rfl, rfl⟩) l6
        · rcases List.mem_cons.1 hb with rfl | hb
          · have := List.all_eq_true.1 hall p hp
            simp only [Bool.or_eq_true, List.contains_iff_mem] at this
            refine this.imp id fun q => ?_
            unfold stillV at q
            split at q
            · rename_i u g hu
              have e1 : u = p.2.2.2 := by simpa using q
              have e2 := kind1 hC (hacc p hp) hu
              rw [hu, e1, e2]
            · cases q
          · exact l7 b hb hb2 p hp
        · rcases List.mem_cons.1 hb with rfl | hb
          · simp only at hb2; omega
          · exact l8 b hb hb2 hbw q (List.mem_cons_of_mem _ hq)
      · cases hev
    · rename_i h2
      split at hev
      · rename_i hk1
        split at hev
        · rename_i hws
          obtain ⟨L, l1, l2, l3, l4, l5, l6, l7, l8⟩ := draw_run hC hS n (k + 1) _ _ _ _ e s' h' (by omega) (by
            intro p hp
            rcases List.mem_cons.1 hp with rfl | hp
            · exact hk1.1
            · exact hacc p hp) (by
            intro p hp
            rcases List.mem_cons.1 hp with rfl | hp
            · exact Nat.lt_succ_self k
            · have := haccA p hp; omega) hev
          refine ⟨⟨k, o, s, rv, h, rh, false⟩ :: L, by simp [l1], fun x hx => ?_, fun i h1 h2 => ?_, ?_, ?_, ?_, fun b hb hb2 p hp => ?_, fun b hb hb2 hbw q hq => ?_⟩
          · rcases List.mem_cons.1 hx with rfl | hx
            · exact ⟨ho, Nat.le_refl _, fun h => by cases h⟩
            · obtain ⟨q1, q2, q3⟩ := l2 x hx; exact ⟨q1, by omega, q3⟩
          · by_cases e : k = i
            · exact ⟨_, List.mem_cons_self .., e⟩
            · obtain ⟨x, hx, hxi⟩ := l3 i (by omega) h2; exact ⟨x, List.mem_cons_of_mem _ hx, hxi⟩
          · exact .cons (fun y hy => by have := (l2 y hy).2.1; simp only; omega) l4
          · refine .cons (fun y hy => ?_) l5
            obtain ⟨q1, q2, q3⟩ := l2 y hy
            by_cases hyz : y.pz = true
            · exact .inl (q3 hyz k (by omega))
            rcases hS.pair k y.i o y.o (by omega) ho q1 with u | ⟨u1, u2⟩
            · exact .inl u
            · by_cases hy2 : opKind E md y.o.op = 2
              · rcases l7 y hy hy2 (k, o.op, s, rv) (List.mem_cons_self ..) with u | u
                · exact .inl u
                · exact .inr ⟨by simpa using hyz, u1, u2, fun u3 => absurd u3 h2, fun _ _ _ => u⟩
              · exact .inr ⟨by simpa using hyz, u1, u2, fun u3 => absurd u3 h2, fun u3 => absurd u3 hy2⟩
          · exact .cons rfl (fun t _ => rfl) (hann _ rfl rfl rfl) (fun q => absurd q h2) l6
          · rcases List.mem_cons.1 hb with rfl | hb
            · exact absurd hb2 h2
            · exact l7 b hb hb2 p (List.mem_cons_of_mem _ hp)
          · rcases List.mem_cons.1 hb with rfl | hb
            · have := List.all_eq_true.1 hws q hq
              simp only [Bool.or_eq_true, List.contains_iff_mem] at this
              refine .inr (this.imp id fun z => ?_)
              unfold stillV at z
              split at z
              · rename_i u g hu
                have e1 : u = rv := by simpa using z
                have e2 := kind1 hC hk1.1 hu
                rw [hu, e1, e2]
              · cases z
            · exact l8 b hb hb2 hbw q hq
        · cases hev
      · rename_i hk1
        obtain ⟨L, l1, l2, l3, l4, l5, l6, l7, l8⟩ := draw_run hC hS n (k + 1) _ _ _ _ e s' h' (by omega) hacc (fun p hp => by have := haccA p hp; omega) hev
        refine ⟨⟨k, o, s, rv, h, rh, false⟩ :: L, by simp [l1], fun x hx => ?_, fun i h1 h2 => ?_, ?_, ?_, ?_, fun b hb hb2 p hp => ?_, fun b hb hb2 hbw q hq => ?_⟩
        · rcases List.mem_cons.1 hx with rfl | hx
          · exact ⟨ho, Nat.le_refl _, fun h => by cases h⟩
          · obtain ⟨q1, q2, q3⟩ := l2 x hx; exact ⟨q1, by omega, q3⟩
        · by_cases e : k = i
          · exact ⟨_, List.mem_cons_self .., e⟩
          · obtain ⟨x, hx, hxi⟩ := l3 i (by omega) h2; exact ⟨x, List.mem_cons_of_mem _ hx, hxi⟩
        · exact .cons (fun y hy => by have := (l2 y hy).2.1; simp only; omega) l4
        · refine .cons (fun y hy => ?_) l5
          obtain ⟨q1, q2, q3⟩ := l2 y hy
          by_cases hyz : y.pz = true
          · exact .inl (q3 hyz k (by omega))
          rcases hS.pair k y.i o y.o (by omega) ho q1 with u | ⟨u1, u2⟩
          · exact .inl u
          · refine .inr ⟨by simpa using hyz, u1, u2, fun u3 => absurd u3 h2, fun u3 u4 u5 => ?_⟩
            simp only at u4 u5
            rw [hb] at u5
            exact absurd ⟨u4, by simpa using u5⟩ hk1
        · exact .cons rfl (fun t _ => rfl) (hann _ rfl rfl rfl) (fun q => absurd q h2) l6
        · rcases List.mem_cons.1 hb with rfl | hb
          · exact absurd hb2 h2
          · exact l7 b hb hb2 p hp
        · rcases List.mem_cons.1 hb with rfl | hb
          · simp only at hb2 hbw
            rw [hb'] at hbw
            exact absurd ⟨hb2, by simpa using hbw⟩ hk1
          · exact l8 b hb hb2 hbw q hq

theorem mem_preds {o : Oper} {p : Nat} : p ∈ preds o ↔ ∃ e ∈ o.after, Region.binds .any e = true ∧ e.on = p := by
  unfold preds
  simp only [List.mem_map, List.mem_filter, Array.mem_toList_iff]
  constructor
  · rintro ⟨e, ⟨h1, h2⟩, h3⟩; exact ⟨e, h1, h2, h3⟩
  · rintro ⟨e, h1, h2, h3⟩; exact ⟨e, ⟨h1, h2⟩, h3⟩

theorem getD_set {listed : Array Bool} {i j : Nat} (hi : i < listed.size) (d : Bool) : (listed.setIfInBounds i true).getD j d = if i = j then true else listed.getD j d := by
  by_cases e : i = j
  · subst e; rw [if_pos rfl]; simp [hi]
  · rw [if_neg e]; exact getD_set_ne d e

theorem any_sound (hE : EnvOk P E) (hC : CallOk P E call) {A : List (List Nat)} (hS : Static E md ops A) {Q : Exit → Act → World → Prop} {e : Ex} {s' : List V} {h' : Heap} : ∀ (fuel : Nat) (L : List Ann) (listed : Array Bool) (c : Cx) (s : List V) (a : Act),
    L.length ≤ fuel → listed.size = ops.size → (∀ x ∈ L, ops[x.i]? = some x.o ∧ listed.getD x.i true = false) → (∀ i, i < ops.size → listed.getD i true = false → ∃ x ∈ L, x.i = i) → L.Pairwise (fun x y => x.i < y.i) →
    L.Pairwise (fun x y => x.i ∈ A.getD y.i [] ∨ Comm E md call ops x y) → (∀ i, listed.getD i false = true → ∀ p ∈ A.getD i [], listed.getD p false = true) →
    Rel E c → FrOk D c s a → Run E md call ops e L s c.h s' h' → PostOk D E c Q e s' h' → wpAnyIn (Fo ro) fk P .any ops Q fuel listed a c.w := by
  intro fuel
  induction fuel with
  | zero =>
    intro L listed c s a hlen hsz hL hcov hsort hpw hdown hR hF hrun hP
    have : L = [] := by cases L with | nil => rfl | cons => simp at hlen
    subst this
    refine ⟨?_, by cases hrun; exact hP c a (Ext.refl c) hR rfl hF⟩
    rw [List.eq_nil_iff_forall_not_mem]
    intro i hi
    obtain ⟨h1, o, ho, _⟩ := mem_ready.1 hi
    obtain ⟨x, hx, _⟩ := hcov i (Array.getElem?_eq_some_iff.1 ho).1 h1
    simp at hx
  | succ fuel ih =>
    intro L listed c s a hlen hsz hL hcov hsort hpw hdown hR hF hrun hP
    have both : ∀ i, i < ops.size → listed.getD i true = false → listed.getD i false = true → False := fun i hi h1 h2 => by
      have hi' : i < listed.size := by omega
      simp [hi'] at h1 h2
      rw [h1] at h2; cases h2
    refine ⟨fun hnil => ?_, fun i hi => ?_⟩
    · cases L with
      | nil => cases hrun; exact hP c a (Ext.refl c) hR rfl hF
      | cons x L =>
        exfalso
        obtain ⟨q1, q2⟩ := hL x (List.mem_cons_self ..)
        have : x.i ∈ Region.ready .any ops listed := by
          refine mem_ready.2 ⟨q2, x.o, q1, fun e he hb => ?_⟩
          have hp : e.on ∈ preds x.o := mem_preds.2 ⟨e, he, hb, rfl⟩
          have hlt := hS.lt x.i x.o q1 _ hp
          have hxs := (Array.getElem?_eq_some_iff.1 q1).1
          cases hq : listed.getD e.on true with
          | false =>
            obtain ⟨y, hy, hyi⟩ := hcov e.on (by omega) hq
            rcases List.mem_cons.1 hy with rfl | hy
            · omega
            · have := (List.pairwise_cons.1 hsort).1 y hy; omega
          | true =>
            have : e.on < listed.size := by omega
            simp [this] at hq ⊢; exact hq
        rw [hnil] at this; cases this
    · obtain ⟨hun, o, ho, hall⟩ := mem_ready.1 hi
      have hio := (Array.getElem?_eq_some_iff.1 ho).1
      obtain ⟨x, hx, hxi⟩ := hcov i hio hun
      obtain ⟨l1, l2, rfl⟩ := List.append_of_mem hx
      obtain ⟨hxo, _⟩ := hL x hx
      subst hxi
      rw [ho] at hxo
      have eo : o = x.o := by simpa using hxo
      subst eo
      -- what comes ahead of it has been
      have hanc : ∀ p ∈ A.getD x.i [], listed.getD p false = true := fun p hp => by
        rcases hS.cl x.i x.o ho p hp with q | ⟨y, hy, q⟩
        · obtain ⟨e, he, hb, rfl⟩ := mem_preds.1 q; exact hall e he hb
        · obtain ⟨e, he, hb, rfl⟩ := mem_preds.1 hy; exact hdown _ (hall e he hb) p q
      have hcomm : ∀ y ∈ l1, Comm E md call ops y x := fun y hy => by
        have hyL : y ∈ l1 ++ x :: l2 := List.mem_append_left _ hy
        rcases (List.pairwise_append.1 hpw).2.2 y hy x (List.mem_cons_self ..) with q | q
        · obtain ⟨u1, u2⟩ := hL y hyL
          exact absurd (hanc _ q) (fun w => both _ (Array.getElem?_eq_some_iff.1 u1).1 u2 w)
        · exact q
      have hrun' := Run.front hC l1 s c.h hrun hcomm
      have hsub : (l1 ++ l2).Sublist (l1 ++ x :: l2) := List.Sublist.append (List.Sublist.refl _) (List.sublist_cons_self ..)
      have hne : ∀ y ∈ l1 ++ l2, x.i ≠ y.i := fun y hy => by
        obtain ⟨s1, s2, s3⟩ := List.pairwise_append.1 hsort
        rcases List.mem_append.1 hy with hy | hy
        · have := s3 y hy x (List.mem_cons_self ..); omega
        · have := (List.pairwise_cons.1 s2).1 y hy; omega
      have step : ∀ (c' : Cx) (a' : Act), Ext c c' → Rel E c' → FrOk D c' (putT s x.o.dst x.v) a' → Run E md call ops e (l1 ++ l2) (putT s x.o.dst x.v) c'.h s' h' → wpAnyIn (Fo ro) fk P .any ops Q fuel (listed.setIfInBounds x.i true) a' c'.w := by
        intro c' a' hext hR' hF' hrest
        refine ih (l1 ++ l2) _ c' _ a' (by simp at hlen ⊢; omega) (by simp [hsz]) (fun y hy => ?_) (fun j hj hl => ?_) (hsort.sublist hsub) (hpw.sublist hsub) (fun j hj p hp => ?_) hR' hF' hrest (hP.ext hext)
        · obtain ⟨u1, u2⟩ := hL y (hsub.subset hy)
          exact ⟨u1, by rw [getD_set (by omega), if_neg (hne y hy)]; exact u2⟩
        · rw [getD_set (by omega)] at hl
          split at hl
          · cases hl
          · rename_i hij
            obtain ⟨y, hy, hyj⟩ := hcov j hj hl
            refine ⟨y, ?_, hyj⟩
            rcases List.mem_append.1 hy with hy | hy
            · exact List.mem_append_left _ hy
            · rcases List.mem_cons.1 hy with rfl | hy
              · exact absurd hyj hij
              · exact List.mem_append_right _ hy
        · rw [getD_set (by omega)] at hj ⊢
          split
          · rfl
          · split at hj
            · rename_i e; subst e; exact hanc p hp
            · exact hdown j hj p hp
      generalize hL1 : x :: (l1 ++ l2) = L1 at hrun'
      cases hrun' with
      | nil => cases hL1
      | pan hz hl hw hev =>
        simp only [List.cons.injEq] at hL1
        obtain ⟨rfl, hL2⟩ := hL1
        unfold wpOpIn
        rw [ho]
        simp only
        rw [wanted_ok hF ((wantedV_congr (ops := ops) hl).trans hw), if_pos rfl]
        rw [← evOp_looks (ops := ops) hl] at hev
        refine op_in hE hR hC hF hev ?_
        intro c' y hext hR' hh hv
        exact hP c' a hext hR' hh (hF.mono hext) y hv
      | cons hz hl hev heff hrest =>
        rename_i h1
        simp only [List.cons.injEq] at hL1
        obtain ⟨rfl, rfl⟩ := hL1
        unfold wpOpIn
        rw [ho]
        simp only
        have hw := wantedV_congr (ops := ops) hl
        rcases hev with ⟨q1, q2⟩ | ⟨q1, q2, q3⟩
        · rw [wanted_ok hF (hw.trans q1), if_pos rfl]
          rw [← evOp_looks (ops := ops) hl] at q2
          refine op_in hE hR hC hF q2 ?_
          intro c' y hext hR' hh hv
          exact step c' _ hext hR' ((hF.mono hext).put _ hv) (by rw [hh]; exact hrest)
        · rw [wanted_ok hF (hw.trans q1), if_neg (by simp)]
          refine ⟨fun f _ => Fo.fn ro f, ?_⟩
          subst q3
          rw [q2] at hrest step
          exact step c _ (Ext.refl c) hR (hF.put _ (RV.undM c)) hrest

theorem draw_sound2 (hE : EnvOk P E) (hC : CallOk P E call) (hS : Static E md ops (ancT ops.toList [])) {id : Nat} {Q : Exit → Act → World → Prop} {c : Cx} {s : List V} {a : Act} {e : Ex} {s' : List V} {h' : Heap} (hR : Rel E c) (hF : FrOk D c s a)
    (hev : evDraw2 E md call (ancT ops.toList []) ops.toList 0 ops.toList [] [] s c.h = some (e, s', h')) (hP : PostOk D E c Q e s' h') : (Code.region id ops true).wpIn (Fo ro) fk P Q a c.w := by
  obtain ⟨L, l1, l2, l3, l4, l5, l6, l7, l8⟩ := draw_run hC hS ops.size 0 [] [] s c.h e s' h' (by omega) (by simp) (by simp) (by simpa using hev)
  refine wpIn_region_any hE.mixed ?_
  obtain ⟨k1, k2⟩ := hR.grow { c.w with drawn := c.w.drawn + 1 } (fun r _ => rfl) (Nat.le_refl _)
  have hrep : ∀ i, i < ops.size → (Array.replicate ops.size false).getD i true = false := fun i hi => by simp [hi]
  refine any_sound hE hC hS ops.size L (Array.replicate ops.size false) { c with w := { c.w with drawn := c.w.drawn + 1 } } s a (by omega) (by simp) (fun x hx => ?_) (fun i hi _ => ?_) l4 l5 (fun i hi => ?_) k2 (hF.mono k1) l6 (hP.ext k1)
  · obtain ⟨q1, _⟩ := l2 x hx
    exact ⟨q1, hrep _ (Array.getElem?_eq_some_iff.1 q1).1⟩
  · exact l3 i (Nat.zero_le _) hi
  · by_cases h : i < ops.size
    · simp [h] at hi
    · simp [h] at hi

/-- Where nothing reads behind what turns memory, the two are one. -/
theorem draw_to2 {A : List (List Nat)} (hS0 : ∀ (i j : Nat) (x y : Oper), i < j → ops[i]? = some x → ops[j]? = some y → i ∈ A.getD j [] ∨ (opKind E md x.op = 2 → opKind E md y.op = 0)) : ∀ (n k : Nat) (acc : List (Nat × Op × List V × V)) (ws : List (Nat × Heap)) (s : List V) (h : Heap) (r : Ex × List V × Heap), k + n = ops.size → (∀ q ∈ ws, q.1 < k ∧ ∃ x, ops[q.1]? = some x ∧ opKind E md x.op = 2) →
    evDraw E md call A ops.toList k (ops.toList.drop k) acc s h = some r → evDraw2 E md call A ops.toList k (ops.toList.drop k) acc ws s h = some r
  | 0, k, acc, ws, s, h, r, hk, hws, hev => by
    rw [List.drop_eq_nil_of_le (by simp; omega)] at hev ⊢
    simpa only [evDraw, evDraw2] using hev
  | n + 1, k, acc, ws, s, h, r, hk, hws, hev => by
    have hlt : k < ops.toList.length := by simp; omega
    have ho : ops[k]? = some ops.toList[k] := by simp [show k < ops.size by omega]
    rw [List.drop_eq_getElem_cons hlt] at hev ⊢
    generalize ops.toList[k] = o at ho hev ⊢
    simp only [evDraw] at hev
    simp only [evDraw2]
    replace hev := Option.bind_eq_some_iff.1 hev; obtain ⟨b, hb, hev⟩ := hev
    replace hev := Option.bind_eq_some_iff.1 hev; obtain ⟨x, hx, hev⟩ := hev
    rw [hb, Option.bind_some, hx, Option.bind_some]
    have up : ∀ q ∈ ws, q.1 < k + 1 ∧ ∃ x, ops[q.1]? = some x ∧ opKind E md x.op = 2 := fun q hq => ⟨by have := (hws q hq).1; omega, (hws q hq).2⟩
    cases x with
    | pan v g => exact hev
    | val v g =>
      simp only at hev ⊢
      by_cases h2 : opKind E md o.op = 2
      · rw [if_pos h2] at hev ⊢
        split at hev
        · rename_i hc
          rw [if_pos hc]
          exact draw_to2 hS0 n (k + 1) _ _ _ _ r (by omega) (fun q hq => by
            rcases List.mem_cons.1 hq with rfl | hq
            · exact ⟨Nat.lt_succ_self k, o, ho, h2⟩
            · exact up q hq) hev
        · cases hev
      · rw [if_neg h2] at hev ⊢
        by_cases h1 : opKind E md o.op = 1 ∧ b = true
        · rw [if_pos h1] at hev ⊢
          rw [if_pos (List.all_eq_true.2 fun q hq => by
            obtain ⟨q1, y, q2, q3⟩ := hws q hq
            rcases hS0 q.1 k y o q1 q2 ho with u | u
            · rw [Bool.or_eq_true]; exact .inl (List.contains_iff_mem.2 u)
            · have := u q3; omega)]
          exact draw_to2 hS0 n (k + 1) _ _ _ _ r (by omega) up hev
        · rw [if_neg h1] at hev ⊢
          exact draw_to2 hS0 n (k + 1) _ _ _ _ r (by omega) up hev

theorem draw_sound (hE : EnvOk P E) (hC : CallOk P E call) (hok : drawOk E md ops = true) {id : Nat} {Q : Exit → Act → World → Prop} {c : Cx} {s : List V} {a : Act} {e : Ex} {s' : List V} {h' : Heap} (hR : Rel E c) (hF : FrOk D c s a)
    (hev : evDraw E md call (ancT ops.toList []) ops.toList 0 ops.toList [] s c.h = some (e, s', h')) (hP : PostOk D E c Q e s' h') : (Code.region id ops true).wpIn (Fo ro) fk P Q a c.w := by
  obtain ⟨hS, hS0⟩ := drawOk_spec hok
  exact draw_sound2 hE hC hS hR hF (draw_to2 hS0 ops.size 0 [] [] s c.h _ (by omega) (by simp) (by simpa using hev)) hP

end
end Go.Sb

/- Regions, code, functions: what the evaluator answers holds for every run of the machine. -/

namespace Go.Sb
section
variable {P : Program} {E : Env} {D : DPred} {ro : Option Nat} {fk : Nat}

theorem ops_sound (hE : EnvOk P E) {md : FuncId → Mode} {call : CallF} (hC : CallOk P E call) (ops : Array Oper) {Q : Exit → Act → World → Prop} : ∀ (n k : Nat) (c : Cx) (s : List V) (a : Act) (e : Ex) (s' : List V) (h' : Heap),
    k + n = ops.size → Rel E c → FrOk D c s a → evOps E md call ops.toList (ops.toList.drop k) s c.h = some (e, s', h') → PostOk D E c Q e s' h' → wpOpsIn (Fo ro) fk P ops Q (List.range' k n) a c.w
  | 0, k, c, s, a, e, s', h', hk, hR, hF, hev, hP => by
    rw [List.drop_eq_nil_of_le (by simp; omega)] at hev
    simp only [evOps] at hev
    cases hev
    exact hP c a (Ext.refl c) hR rfl hF
  | n + 1, k, c, s, a, e, s', h', hk, hR, hF, hev, hP => by
    have hlt : k < ops.toList.length := by simp; omega
    rw [List.drop_eq_getElem_cons hlt] at hev
    have ho : ops[k]? = some ops.toList[k] := by simp [show k < ops.size by omega]
    simp only [evOps] at hev
    replace hev := Option.bind_eq_some_iff.1 hev; obtain ⟨b, hb, hev⟩ := hev
    have hw := wanted_ok (ops := ops) hF hb
    rw [List.range'_succ]
    simp only [wpOpsIn, ho, hw]
    split at hev
    · rename_i hbt
      subst hbt
      rw [if_pos rfl]
      replace hev := Option.bind_eq_some_iff.1 hev; obtain ⟨r, hr, hev⟩ := hev
      refine op_in hE hR hC hF hr ?_
      cases r with
      | val v h1 =>
        intro c' x hx hR' hh hv
        exact ops_sound hE hC ops n (k + 1) c' _ _ e s' h' (by omega) hR' ((hF.mono hx).put _ hv) (by rw [hh]; exact hev) (hP.ext hx)
      | pan v h1 =>
        intro c' x hx hR' hh hv
        cases hev
        exact hP c' a hx hR' hh (hF.mono hx) x hv
    · rename_i hbf
      have : b = false := by simpa using hbf
      subst this
      rw [if_neg (by simp)]
      refine ⟨fun f _ => Fo.fn ro f, ?_⟩
      exact ops_sound hE hC ops n (k + 1) c _ _ e s' h' (by omega) hR (hF.put _ (RV.undM c)) hev hP

/-- A loop, round by round. -/
theorem wpIn_loop_rounds' {F : Fence} {c : Code} {Q : Exit → Act → World → Prop} (R : Nat → Act → World → Prop) (hr : ∀ n a w, R (n + 1) a w → c.wpIn F fk P (Exit.then (R n) Q) a w) (h0 : ∀ a w, ¬ R 0 a w) : ∀ n a w, R n a w → (Code.loop c).wpIn F fk P Q a w := by
  intro n a w h b k cs hro hb hrm
  have key : ∀ n a w, R n a w → ∃ e a' w', Q e a' w' ∧ ArrivesIn (Machine.fenced P F) P (lone (b.atR a (.code c :: .inLoop c :: k)) cs w) b k cs e a' w' := by
    intro n
    induction n with
    | zero => intro a w h; exact absurd h (h0 a w)
    | succ n ih =>
      intro a w h
      obtain ⟨e, a₁, w₁, hq, harr⟩ := hr n a w h b (.inLoop c :: k) cs hro hb hrm
      cases e with
      | normal =>
        obtain ⟨e₂, a₂, w₂, hq₂, harr₂⟩ := ih a₁ w₁ hq
        exact ⟨e₂, a₂, w₂, hq₂, .of_steps (StepsIn.trans harr (.one (fenced_calm hb hrm rfl) stepR_inLoop)) harr₂⟩
      | exit id => exact ⟨_, a₁, w₁, hq, .pass (x := .inLoop c) rfl (fun _ _ => .inl (by simp)) harr⟩
      | goto l => exact ⟨_, a₁, w₁, hq, .pass (x := .inLoop c) rfl (fun _ _ => .inl (by simp)) harr⟩
      | ret => exact ⟨_, a₁, w₁, hq, .pass (x := .inLoop c) rfl (fun _ _ => .inl (by simp)) harr⟩
      | panic ch => exact ⟨_, a₁, w₁, hq, .pass (x := .inLoop c) rfl (fun _ _ => .inl (by simp)) harr⟩
      | outgrown => exact ⟨_, a₁, w₁, hq, .pass (x := .inLoop c) rfl (fun _ _ => .inl (by simp)) harr⟩
  obtain ⟨e, a', w', hq, harr⟩ := key n a w h
  exact ⟨e, a', w', hq, .of_steps (.one (fenced_calm hb hrm rfl) stepR_loop) harr⟩

theorem setObj_run {w : World} {r : Nat} {o0 o : Obj} (h : w.heap[r]? = some o0) (hn : ∀ C T fz, o0 ≠ .cells C T fz) : (setObj r o).run P w = .ok () (setB w r o) := by
  simp only [setObj, Sem.run, h]
  cases o0 with
  | cells C T fz => exact absurd rfl (hn C T fz)
  | _ => rfl
theorem getObj_run {w : World} {r : Nat} {o : Obj} (h : w.heap[r]? = some o) (hn : ∀ C T fz, o ≠ .cells C T fz) : (getObj r).run P w = .ok o w := by
  simp only [getObj, Sem.run, h]
theorem getLoop_run {w : World} {r : Nat} {lp : Loop} (h : w.heap[r]? = some (.loop lp)) : (Instr.getLoop r).run P w = .ok lp w := by simp [Instr.getLoop, getObj, Sem.run, h]

/-- A loop's record turns. -/
theorem turn_loop {c : Cx} (hR : Rel E c) {b : Nat} {L L' : LoopD} {lp lp' : Loop} (hb : c.h[b]? = some (.siter L)) (hw : c.w.heap[(c.ρ b).1]? = some (.loop lp)) (h : LoopOk c L' lp') :
    Ext c (objC c b (.siter L') (.loop lp')) ∧ Rel E (objC c b (.siter L') (.loop lp')) :=
  hR.obj hb (by simp) hw (by simp) (by simp) (fun ⟨_, h⟩ => by cases h) (fun _ => ⟨L, hb⟩) (fun _ h => by cases h) (fun L'' h' => by cases h'; exact ⟨lp', rfl, h⟩)

theorem code_sound (hE : EnvOk P E) {md : FuncId → Mode} {call : CallF} (hC : CallOk P E call) (n : Nat) : ∀ (code : Code) (Q : Exit → Act → World → Prop) (c : Cx) (s : List V) (a : Act) (e : Ex) (s' : List V) (h' : Heap),
    (plainC code = true ∨ (ro = none ∧ Marky D)) → Rel E c → FrOk D c s a → evCode E md call n code s c.h = some (e, s', h') → PostOk D E c Q e s' h' → code.wpIn (Fo ro) fk P Q a c.w := by
  intro code
  induction code with
  | skip =>
    intro Q c s a e s' h' hp hR hF hev hP
    simp only [evCode] at hev; cases hev
    exact wpIn_skip (hP c a (Ext.refl c) hR rfl hF)
  | region id ops draw =>
    intro Q c s a e s' h' hp hR hF hev hP
    simp only [evCode] at hev
    cases draw with
    | false =>
      simp only [Bool.false_eq_true, if_false] at hev
      refine wpIn_region ?_
      rw [List.range_eq_range']
      exact ops_sound hE hC ops ops.size 0 c s a e s' h' (by omega) hR hF (by simpa using hev) hP
    | true =>
      simp only [if_true] at hev
      split at hev
      · rename_i hok
        exact draw_sound hE hC hok hR hF hev hP
      · split at hev
        · rename_i hok
          exact draw_sound2 hE hC (drawOk2_spec hok) hR hF hev hP
        · cases hev
  | seq x y ihx ihy =>
    intro Q c s a e s' h' hp hR hF hev hP
    simp only [evCode] at hev
    replace hev := Option.bind_eq_some_iff.1 hev; obtain ⟨r, hr, hev⟩ := hev
    obtain ⟨e1, s1, h1⟩ := r
    refine wpIn_seq (ihx _ c s a e1 s1 h1 (hp.imp (fun h => (Bool.and_eq_true_iff.1 h).1) id) hR hF hr ?_)
    intro c' a' hx hR' hh hF'
    cases e1 with
    | normal =>
      simp only at hev
      exact ihy Q c' s1 a' e s' h' (hp.imp (fun h => (Bool.and_eq_true_iff.1 h).2) id) hR' hF' (by rw [hh]; exact hev) (hP.ext hx)
    | exit i => simp only at hev; cases hev; exact hP c' a' hx hR' hh hF'
    | ret => simp only at hev; cases hev; exact hP c' a' hx hR' hh hF'
    | panic v => simp only at hev; cases hev; exact hP c' a' hx hR' hh hF'
  | cond cc x y ihx ihy =>
    intro Q c s a e s' h' hp hR hF hev hP
    simp only [evCode] at hev
    split at hev
    · rename_i t ht
      have hv := opd_ok hR hF cc
      rw [ht] at hv
      refine wpIn_cond (t := t) hv.bool_inv ?_
      cases t with
      | true => exact ihx Q c s a e s' h' (hp.imp (fun h => (Bool.and_eq_true_iff.1 h).1) id) hR hF (by simpa using hev) hP
      | false => exact ihy Q c s a e s' h' (hp.imp (fun h => (Bool.and_eq_true_iff.1 h).2) id) hR hF (by simpa using hev) hP
    · cases hev
  | block id x ih =>
    intro Q c s a e s' h' hp hR hF hev hP
    simp only [evCode] at hev
    replace hev := Option.bind_eq_some_iff.1 hev; obtain ⟨r, hr, hev⟩ := hev
    obtain ⟨e1, s1, h1⟩ := r
    refine wpIn_block (ih _ c s a e1 s1 h1 hp hR hF hr ?_)
    intro c' a' hx hR' hh hF'
    cases e1 with
    | normal => simp only at hev; cases hev; exact hP c' a' hx hR' hh hF'
    | exit i =>
      simp only at hev
      simp only [Exit.inBlock]
      split at hev
      · rename_i hi; cases hev; rw [if_pos hi]; exact hP c' a' hx hR' hh hF'
      · rename_i hi; cases hev; rw [if_neg hi]; exact hP c' a' hx hR' hh hF'
    | ret => simp only at hev; cases hev; exact hP c' a' hx hR' hh hF'
    | panic v => simp only at hev; cases hev; exact hP c' a' hx hR' hh hF'
  | loop x ih =>
    intro Q c s a e s' h' hp hR hF hev hP
    simp only [evCode] at hev
    refine wpIn_loop_rounds' (fun m a' w' => ∃ c' s1, Ext c c' ∧ Rel E c' ∧ c'.w = w' ∧ FrOk D c' s1 a' ∧ evLoop (fun s h => evCode E md call n x s h) m s1 c'.h = some (e, s', h')) ?_ ?_ n a c.w ⟨c, s, Ext.refl c, hR, rfl, hF, hev⟩
    · rintro m a' w' ⟨c', s1, hx, hR', rfl, hF', hl⟩
      simp only [evLoop] at hl
      replace hl := Option.bind_eq_some_iff.1 hl; obtain ⟨r, hr, hl⟩ := hl
      obtain ⟨e1, s2, h2⟩ := r
      refine ih _ c' s1 a' e1 s2 h2 hp hR' hF' hr ?_
      intro c2 a2 hx2 hR2 hh2 hF2
      cases e1 with
      | normal => simp only at hl; exact ⟨c2, s2, hx.trans hx2, hR2, rfl, hF2, by rw [hh2]; exact hl⟩
      | exit i => simp only at hl; cases hl; exact hP c2 a2 (hx.trans hx2) hR2 hh2 hF2
      | ret => simp only at hl; cases hl; exact hP c2 a2 (hx.trans hx2) hR2 hh2 hF2
      | panic v => simp only at hl; cases hl; exact hP c2 a2 (hx.trans hx2) hR2 hh2 hF2
    · rintro a' w' ⟨c', s1, _, _, _, _, hl⟩
      simp [evLoop] at hl
  | exit id =>
    intro Q c s a e s' h' hp hR hF hev hP
    simp only [evCode] at hev; cases hev
    exact wpIn_exit (hP c a (Ext.refl c) hR rfl hF)
  | ret =>
    intro Q c s a e s' h' hp hR hF hev hP
    simp only [evCode] at hev; cases hev
    exact wpIn_ret (hP c a (Ext.refl c) hR rfl hF)
  | rangeFunc f ps assign body =>
    intro Q c s a e s' h' hp hR hF hev hP
    obtain ⟨rfl, hM⟩ := hp.resolve_left (by simp [plainC])
    simp only [evCode] at hev
    split at hev
    case h_2 => cases hev
    rename_i g caps hop
    replace hev := Option.bind_eq_some_iff.1 hev; obtain ⟨r, hr, hev⟩ := hev
    have hfv := opd_ok hR hF f
    rw [hop] at hfv
    obtain ⟨ys, hfx, hys⟩ := hfv.fn_inv
    obtain ⟨⟨ts, hts, htv⟩, hds⟩ := hF
    have hFs : FrOk D c s a := ⟨⟨ts, hts, htv⟩, hds⟩
    -- the block for the deferred calls
    generalize hcA : ({ c with w := { c.w with heap := c.w.heap.push (.deferred (some [])) }, my := fun x => c.my x ∧ x ≠ c.w.heap.size } : Cx) = cA
    have hxA : Ext c cA ∧ Rel E cA := by
      obtain ⟨q1, q2⟩ := hR.grow { c.w with heap := c.w.heap.push (.deferred (some [])) } (fun r hr => by simp only; rw [Array.getElem?_push, if_neg (by omega)]) (by simp)
      subst hcA
      have hE' : Ext c { c with w := { c.w with heap := c.w.heap.push (.deferred (some [])) }, my := fun x => c.my x ∧ x ≠ c.w.heap.size } := ⟨q1.ro, q1.same, q1.len, q1.blk, q1.mp, q1.it, q1.size, q1.grow, fun r h => .inl h.1, q1.frame, q1.ro2, q1.rest⟩
      have hlt : ∀ {b}, live c.h b → (c.w.heap.push (.deferred (some [])))[(c.ρ b).1]? = c.w.heap[(c.ρ b).1]? := fun {b} hl => by have := hR.lt hl; rw [Array.getElem?_push, if_neg (by omega)]
      exact ⟨hE', ⟨fun b T cs h => (hR.cells b T cs h).mono hE' (hlt ⟨_, h, by simp⟩) rfl, fun b es h => (hR.maps b es h).mono hE' (hlt ⟨_, h, by simp⟩) rfl, fun b L h => (hR.iters b L h).mono hE' (hlt ⟨_, h, by simp⟩) rfl, q2.own, q2.inj, q2.rolt, q2.gl, fun b hb => ⟨hR.mine b hb, fun e => by have := hR.lt hb; simp only at e; omega⟩, q2.ali⟩⟩
    obtain ⟨hxA, hRA⟩ := hxA
    have eAh : cA.h = c.h := by subst hcA; rfl
    have eAs : cA.w.heap.size = c.w.heap.size + 1 := by subst hcA; simp
    have eAat : cA.w.heap[c.w.heap.size]? = some (.deferred (some [])) := by subst hcA; simp
    have eAmy : ¬ cA.my c.w.heap.size := by subst hcA; simp
    have eAro : ¬ cA.ro c.w.heap.size := by subst hcA; exact fun h => by have := hR.rolt _ h; omega
    refine wpIn_rangeFunc fun fn _ => ?_
    -- the loop's record
    generalize hlp : ({ state := .ready, pending := none, fn, tmps := a.tmps, params := ps, assign, body, defers := c.w.heap.size } : Loop) = lp
    generalize hL : (⟨.ready, none, s.tail, ps.toList, assign, body, md⟩ : LoopD) = L at hr
    have hlo : LoopOk cA L lp := by
      subst hlp hL
      exact ⟨rfl, rfl, rfl, rfl, rfl, by rw [hts]; exact htv.mono hxA⟩
    have hxB := pushC_ext hRA (.siter L) (.loop lp)
    have hRB : Rel E (pushC cA (.siter L) (.loop lp)) := pushC_rel hRA _ _ (fun _ _ h => by cases h) (fun _ h => by cases h) (fun L' h => by
      cases h
      exact ⟨lp, by simp only [pushC, updρ_same]; simp, hlo.mono hxB⟩)
    generalize hcB : pushC cA (.siter L) (.loop lp) = cB at hxB hRB
    have eBh : cB.h = push c.h (.siter L) := by subst hcB; simp only [pushC, eAh]
    have eBρ : cB.ρ c.h.length = (c.w.heap.size + 1, 0) := by subst hcB; simp only [pushC, eAh, updρ_same, eAs]
    have eBw : cB.w = { c.w with heap := (c.w.heap.push (.deferred (some []))).push (.loop lp) } := by subst hcB; subst hcA; rfl
    have hmk : MarkOk c cA c.w.heap.size := ⟨Nat.le_refl _, by omega, eAmy, eAro, eAat⟩
    have hmkB := hmk.mono hxB
    have hyv : RV cB (.it c.h.length) (.func (.yield (c.w.heap.size + 1)) #[] #[]) := .it _ _ ⟨_, rfl⟩ (by rw [eBh]; simp [push]) (fun _ => by rw [eBρ])
    have hargs : RVs cB (.it c.h.length :: caps) (.func (.yield (c.w.heap.size + 1)) #[] #[] :: ys.toList) := RVs.cons hyv (hys.mono (hxA.trans hxB))
    obtain ⟨_, k0, _⟩ := hC _ _ _ _ _ hr
    obtain ⟨⟨F, k1, k2, k3⟩, k4⟩ := k0 (by simp)
    have k5 := k4 cB _ hRB eBh hargs
    have hxcB := hxA.trans hxB
    have hinv : (invoke (.fn (.func g) ys) #[.func (.yield (c.w.heap.size + 1)) #[] #[]]).run P cB.w = .ok (.enter g ⟨.func (.yield (c.w.heap.size + 1)) #[] #[] :: ys.toList⟩) cB.w := by
      have hb : F.body ≠ none := by intro hq; rw [hq] at k2; cases k2
      have hne : F.name ≠ "runtime.NumGoroutine" := by simpa using k3
      have happ : (#[.func (.yield (c.w.heap.size + 1)) #[] #[]] ++ ys : Array Value) = ⟨.func (.yield (c.w.heap.size + 1)) #[] #[] :: ys.toList⟩ := by apply Array.ext'; simp
      simp [invoke, callFunc, k1, hne, hb, happ]
    refine ⟨c.w.heap.size + 1, [{ target := .collected c.w.heap.size, args := #[] }], cB.w, { target := .fn (.func g) ys, args := #[.func (.yield (c.w.heap.size + 1)) #[] #[]] }, cB.w, g, _, cB.w, ?_, ?_, fun _ _ => trivial, hinv, (fun h => by cases h), Fo.calls (ro := none) (k5.mono fun e w' hrt => ?_)⟩
    · rw [eBw, ← hlp]
      show (Instr.enterLoop fn a.tmps ps assign body none).run P c.w = _
      simp [Instr.enterLoop]; rfl
    · have : (Act.eval a f) = .func (.func g) #[] ys := hfx
      simp [resolve, rangeCall, this, Deferred.ofValue]; rfl
    · obtain ⟨c', q1, q2, q3, q4⟩ := hrt
      subst q3
      have hx1 := hxcB.trans q1
      have hds' : ∀ c'', Ext c' c'' → D.p c'' ({ target := .collected c.w.heap.size, args := #[] } :: a.defers) := fun c'' hx => hM c c'' a.defers _ hds (hx1.trans hx) ((hmkB.mono q1).mono hx)
      cases r with
      | pan v h1 =>
        obtain ⟨q5, x, rfl, q6⟩ := q4
        simp only at hev; cases hev
        exact hP c' { a with defers := [{ target := .collected c.w.heap.size, args := #[] }] ++ a.defers } hx1 q2 q5 ⟨⟨ts, hts, htv.mono hx1⟩, hds' c' (Ext.refl _)⟩ x q6
      | val v h1 =>
        obtain ⟨q5, x, rfl, q6⟩ := q4
        subst q5
        simp only [evEndLoop] at hev
        split at hev
        case h_2 => cases hev
        rename_i L1 hL1
        split at hev
        · cases hev
        rename_i hst
        have hit := q1.it c.h.length (by rw [eBh]; simp [push]) ⟨L1, hL1⟩
        have eρ : (c'.ρ c.h.length).1 = c.w.heap.size + 1 := by rw [hit.2, eBρ]
        obtain ⟨lp1, g1, g2⟩ := q2.iters _ L1 hL1
        have hturn := turn_loop (L' := { L1 with st := .exhausted }) (lp' := { lp1 with state := .exhausted }) q2 hL1 g1 ⟨rfl, g2.pend, g2.ps, g2.asg, g2.body, g2.tmps⟩
        rw [eρ] at g1
        have hend : (Instr.endLoop (c.w.heap.size + 1)).run P c'.w = .ok lp1.pending (setB c'.w (c.w.heap.size + 1) (.loop { lp1 with state := .exhausted })) := by
          have hnb : (lp1.state == LoopState.busy) = false := by rw [g2.st]; cases hq : L1.st <;> simp_all
          simp only [Instr.endLoop, Sem.run_bind, getLoop_run g1, Result.andThen_ok, hnb, Bool.false_eq_true, if_false, Sem.run_pure, setObj_run g1 (by simp)]
        generalize hc2 : objC c' c.h.length (.siter { L1 with st := .exhausted }) (.loop { lp1 with state := .exhausted }) = c2 at hturn
        obtain ⟨hx2, hR2⟩ := hturn
        have e2w : c2.w = setB c'.w (c.w.heap.size + 1) (.loop { lp1 with state := .exhausted }) := by subst hc2; simp only [objC, eρ]
        have e2h : c2.h = c'.h.set c.h.length (.siter { L1 with st := .exhausted }) := by subst hc2; rfl
        have hF2 : FrOk D c2 s { a with defers := [{ target := .collected c.w.heap.size, args := #[] }] ++ a.defers } := ⟨⟨ts, hts, htv.mono (hx1.trans hx2)⟩, hds' c2 hx2⟩
        refine ⟨_, _, hend, ?_⟩
        rw [← e2w, g2.pend]
        cases hp1 : L1.pend with
        | none =>
          rw [hp1] at hev; simp only at hev; cases hev
          exact hP c2 _ (hx1.trans hx2) hR2 (by rw [e2h, hp1]) hF2
        | some p =>
          rw [hp1] at hev; simp only at hev; cases hev
          have := hP c2 _ (hx1.trans hx2) hR2 (by rw [e2h, hp1]) hF2
          cases p with
          | none => exact wpIn_ret this
          | some i => exact wpIn_exit this
  | scope => intro Q c s a e s' h' hp hR hF hev hP; simp [evCode] at hev
  | label => intro Q c s a e s' h' hp hR hF hev hP; simp [evCode] at hev
  | goto => intro Q c s a e s' h' hp hR hF hev hP; simp [evCode] at hev
  | refuse => intro Q c s a e s' h' hp hR hF hev hP; simp [evCode] at hev

theorem result_ok (hE : EnvOk P E) {c : Cx} (hR : Rel E c) {s : List V} {a : Act} (hF : FrOk D c s a) {r : ResultVar} {v : V} (h : evResult E s c.h r = some v) :
    ∃ x, ((match r with | .tmp t => pure (a.tmps.getD t undef) | .cell p t => do loadVar t (← asAddr (a.tmps.getD p undef)) : Sem Value)).run P c.w = .ok x c.w ∧ RV c v x := by
  cases r with
  | tmp t => simp only [evResult] at h; cases h; exact ⟨_, rfl, hF.get t⟩
  | cell p t =>
    simp only [evResult] at h
    have hp := hF.get p
    generalize hg : getT s p = pv at h hp
    cases pv <;> simp only [evLoad] at h
    case ptr b o sz =>
      replace h := Option.bind_eq_some_iff.1 h; obtain ⟨q, hq, hr⟩ := h
      obtain ⟨hb, hbl⟩ := cellsAt_some hq
      have e := hp.ptr_inv (by rw [hsz_cells hb, hbl])
      obtain ⟨y, h1, h2⟩ := rd_spec hE (cellsAt_at hR hq o) hr
      exact ⟨y, by simp only [e, asAddr, Sem.run_bind, Sem.run_pure, Result.andThen_ok]; exact h1, h2⟩
    case rop cs =>
      obtain ⟨ad, e, ha⟩ := rop_at hp
      obtain ⟨y, h1, h2⟩ := rd_spec hE ha h
      exact ⟨y, by simp only [e, asAddr, Sem.run_bind, Sem.run_pure, Result.andThen_ok]; exact h1, h2⟩
    all_goals cases h

theorem results_ok (hE : EnvOk P E) {c : Cx} (hR : Rel E c) {s : List V} {a : Act} (hF : FrOk D c s a) {fn : Func} {v : V} (h : evResults E fn.results.toList s c.h = some v) : ∃ x, (results fn a.tmps).run P c.w = .ok x c.w ∧ RV c v x := by
  obtain ⟨vs, hvs, rfl⟩ := Option.map_eq_some_iff.1 h
  have key : ∀ (rs : List ResultVar) (vs : List V), rs.mapM (evResult E s c.h) = some vs → ∃ xs : List Value, (rs.mapM (fun | .tmp t => pure (a.tmps.getD t undef) | .cell p t => do loadVar t (← asAddr (a.tmps.getD p undef)) : ResultVar → Sem Value)).run P c.w = .ok xs c.w ∧ RVs c vs xs := by
    intro rs
    induction rs with
    | nil => intro vs h; simp at h; subst h; exact ⟨[], by simp, RVs.nil c⟩
    | cons r rs ih =>
      intro vs h
      simp only [List.mapM_cons, Option.bind_eq_bind, Option.bind_eq_some_iff] at h
      obtain ⟨v, hv, us, hus, h⟩ := h
      cases h
      obtain ⟨x, h1, h2⟩ := result_ok (P := P) hE hR hF hv
      obtain ⟨xs, h3, h4⟩ := ih us hus
      refine ⟨x :: xs, ?_, RVs.cons h2 h4⟩
      simp only [List.mapM_cons, Sem.run_bind]
      rw [h1]
      simp only [Result.andThen_ok]
      rw [h3]
      rfl
  obtain ⟨xs, h1, h2⟩ := key _ _ hvs
  have hm : (fn.results.mapM (fun | .tmp t => pure (a.tmps.getD t undef) | .cell p t => do loadVar t (← asAddr (a.tmps.getD p undef)) : ResultVar → Sem Value)).run P c.w = .ok xs.toArray c.w := by
    rw [Array.mapM_eq_mapM_toList]
    simp only [Sem.run_map, h1, Result.andThen_ok]
  refine ⟨if h : xs.toArray.size = 1 then xs.toArray[0] else .tuple xs.toArray, ?_, ?_⟩
  · simp only [results, Sem.run_bind]
    exact Eq.trans (congrArg (fun r => Result.andThen r _) hm) rfl
  · match vs, xs, h2 with
    | [], xs, h2 => have := h2.nil_left; subst this; simp; exact RV.tup_mk h2
    | [v], xs, h2 => obtain ⟨x, ys, rfl, h3, h4⟩ := h2.cons_left; have := h4.nil_left; subst this; simpa using h3
    | v :: w :: vs, xs, h2 =>
      obtain ⟨x, ys, rfl, h3, h4⟩ := h2.cons_left
      obtain ⟨y, zs, rfl, h5, h6⟩ := h4.cons_left
      simp
      exact RV.tup_mk h2

/-- A mark is taken on the way out. -/
theorem take_mark {c0 c : Cx} {r : Nat} (hx : Ext c0 c) (hR : Rel E c) (hm : MarkOk c0 c r) :
    Ext c0 { c with w := setB c.w r (.deferred none) } ∧ Rel E { c with w := setB c.w r (.deferred none) } ∧ ExtW c { c with w := setB c.w r (.deferred none) } := by
  have hne : ∀ q, q ≠ r → (setB c.w r (.deferred none)).heap[q]? = c.w.heap[q]? := fun q hq => by rw [setB_get, if_neg (fun e => hq e.symm)]
  have hro : ∀ q, c.ro q → q ≠ r := fun q h e => hm.ro (e ▸ h)
  have hc : ∀ {q C T fz}, c.w.heap[q]? = some (.cells C T fz) → q ≠ r := fun h e => by subst e; rw [hm.at_] at h; cases h
  have hW : ExtW c { c with w := setB c.w r (.deferred none) } := ⟨fun _ h => h, fun q h => hne q (hro q h), Nat.le_refl _, fun _ _ n hn => ⟨n, hn, Nat.le_refl _, fun _ => rfl⟩, fun _ _ h => ⟨h, rfl⟩, fun _ _ h => ⟨h, rfl⟩,
    fun q C T fz h => ⟨C, fz, by simp only; rw [hne q (hc h)]; exact h, rfl⟩⟩
  have hlv : ∀ {b}, live c.h b → (c.ρ b).1 ≠ r := fun {b} hl e => hm.my (e ▸ hR.mine b hl)
  refine ⟨⟨hx.ro, fun q h => ?_, hx.len, hx.blk, hx.mp, hx.it, fun q C T fz h => ?_, ?_, hx.mine, fun q hq h => ?_, hx.ro2, hx.rest⟩, ⟨fun b T cs h => ?_, fun b es h => ?_, fun b L h => ?_, hR.own, hR.inj, fun q h => ?_, fun g cs hg => (hR.gl g cs hg).mono hW.ro hW.same, hR.mine, hR.ali⟩, hW⟩
  · simp only; rw [hne q (hro q (hx.ro q h))]; exact hx.same q h
  · obtain ⟨C', fz', h1, h2⟩ := hx.size q C T fz h
    exact ⟨C', fz', by simp only; rw [hne q (hc h1)]; exact h1, h2⟩
  · simp only [setB_size]; exact hx.grow
  · simp only; rw [hne q (fun e => by have := hm.new; omega)]; exact hx.frame q hq h
  · obtain ⟨C, lo, hi, h1, h2, h3, h4, h5⟩ := hR.cells b T cs h
    refine ⟨C, lo, hi, by simp only; rw [hne _ (hlv ⟨_, h, by simp⟩)]; exact h1, h2, fun j v hv => ?_, h4, h5⟩
    obtain ⟨x, q1, q2⟩ := h3 j v hv
    exact ⟨x, q1, q2.monoW hW⟩
  · obtain ⟨xs, clock, h1, h2, h3⟩ := hR.maps b es h
    refine ⟨xs, clock, by simp only; rw [hne _ (hlv ⟨_, h, by simp⟩)]; exact h1, h2, fun i k v hv => ?_⟩
    obtain ⟨e, q1, q2, q3⟩ := h3 i k v hv
    exact ⟨e, q1, q2.monoW hW, q3.monoW hW⟩
  · obtain ⟨lp, h1, h2⟩ := hR.iters b L h
    exact ⟨lp, by simp only; rw [hne _ (hlv ⟨_, h, by simp⟩)]; exact h1, ⟨h2.st, h2.pend, h2.ps, h2.asg, h2.body, h2.tmps.monoW hW⟩⟩
  · simp only [setB_size]; exact hR.rolt q h

theorem leaves_marks {fn : Func} {tmps : Array Value} {R : Ending → World → Prop} {c0 : Cx} {u : FrameMode} (hu : u ≠ .run) {ts : List V} : ∀ (rs : List Nat) (c : Cx), Ext c0 c → Rel E c → RVs c ts tmps.toList → rs.Nodup → (∀ r ∈ rs, MarkOk c0 c r) →
    (∀ c', Ext c0 c' → Rel E c' → c'.h = c.h → RVs c' ts tmps.toList → ExtW c c' → LeavesIn Fence.wide fk P fn tmps R [] u c'.w) → LeavesInM Fence.wide fk P fn tmps R (rs.map fun r => { target := .collected r, args := #[] }) u c.w
  | [], c, hx, hR, hs, _, _, fin => fin c hx hR rfl hs ⟨fun _ h => h, fun _ _ => rfl, Nat.le_refl _, fun _ _ n hn => ⟨n, hn, Nat.le_refl _, fun _ => rfl⟩, fun _ _ h => ⟨h, rfl⟩, fun _ _ h => ⟨h, rfl⟩, fun _ C _ fz h => ⟨C, fz, h, rfl⟩⟩
  | r :: rs, c, hx, hR, hs, hn, hm, fin => by
    have hr := hm r (List.mem_cons_self ..)
    obtain ⟨k1, k2, k3⟩ := take_mark hx hR hr
    obtain ⟨hnr, hn⟩ := List.nodup_cons.1 hn
    refine ⟨hu, .inl ⟨r, setB c.w r (.deferred none), rfl, ?_, ?_⟩⟩
    · simp only [Instr.takeDeferred, Sem.run_bind, getObj_run hr.at_ (by simp), Result.andThen_ok, setObj_run hr.at_ (by simp), Sem.run_pure]
    · refine leaves_marks hu rs { c with w := setB c.w r (.deferred none) } k1 k2 (hs.monoW k3) hn (fun q hq => ?_) ?_
      · have h := hm q (List.mem_cons_of_mem _ hq)
        have hqr : r ≠ q := fun e => hnr (e ▸ hq)
        exact ⟨h.new, by simp only [setB_size]; exact h.lt, h.my, h.ro, by simp only; rw [setB_get, if_neg hqr]; exact h.at_⟩
      · intro c' q1 q2 q3 q4 q5
        refine fin c' q1 q2 q3 q4 ⟨fun q h => q5.ro q (k3.ro q h), fun q h => (q5.same q (k3.ro q h)).trans (k3.same q h), q5.len, q5.blk, q5.mp, q5.it, fun q C T fz h => ?_⟩
        obtain ⟨C', fz', w1, w2⟩ := k3.size q C T fz h
        obtain ⟨C'', fz'', w3, w4⟩ := q5.size q C' T fz' w1
        exact ⟨C'', fz'', w3, w4.trans w2⟩

theorem fn_sound (hE : EnvOk P E) {call : CallF} (hC : CallOk P E call) {n : Nat} {f : FuncId} {d : FnD} (hfn : FnOk P f d) {args : List V} {r : OpR} {c : Cx} {xs : List Value} (hR : Rel E c) (hargs : RVs c args xs)
    (h : evFn E call n d args c.h = some r) : Calls P f ⟨xs⟩ c.w (Ret E c r) := by
  obtain ⟨F, hf, hb, hnt, hres, hname⟩ := hfn.fn
  unfold evFn at h
  split at h
  · rename_i hlen
    replace h := Option.bind_eq_some_iff.1 h; obtain ⟨q, hq, h⟩ := h
    obtain ⟨e, s', h'⟩ := q
    refine (callsIn_wide (n := 0)).1 (callsIn_of_wp_marks hf hb trivial ?_ rfl)
    have hF0 : FrOk (marksD c) c (initT d.nt args) { tmps := (⟨xs⟩ : Array Value) ++ Array.replicate (F.ntmps - (⟨xs⟩ : Array Value).size) undef, defers := [] } := by
      refine ⟨⟨_, rfl, ?_⟩, Nat.le_refl _, [], rfl, List.nodup_nil, fun r hr => by cases hr⟩
      have hrep : RVs c (List.replicate (d.nt - args.length) und) (List.replicate (d.nt - args.length) undef) := by
        refine ⟨by simp, fun i v x hv hx => ?_⟩
        rw [List.getElem?_replicate] at hv hx
        split at hv
        · rename_i hi; rw [if_pos hi] at hx; cases hv; cases hx; exact RV.undM c
        · cases hv
      have := hargs.append hrep
      simpa [hnt, hargs.1] using this
    refine code_sound (ro := none) hE hC n d.body _ c _ _ e s' h' (.inr ⟨rfl, marksD_marky c⟩) hR hF0 hq ?_
    intro c' a' hx hR' hh hF'
    obtain ⟨⟨ts, hts, htv⟩, _, rs, hd1, hd2, hd3⟩ := hF'
    have fin : ∀ v, evResults E d.res s' h' = some v → r = .val v h' → LeavesInM Fence.wide 0 P F a'.tmps (Ret E c r) a'.defers .returning c'.w := by
      intro v hv hr
      rw [hd1]
      refine leaves_marks (by simp) rs c' hx hR' htv hd2 hd3 ?_
      intro c2 hx2 hR2 hh2 hs2 _
      obtain ⟨x, k1, k2⟩ := results_ok (P := P) (fn := F) (D := ⟨fun _ _ => True, fun _ _ => trivial⟩) (a := a') (s := s') hE hR2 ⟨⟨ts, hts, hs2⟩, trivial⟩ (by rw [hres, hh2, hh]; exact hv)
      refine ⟨x, k1, c2, hx2, hR2, rfl, ?_⟩
      rw [hr]
      exact ⟨hh2.trans hh, x, rfl, k2⟩
    cases e with
    | normal =>
      simp only at h
      split at h
      · obtain ⟨v, hv, rfl⟩ := Option.map_eq_some_iff.1 h; exact fin v hv rfl
      · cases h
    | ret =>
      simp only at h
      split at h
      · obtain ⟨v, hv, rfl⟩ := Option.map_eq_some_iff.1 h; exact fin v hv rfl
      · cases h
    | exit i => cases h
    | panic v =>
      simp only at h
      split at h
      · cases h
        intro x hxv
        show LeavesInM Fence.wide 0 P F a'.tmps _ a'.defers (.panicking [{ v := x, recovered := false }]) c'.w
        rw [hd1]
        refine leaves_marks (by simp) rs c' hx hR' htv hd2 hd3 ?_
        intro c2 hx2 hR2 hh2 hs2 hw2
        exact ⟨c2, hx2, hR2, rfl, hh2.trans hh, x, rfl, hxv.monoW hw2⟩
      · cases h
  · cases h

theorem foldl_put {c : Cx} : ∀ (ps : List Nat) (vs : List V) (xs : List Value) (s : List V) (tmps : Array Value), RVs c vs xs → FrOk (exactD []) c s { tmps := tmps, defers := [] } →
    FrOk (exactD []) c ((ps.zip vs).foldl (fun s p => setT s p.1 p.2) s) { tmps := (ps.zip xs).foldl (fun t p => t.setIfInBounds p.1 p.2) tmps, defers := [] }
  | [], _, _, s, tmps, _, hF => by simpa using hF
  | p :: ps, [], xs, s, tmps, h, hF => by have := h.nil_left; subst this; simpa using hF
  | p :: ps, v :: vs, xs, s, tmps, h, hF => by
    obtain ⟨x, ys, rfl, h1, h2⟩ := h.cons_left
    simp only [List.zip_cons_cons, List.foldl_cons]
    exact foldl_put ps vs ys _ _ h2 (hF.put (some p) h1)

/-- One round. -/
theorem round_sound (hE : EnvOk P E) {call : CallF} (hC : CallOk P E call) {n b : Nat} {args : List V} {h : Heap} {r : OpR} (hr : evRound E call n b args h = some r) : RoundOk P E b args h r := by
  rintro c xs hR rfl hargs
  unfold evRound at hr
  split at hr
  case h_2 => cases hr
  rename_i L hb
  split at hr
  case isFalse => cases hr
  rename_i hlen
  obtain ⟨hlen, hpa, hpb⟩ := hlen
  obtain ⟨lp, g1, g2⟩ := hR.iters b L hb
  refine ⟨⟨L, hb⟩, lp, g1, ?_, ?_⟩
  · rw [← hargs.1, hlen, ← g2.ps]; simp
  replace hr := Option.bind_eq_some_iff.1 hr; obtain ⟨q1, hq1, hr⟩ := hr
  obtain ⟨e1, s1, h1⟩ := q1
  refine roundIn_of_wpIn trivial ?_
  have hF0 : FrOk (exactD []) c ((L.params.zip args).foldl (fun s p => setT s p.1 p.2) (und :: L.tmps)) { tmps := (lp.params.zip ⟨xs⟩).foldl (fun t p => t.setIfInBounds p.1 p.2) lp.tmps, defers := [] } := by
    have := foldl_put L.params args xs (und :: L.tmps) lp.tmps hargs ⟨⟨_, rfl, g2.tmps⟩, rfl⟩
    have e : (lp.params.zip (⟨xs⟩ : Array Value)).foldl (fun t p => t.setIfInBounds p.1 p.2) lp.tmps = (L.params.zip xs).foldl (fun t p => t.setIfInBounds p.1 p.2) lp.tmps := by
      rw [← Array.foldl_toList, Array.toList_zip, g2.ps]
    rw [e]; exact this
  rw [g2.asg]
  refine code_sound (ro := some (c.ρ b).1) hE hC n L.assign _ c _ _ e1 s1 h1 (.inl hpa) hR hF0 hq1 ?_
  intro c1 a1 hx1 hR1 hh1 hF1
  cases e1 with
  | normal =>
    subst hh1
    simp only at hr
    split at hr
    case h_2 => cases hr
    rename_i L1 hb1
    split at hr
    case isFalse => cases hr
    rename_i hst
    have hbl : b < c.h.length := (List.getElem?_eq_some_iff.1 hb).1
    have hρ1 := (hx1.it b hbl ⟨L1, hb1⟩).2
    obtain ⟨lp1, d1, d2⟩ := hR1.iters b L1 hb1
    have ht1 := turn_loop (L' := { L1 with st := .busy }) (lp' := { lp1 with state := .busy }) hR1 hb1 d1 ⟨rfl, d2.pend, d2.ps, d2.asg, d2.body, d2.tmps⟩
    rw [hρ1] at d1
    have hbeg : (Instr.beginRound (c.ρ b).1).run P c1.w = .ok () (setB c1.w (c.ρ b).1 (.loop { lp1 with state := .busy })) := by
      have hs : lp1.state = .ready := d2.st.trans hst
      simp only [Instr.beginRound, Sem.run_bind, getLoop_run d1, Result.andThen_ok, setObj_run d1 (by simp), hs, Sem.run_pure]
    generalize hc2 : objC c1 b (.siter { L1 with st := .busy }) (.loop { lp1 with state := .busy }) = c2 at ht1
    obtain ⟨hx2, hR2⟩ := ht1
    have e2w : c2.w = setB c1.w (c.ρ b).1 (.loop { lp1 with state := .busy }) := by subst hc2; simp only [objC, hρ1]
    have e2h : c2.h = c1.h.set b (.siter { L1 with st := .busy }) := by subst hc2; rfl
    have e2ρ : c2.ρ b = c.ρ b := by subst hc2; exact hρ1
    show ∃ w₂, _ ∧ _
    refine ⟨_, hbeg, ?_⟩
    replace hr := Option.bind_eq_some_iff.1 hr; obtain ⟨q3, hq3, hr⟩ := hr
    obtain ⟨e3, s3, h3⟩ := q3
    rw [g2.body, ← e2w]
    refine code_sound (ro := some (c.ρ b).1) hE hC n L.body _ c2 _ _ e3 s3 h3 (.inl hpb) hR2 (hF1.mono hx2) (by rw [e2h]; exact hq3) ?_
    intro c3 a3 hx3 hR3 hh3 hF3
    subst hh3
    have hx03 := hx1.trans (hx2.trans hx3)
    -- how a round ends
    have fin : ∀ (L3 : LoopD) (j : Option (Option Nat)), c3.h[b]? = some (.siter L3) → r = .val (.bool j.isNone) (c3.h.set b (.siter { L3 with st := if j.isNone then .ready else .done, pend := j })) →
        ∃ v w', (Instr.endRound (c.ρ b).1 (j.map pendC)).run P c3.w = .ok v w' ∧ Ret E c r (.returned v) w' := by
      intro L3 j hb3 hrv
      have hρ3 := (hx03.it b hbl ⟨L3, hb3⟩).2
      obtain ⟨lp3, f1, f2⟩ := hR3.iters b L3 hb3
      have ht3 := turn_loop (L' := { L3 with st := if j.isNone then .ready else .done, pend := j }) (lp' := { lp3 with state := if j.isNone then .ready else .done, pending := j.map pendC }) hR3 hb3 f1 ⟨rfl, rfl, f2.ps, f2.asg, f2.body, f2.tmps⟩
      rw [hρ3] at f1
      refine ⟨.bool j.isNone, setB c3.w (c.ρ b).1 (.loop { lp3 with state := if j.isNone then .ready else .done, pending := j.map pendC }), ?_, ?_⟩
      · simp only [Instr.endRound, Sem.run_bind, getLoop_run f1, Result.andThen_ok, Option.isNone_map, setObj_run f1 (by simp), Sem.run_pure]
      · refine ⟨_, hx03.trans ht3.1, ht3.2, by simp only [objC, hρ3], ?_⟩
        rw [hrv]
        exact ⟨rfl, _, rfl, .g (.bool _)⟩
    cases e3 with
    | normal =>
      simp only at hr
      split at hr
      · rename_i L3 hb3; cases hr; exact fin L3 none hb3 rfl
      · cases hr
    | ret =>
      simp only at hr
      split at hr
      · rename_i L3 hb3; cases hr; exact fin L3 (some none) hb3 rfl
      · cases hr
    | exit i =>
      simp only at hr
      split at hr
      · rename_i L3 hb3; cases hr; exact fin L3 (some (some i)) hb3 rfl
      · cases hr
    | panic v => cases hr
  | exit i => cases hr
  | ret => cases hr
  | panic v => cases hr

end
end Go.Sb
