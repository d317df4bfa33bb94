/- Regions whose order is drawn: what one order answers holds of every order. -/
import Derived.Test.YtekmafoicobphaaGreatDoorSbCode
set_option linter.unusedVariables false
set_option linter.unusedSimpArgs false
namespace Go.Sb
section
variable {P : Program} {E : Env} {D : DPred} {ro : Option Nat} {fk : Nat}
theorem yuy {s s' : List V} {x : Operand} (h : ∀ t, x = .tmp t → getT s t = getT s' t) : opd E s x = opd E s' x := by
 cases x with
 | tmp t => exact h t rfl
 | const v => rfl
 | global g => rfl
 | func f => rfl
theorem yuz {md : FuncId → Mode} {call : CallF} {o : Op} {s s' : List V} {h : Heap} (hs : ∀ x ∈ o.operands.toList, opd E s x = opd E s' x) : evOp E md call o s h = evOp E md call o s' h := by
 have args : ∀ (xs : Array Operand), (∀ x ∈ xs.toList, opd E s x = opd E s' x) → xs.toList.map (opd E s) = xs.toList.map (opd E s') := fun xs h => List.map_congr_left h
 have parts : ∀ (ps : Array (Nat × Operand)), (∀ x ∈ ps.toList.map (·.2), opd E s x = opd E s' x) → (ps.toList.map fun p => (p.1, opd E s p.2)) = (ps.toList.map fun p => (p.1, opd E s' p.2)) := fun ps h =>
  List.map_congr_left fun p hp => by rw [h p.2 (List.mem_map_of_mem (f := (·.2)) hp)]
 cases o <;> simp only [evOp]
 case move x => rw [hs x (by simp [Op.operands])]
 case assign x => rw [hs x (by simp [Op.operands])]
 case pick c a b => rw [hs c (by simp [Op.operands]), hs a (by simp [Op.operands]), hs b (by simp [Op.operands])]
 case box t x => rw [hs x (by simp [Op.operands])]
 case build t ps => rw [parts ps (fun x hx => hs x (by simpa [Op.operands] using hx))]
 case buildSlice t n ps => rw [parts ps (fun x hx => hs x (by simpa [Op.operands] using hx))]
 case load t a => rw [hs a (by simp [Op.operands])]
 case store t a x => rw [hs a (by simp [Op.operands]), hs x (by simp [Op.operands])]
 case nilCheck x => rw [hs x (by simp [Op.operands])]
 case binOp op t x y yt => rw [hs x (by simp [Op.operands]), hs y (by simp [Op.operands])]
 case unOp op t x => rw [hs x (by simp [Op.operands])]
 case convert a b x => rw [hs x (by simp [Op.operands])]
 case makeInterface t x => rw [hs x (by simp [Op.operands])]
 case makeFunc f first caps =>
  cases f with
  | func f => simp only; rw [args caps (fun x hx => hs x (by simp [Op.operands]; exact .inr (by simpa using hx))), args first (fun x hx => hs x (by simp [Op.operands]; exact .inl (by simpa using hx)))]
  | _ => rfl
 case makeMap t r => cases r <;> rfl
 case makeSlice t l c => rw [hs l (by simp [Op.operands]), hs c (by simp [Op.operands])]
 case slice t x lo hi mx =>
  have opt : ∀ y : Option Operand, (∀ z ∈ y.toArray.toList, opd E s z = opd E s' z) → y.map (opd E s) = y.map (opd E s') := fun y hy => by
   cases y with
   | none => rfl
   | some z => simp only [Option.map_some]; rw [hy z (by simp)]
  rw [hs x (by simp [Op.operands]), opt lo (fun z hz => hs z (by simp [Op.operands] at hz ⊢; simp [hz])), opt hi (fun z hz => hs z (by simp [Op.operands] at hz ⊢; simp [hz])), opt mx (fun z hz => hs z (by simp [Op.operands] at hz ⊢; simp [hz]))]
 case fieldAddr t x f => rw [hs x (by simp [Op.operands])]
 case field t x f => rw [hs x (by simp [Op.operands])]
 case indexAddr t x i => rw [hs x (by simp [Op.operands]), hs i (by simp [Op.operands])]
 case index t x i => rw [hs x (by simp [Op.operands]), hs i (by simp [Op.operands])]
 case lookup t x k ok => rw [hs x (by simp [Op.operands]), hs k (by simp [Op.operands])]
 case mapUpdate t m k v => rw [hs m (by simp [Op.operands]), hs k (by simp [Op.operands]), hs v (by simp [Op.operands])]
 case insert t m k v => rw [hs m (by simp [Op.operands]), hs k (by simp [Op.operands]), hs v (by simp [Op.operands])]
 case typeAssert x a t ok => rw [hs x (by simp [Op.operands])]
 case extract x i => rw [hs x (by simp [Op.operands])]
 case panic x => rw [hs x (by simp [Op.operands])]
 case call c =>
  have ha := args c.args (fun x hx => hs x (by simp [Op.operands, Call.operands]; exact .inr (by simpa using hx)))
  split
  ·rename_i f hf
   rw [hs f (by simp [Op.operands, Call.operands, hf]), ha]
  ·rw [ha]
  ·rfl
theorem kind0 {md : FuncId → Mode} {call : CallF} {o : Op} {s : List V} {h g : Heap} {v : V} (hk : yai E md o = 0) (he : evOp E md call o s h = some (.val v g)) : g = h ∧ ∀ h', evOp E md call o s h' = some (.val v h') := by
 have one : ∀ {x : Option V}, val x h = some (.val v g) → g = h ∧ ∀ h', val x h' = some (.val v h') := fun {x} hx => by
  obtain ⟨u, hu, hv⟩ := Option.map_eq_some_iff.1 hx
  cases hv; subst hu; exact ⟨rfl, fun _ => rfl⟩
 cases o <;> simp only [yai] at hk <;> simp only [evOp] at he ⊢ <;> first | (exact one he) | (cases he; exact ⟨rfl, fun _ => rfl⟩) | (exfalso; revert hk; decide) | skip
 case pick c a b =>
  split at he
  ·cases he; exact ⟨rfl, fun _ => rfl⟩
  ·cases he
 case nilCheck x =>
  split at he
  ·cases he; exact ⟨rfl, fun _ => rfl⟩
  ·cases he; exact ⟨rfl, fun _ => rfl⟩
  ·cases he; exact ⟨rfl, fun _ => rfl⟩
  ·cases he
 case binOp op t x y yt =>
  split at hk
  ·cases hk
  ·rename_i hp
   rw [if_neg hp] at he
   obtain ⟨r1, r2⟩ := one he
   exact ⟨r1, fun h' => by rw [if_neg hp]; exact r2 h'⟩
 case convert a b x =>
  obtain ⟨p, hp, he⟩ := Option.map_eq_some_iff.1 he
  cases he
  unfold ydn at hp
  replace hp := Option.bind_eq_some_iff.1 hp; obtain ⟨sd, hs, hp⟩ := hp
  replace hp := Option.bind_eq_some_iff.1 hp; obtain ⟨dd, hd, hp⟩ := hp
  simp only [hs, hd] at hk
  split at hk
  ·rename_i e1 e2
   generalize opd E s x = u at hp ⊢
   cases u <;> simp only [e1, e2] at hp <;> cases hp
   exact ⟨rfl, fun h' => by simp [valH, ydn, hs, hd, e1, e2]⟩
  ·rename_i e1 e2
   generalize opd E s x = u at hp ⊢
   cases u <;> simp only [e1, e2] at hp <;> cases hp
   exact ⟨rfl, fun h' => by simp [valH, ydn, hs, hd, e1, e2]⟩
  ·cases hk
  ·cases hk
 case call c =>
  obtain ⟨callee, args, ats⟩ := c
  simp only at hk he ⊢
  cases callee with
  | invoke r m => simp at hk
  | builtin b =>
   simp only at he ⊢
   cases b <;> simp at hk
   case min =>
    unfold yeh at he ⊢
    split at he <;> first | contradiction | skip
    rename_i h1 h2; exact one he
   case max =>
    unfold yeh at he ⊢
    split at he <;> first | contradiction | skip
    exact one he
   case cap =>
    unfold yeh at he ⊢
    split at he <;> first | contradiction | skip
    exact one he
  | value f =>
   cases f with
   | func f =>
    simp only [opd, ydo] at he hk ⊢
    cases hx : E.ext f with
    | some p => rw [hx] at he; simp only at he ⊢; exact one he
    | none =>
     rw [hx] at hk; simp only at hk
     cases hm : md f <;> rw [hm] at hk <;> simp at hk
   | _ => simp at hk
theorem kind1 {md : FuncId → Mode} {call : CallF} (hC : ycc P E call) {o : Op} {s : List V} {h g : Heap} {v : V} (hk : yai E md o = 1) (he : evOp E md call o s h = some (.val v g)) : g = h := by
 have one : ∀ {x : Option V}, val x h = some (.val v g) → g = h := fun {x} hx => by
  obtain ⟨u, hu, hv⟩ := Option.map_eq_some_iff.1 hx
  cases hv; rfl
 cases o <;> simp only [yai] at hk <;> simp only [evOp] at he <;> first | (exact one he) | (exfalso; revert hk; decide) | skip
 case binOp op t x y yt =>
  split at he
  ·exact one he
  ·exact one he
 case convert a b x =>
  obtain ⟨p, hp, he⟩ := Option.map_eq_some_iff.1 he
  cases he
  unfold ydn at hp
  replace hp := Option.bind_eq_some_iff.1 hp; obtain ⟨sd, hs, hp⟩ := hp
  replace hp := Option.bind_eq_some_iff.1 hp; obtain ⟨dd, hd, hp⟩ := hp
  simp only [hs, hd] at hk
  split at hk
  ·cases hk
  ·cases hk
  ·rename_i e1 e2
   simp only [e1, e2] at hp
   replace hp := Option.bind_eq_some_iff.1 hp; obtain ⟨y, hy, hp⟩ := hp
   split at hp
   ·split at hp
    ·replace hp := Option.bind_eq_some_iff.1 hp; obtain ⟨q, hq, hp⟩ := hp
     obtain ⟨l, hl, hp⟩ := Option.map_eq_some_iff.1 hp
     cases hp; rfl
    ·cases hp
   ·cases hp
  ·cases hk
 case call c =>
  obtain ⟨callee, args, ats⟩ := c
  simp only at hk he
  cases callee with
  | invoke r m => simp at hk
  | builtin b =>
   simp only at he
   cases b <;> simp at hk
   case len =>
    unfold yeh at he
    split at he <;> first | contradiction | skip
    exact one he
   case unsafeSliceData =>
    unfold yeh at he
    split at he <;> first | contradiction | skip
    exact one he
  | value f =>
   cases f with
   | func f =>
    simp only [opd, ydo] at he hk
    cases hx : E.ext f with
    | some p => rw [hx] at hk; simp at hk
    | none =>
     rw [hx] at hk he; simp only at hk he
     cases hm : md f <;> rw [hm] at hk he <;> simp at hk
     exact (hC _ _ _ _ _ he).1 rfl v g rfl
   | _ => simp at hk
theorem kinds (md : FuncId → Mode) (o : Op) : yai E md o = 0 ∨ yai E md o = 1 ∨ yai E md o = 2 := by
 cases o <;> simp [yai]
 case binOp op t x y yt => by_cases h : yja E t = true <;> simp [h]
 case convert a b x =>
  split
  ·split
   ·exact .inl rfl
   ·exact .inl rfl
   ·exact .inr (.inl rfl)
   ·exact .inr (.inr rfl)
  ·exact .inr (.inr rfl)
 case call c =>
  obtain ⟨callee, args, ats⟩ := c
  cases callee with
  | builtin b => cases b <;> simp
  | invoke => simp
  | value f =>
   cases f with
   | func f =>
    simp only
    cases E.ext f with
    | some p => simp
    | none => simp only; cases md f <;> simp
   | _ => simp
theorem yju {c : Cx} {ops : Array Oper} {s : List V} {a : Act} (hF : FrOk D c s a) {o : Oper} {b : Bool} (h : ycd ops.toList s o = some b) : Region.wanted o (yielded ops a.tmps) = b := by
 unfold ycd at h
 unfold Region.wanted
 split at h
 ·rename_i hg; rw [hg]; simpa using h
 ·rename_i j want hg
  rw [hg]
  simp only
  split at h
  ·rename_i t ht
   have ht' : (ops[j]?).bind (·.dst) = some t := by simpa using ht
   have hget := hF.get t
   unfold yielded
   rw [ht']
   simp only [Option.bind_some]
   rw [Array.getD_eq_getD_getElem?] at hget
   split at h
   ·rename_i b' hb
    rw [hb] at hget
    have e := hget.bool_inv
    cases hq : a.tmps[t]? with
    | none => rw [hq] at e; simp [undef] at e
    | some x => rw [hq] at e; simp only [Option.getD_some] at e; subst e; simp only; cases h; cases b' <;> cases want <;> rfl
   ·rename_i hb
    rw [hb] at hget
    have e := RV.und_inv (c := c) hget
    cases h
    cases hq : a.tmps[t]? with
    | none => rfl
    | some x => rw [hq] at e; simp only [Option.getD_some] at e; subst e; rfl
   ·cases h
  ·cases h
def PostOk (D : DPred) (E : Env) (c : Cx) (Q : Exit → Act → World → Prop) (e : Ex) (s' : List V) (h' : Heap) : Prop :=
 ∀ c' a', Ext c c' → Rel E c' → c'.h = h' → FrOk D c' s' a' → match e with
  | .normal => Q .normal a' c'.w
  | .exit id => Q (.exit id) a' c'.w
  | .ret => Q .ret a' c'.w
  | .panic v => ∀ x, RV c' v x → Q (.panic [{ v := x, recovered := false }]) a' c'.w
theorem PostOk.ext {c c' : Cx} {Q : Exit → Act → World → Prop} {e : Ex} {s' : List V} {h' : Heap} (h : PostOk D E c Q e s' h') (hx : Ext c c') : PostOk D E c' Q e s' h' :=
 fun c2 a2 h1 h2 h3 h4 => h c2 a2 (hx.trans h1) h2 h3 h4
theorem ypf (s : List V) (d t : Nat) (v : V) (h : d ≠ t) : getT (setT s d v) t = getT s t := by
 simp only [getT, setT, yhr]
 rw [List.getD_eq_getElem?_getD, List.getD_eq_getElem?_getD, List.getElem?_set_ne (by omega)]
theorem ypg (s : List V) (d : Option Tmp) (v : V) (t : Nat) (h : ∀ x, d = some x → x ≠ t) : getT (putT s d v) t = getT s t := by
 cases d with
 | none => rfl
 | some x => exact ypf s x t v (h x rfl)
theorem yph (s : List V) (d e : Option Tmp) (v u : V) (h : ∀ x, d = some x → e ≠ some x) : putT (putT s d v) e u = putT (putT s e u) d v := by
 cases d with
 | none => rfl
 | some x =>
  cases e with
  | none => rfl
  | some y =>
   have hne : x ≠ y := fun q => h x rfl (by rw [q])
   simp only [putT, setT, yhr]
   exact List.set_comm _ _ (fun q => hne (Nat.succ.inj q))
structure Ann where
 i : Nat
 o : Oper
 sl : List V
 v : V
 hb : Heap
 ha : Heap
 /-- it panics -/
 pz : Bool
section
variable (E) (md : FuncId → Mode) (call : CallF) (ops : Array Oper)
def Ann.ev (a : Ann) (h h1 : Heap) : Prop :=
 (ycd ops.toList a.sl a.o = some true ∧ evOp E md call a.o.op a.sl h = some (.val a.v h1)) ∨ (ycd ops.toList a.sl a.o = some false ∧ a.v = und ∧ h1 = h)
inductive Run : Ex → List Ann → List V → Heap → List V → Heap → Prop
 | nil (s : List V) (h : Heap) : Run .normal [] s h s h
 | cons {e : Ex} {a : Ann} {l : List Ann} {s : List V} {h h1 : Heap} {s' : List V} {h' : Heap} (hp : a.pz = false) (hl : ∀ t ∈ a.o.looksAt ops, getT s t = getT a.sl t) (he : a.ev E md call ops h h1) (hf : yai E md a.o.op = 2 → h = a.hb ∧ h1 = a.ha)
   (hr : Run e l (putT s a.o.dst a.v) h1 s' h') : Run e (a :: l) s h s' h'
 | pan {a : Ann} {s : List V} {h h1 : Heap} {v : V} (hp : a.pz = true) (hl : ∀ t ∈ a.o.looksAt ops, getT s t = getT a.sl t) (hw : ycd ops.toList a.sl a.o = some true) (he : evOp E md call a.o.op a.sl h = some (.pan v h1)) : Run (.panic v) [a] s h s h1
def Comm (a b : Ann) : Prop :=
 b.pz = false ∧ a.o.apart ops b.o = true ∧ (yai E md a.o.op = 2 → yai E md b.o.op ≠ 2) ∧
  (yai E md a.o.op = 2 → yai E md b.o.op = 1 → ycd ops.toList b.sl b.o = some true → evOp E md call b.o.op b.sl a.hb = some (.val b.v a.hb)) ∧
  (yai E md b.o.op = 2 → yai E md a.o.op = 1 → ycd ops.toList a.sl a.o = some true → evOp E md call a.o.op a.sl b.ha = some (.val a.v b.ha))
end
variable {md : FuncId → Mode} {call : CallF} {ops : Array Oper}
theorem Run.swap (hC : ycc P E call) {e : Ex} {a b : Ann} {l : List Ann} {s : List V} {h : Heap} {s' : List V} {h' : Heap} (hr : Run E md call ops e (a :: b :: l) s h s' h') (hc : Comm E md call ops a b) : Run E md call ops e (b :: a :: l) s h s' h' := by
 obtain ⟨hbz, hap, hc1, hc3, hc2⟩ := hc
 obtain ⟨p1, p2, p3⟩ := Oper.apart_spec hap
 cases hr with
 | cons hza hla ha hfa hr =>
  cases hr with
  | pan hp => rw [hbz] at hp; cases hp
  | cons hzb hlb hb hfb hr =>
   rename_i h1 h2
   have lb : ∀ t ∈ b.o.looksAt ops, getT s t = getT b.sl t := fun t ht => by
    rw [← hlb t ht, ypg]
    intro x hx e; subst e; exact p1 x hx ht
   have la : ∀ t ∈ a.o.looksAt ops, getT (putT s b.o.dst b.v) t = getT a.sl t := fun t ht => by
    rw [← hla t ht, ypg]
    intro x hx e; subst e; exact p3 x hx ht
   have hr' : Run E md call ops e l (putT (putT s b.o.dst b.v) a.o.dst a.v) h2 s' h' := by
    rw [← yph s a.o.dst b.o.dst a.v b.v p2]; exact hr
   have z : ∀ {x : Ann} {g g1 : Heap}, yai E md x.o.op = 0 → x.ev E md call ops g g1 → g1 = g ∧ ∀ g2, x.ev E md call ops g2 g2 := by
    intro x g g1 hk hx
    rcases hx with ⟨q1, q2⟩ | ⟨q1, q2, q3⟩
    ·obtain ⟨r1, r2⟩ := kind0 hk q2
     exact ⟨r1, fun g2 => .inl ⟨q1, r2 g2⟩⟩
    ·exact ⟨q3, fun g2 => .inr ⟨q1, q2, rfl⟩⟩
   have o1 : ∀ {x : Ann} {g g1 : Heap}, yai E md x.o.op = 1 → x.ev E md call ops g g1 → g1 = g := by
    intro x g g1 hk hx
    rcases hx with ⟨q1, q2⟩ | ⟨q1, q2, q3⟩
    ·exact kind1 hC hk q2
    ·exact q3
   rcases kinds (E := E) md a.o.op with ka | ka | ka
   ·obtain ⟨e1, e2⟩ := z ka ha
    subst e1
    exact .cons hzb lb hb hfb (.cons hza la (e2 _) (fun k => by omega) hr')
   ·have e1 := o1 ka ha
    subst e1
    refine .cons hzb lb hb hfb (.cons hza la ?_ (fun k => by omega) hr')
    rcases kinds (E := E) md b.o.op with kb | kb | kb
    ·have e2 := (z kb hb).1; subst e2; exact ha
    ·have e2 := o1 kb hb; subst e2; exact ha
    ·obtain ⟨_, e2⟩ := hfb kb
     rcases ha with ⟨q1, q2⟩ | ⟨q1, q2, q3⟩
     ·rw [e2]; exact .inl ⟨q1, hc2 kb ka q1⟩
     ·exact .inr ⟨q1, q2, rfl⟩
   ·rcases kinds (E := E) md b.o.op with kb | kb | kb
    ·obtain ⟨e1, e2⟩ := z kb hb
     subst e1
     exact .cons hzb lb (e2 _) (fun k => by omega) (.cons hza la ha hfa hr')
    ·have e1 := o1 kb hb
     subst e1
     obtain ⟨e2, _⟩ := hfa ka
     refine .cons hzb lb ?_ (fun k => by omega) (.cons hza la ha hfa hr')
     rcases hb with ⟨q1, q2⟩ | ⟨q1, q2, q3⟩
     ·rw [e2]; exact .inl ⟨q1, hc3 ka kb q1⟩
     ·exact .inr ⟨q1, q2, rfl⟩
    ·exact absurd kb (hc1 ka)
theorem Run.front (hC : ycc P E call) {e : Ex} {a : Ann} {l2 : List Ann} {s' : List V} {h' : Heap} : ∀ (l1 : List Ann) (s : List V) (h : Heap), Run E md call ops e (l1 ++ a :: l2) s h s' h' → (∀ x ∈ l1, Comm E md call ops x a) → Run E md call ops e (a :: (l1 ++ l2)) s h s' h'
 | [], s, h, hr, _ => hr
 | x :: l1, s, h, hr, hc => by
  generalize hL : x :: l1 ++ a :: l2 = L at hr
  cases hr with
  | nil => cases hL
  | pan => simp at hL
  | cons hz hl he hf hr =>
   simp only [List.cons_append, List.cons.injEq] at hL
   obtain ⟨rfl, rfl⟩ := hL
   have ih := Run.front hC l1 _ _ hr (fun y hy => hc y (by simp [hy]))
   exact Run.swap hC (.cons hz hl he hf ih) (hc x (by simp))
theorem ypi {s s' : List V} {o : Oper} (h : ∀ t ∈ o.looksAt ops, getT s t = getT s' t) : ycd ops.toList s o = ycd ops.toList s' o := by
 unfold ycd
 cases hg : o.guard with
 | none => rfl
 | some jw =>
  obtain ⟨j, want⟩ := jw
  simp only
  cases ht : (ops.toList[j]?).bind (·.dst) with
  | none => rfl
  | some t =>
   simp only
   rw [h t (by
    have ht' : (ops[j]?).bind (·.dst) = some t := by simpa using ht
    unfold Oper.looksAt
    rw [hg]
    simp only [ht']
    exact List.mem_append_right _ (by simp))]
theorem ypj {s s' : List V} {o : Oper} {h : Heap} (hl : ∀ t ∈ o.looksAt ops, getT s t = getT s' t) : evOp E md call o.op s h = evOp E md call o.op s' h :=
 yuz fun x hx => yuy fun t ht => hl t (by
  subst ht
  exact List.mem_append_left _ (List.mem_filterMap.2 ⟨.tmp t, hx, rfl⟩))
structure Static (E : Env) (md : FuncId → Mode) (ops : Array Oper) (A : List (List Nat)) : Prop where
 lt : ∀ (j : Nat) (y : Oper), ops[j]? = some y → ∀ p ∈ preds y, p < j
 cl : ∀ (j : Nat) (y : Oper), ops[j]? = some y → ∀ x ∈ A.getD j [], x ∈ preds y ∨ ∃ p ∈ preds y, x ∈ A.getD p []
 pair : ∀ (i j : Nat) (x y : Oper), i < j → ops[i]? = some x → ops[j]? = some y → i ∈ A.getD j [] ∨ (x.apart ops y = true ∧ (yai E md x.op = 2 → yai E md y.op ≠ 2)) ∨ (yai E md x.op = 2 ∧ freeA y = true ∧ x.apart ops y = true ∧ ∀ z, z < ops.size → j ∈ A.getD z [] → i ∈ A.getD z [])
def Late (E : Env) (md : FuncId → Mode) (ops : Array Oper) (A : List (List Nat)) (x y : Ann) : Prop :=
 yai E md x.o.op = 2 ∧ freeA y.o = true ∧ x.o.apart ops y.o = true ∧ ∀ z, z < ops.size → y.i ∈ A.getD z [] → x.i ∈ A.getD z []
theorem yva (h : yei E md ops = true) : Static E md ops (ancT ops.toList []) ∧ ∀ (i j : Nat) (x y : Oper), i < j → ops[i]? = some x → ops[j]? = some y → i ∈ (ancT ops.toList []).getD j [] ∨ (yai E md x.op = 2 → yai E md y.op = 0) := by
 unfold yei at h
 simp only [List.all_eq_true, List.mem_range] at h
 have at' : ∀ (j : Nat) (y : Oper), ops[j]? = some y → _ := fun j y hy => by
  have := h j (Array.getElem?_eq_some_iff.1 hy).1
  rw [hy] at this
  simp only [Bool.and_eq_true] at this
  exact this
 refine ⟨⟨fun j y hy p hp => ?_, fun j y hy x hx => ?_, fun i j x y hij hx hy => ?_⟩, fun i j x y hij hx hy => ?_⟩
 ·have := (at' j y hy).1.1
  simp only [List.all_eq_true, decide_eq_true_eq] at this
  exact this p hp
 ·have := (at' j y hy).1.2
  simp only [List.all_eq_true, Bool.or_eq_true, List.contains_iff_mem, List.any_eq_true] at this
  exact this x hx
 ·have := (at' j y hy).2
  simp only [List.all_eq_true, List.mem_range] at this
  have := this i hij
  rw [hx] at this
  simp only [yli, Bool.or_eq_true, List.contains_iff_mem, Bool.and_eq_true] at this
  refine this.imp id fun q => .inl ⟨q.1, fun k => ?_⟩
  have := q.2
  rw [if_pos k] at this
  have e : yai E md y.op = 0 := by simpa using this
  omega
 ·have := (at' j y hy).2
  simp only [List.all_eq_true, List.mem_range] at this
  have := this i hij
  rw [hx] at this
  simp only [yli, Bool.or_eq_true, List.contains_iff_mem, Bool.and_eq_true] at this
  refine this.imp id fun q => fun k => ?_
  have := q.2
  rw [if_pos k] at this
  simpa using this
theorem yvb (h : yhn E md ops = true) : Static E md ops (ancT ops.toList []) := by
 unfold yhn at h
 simp only [List.all_eq_true, List.mem_range] at h
 have at' : ∀ (j : Nat) (y : Oper), ops[j]? = some y → _ := fun j y hy => by
  have := h j (Array.getElem?_eq_some_iff.1 hy).1
  rw [hy] at this
  simp only [Bool.and_eq_true] at this
  exact this
 refine ⟨fun j y hy p hp => ?_, fun j y hy x hx => ?_, fun i j x y hij hx hy => ?_⟩
 ·have := (at' j y hy).1.1
  simp only [List.all_eq_true, decide_eq_true_eq] at this
  exact this p hp
 ·have := (at' j y hy).1.2
  simp only [List.all_eq_true, Bool.or_eq_true, List.contains_iff_mem, List.any_eq_true] at this
  exact this x hx
 ·have := (at' j y hy).2
  simp only [List.all_eq_true, List.mem_range] at this
  have := this i hij
  rw [hx] at this
  simp only [ynz, Bool.or_eq_true, List.contains_iff_mem, Bool.and_eq_true] at this
  refine this.imp id fun q => ?_
  obtain ⟨q1, q2⟩ := q
  by_cases k : yai E md x.op = 2
  ·rw [if_pos k] at q2
   rcases q2 with q2 | ⟨q2, q3⟩
   ·exact .inl ⟨q1, fun _ => by simpa using q2⟩
   ·refine .inr ⟨k, q2, q1, fun z hz hj => ?_⟩
    have := List.all_eq_true.1 q3 z (List.mem_range.2 hz)
    simp only [Bool.or_eq_true, Bool.not_eq_true', List.contains_iff_mem] at this
    rcases this with w | w
    ·rw [← List.contains_iff_mem] at hj; rw [w] at hj; cases hj
    ·exact w
  ·exact .inl ⟨q1, fun h => absurd h k⟩
theorem yjv (hC : ycc P E call) {A : List (List Nat)} (hS : Static E md ops A) : ∀ (n k : Nat) (acc : List (Nat × Op × List V × V)) (ws : List (Nat × Heap)) (s : List V) (h : Heap) (e : Ex) (s' : List V) (h' : Heap), k + n = ops.size → (∀ p ∈ acc, yai E md p.2.1 = 1) → (∀ p ∈ acc, p.1 < k) →
  ycm E md call A ops.toList k (ops.toList.drop k) acc ws s h = some (e, s', h') →
  ∃ L : List Ann, L.length = n ∧ (∀ x ∈ L, ops[x.i]? = some x.o ∧ k ≤ x.i ∧ (x.pz = true → ∀ i, i < x.i → i ∈ A.getD x.i [])) ∧ (∀ i, k ≤ i → i < ops.size → ∃ x ∈ L, x.i = i) ∧ L.Pairwise (fun x y => x.i < y.i) ∧
   L.Pairwise (fun x y => x.i ∈ A.getD y.i [] ∨ Comm E md call ops x y ∨ Late E md ops A x y) ∧ Run E md call ops e L s h s' h' ∧
   (∀ b ∈ L, yai E md b.o.op = 2 → ∀ p ∈ acc, p.1 ∈ A.getD b.i [] ∨ evOp E md call p.2.1 p.2.2.1 b.ha = some (.val p.2.2.2 b.ha)) ∧
   ∀ b ∈ L, yai E md b.o.op = 1 → ycd ops.toList b.sl b.o = some true → ∀ q ∈ ws, b.pz = true ∨ q.1 ∈ A.getD b.i [] ∨ evOp E md call b.o.op b.sl q.2 = some (.val b.v q.2)
 | 0, k, acc, ws, s, h, e, s', h', hk, hacc, haccA, hev => by
  rw [List.drop_eq_nil_of_le (by simp; omega)] at hev
  simp only [ycm] at hev
  cases hev
  exact ⟨[], rfl, by simp, fun i h1 h2 => by omega, .nil, .nil, .nil _ _, by simp, by simp⟩
 | n + 1, k, acc, ws, s, h, e, s', h', hk, hacc, haccA, hev => by
  have hlt : k < ops.toList.length := by simp; omega
  have ho : ops[k]? = some ops.toList[k] := by simp [show k < ops.size by omega]
  rw [List.drop_eq_getElem_cons hlt] at hev
  generalize ops.toList[k] = o at ho hev
  simp only [ycm] at hev
  replace hev := Option.bind_eq_some_iff.1 hev; obtain ⟨b, hb, hev⟩ := hev
  have hb' := hb
  replace hev := Option.bind_eq_some_iff.1 hev; obtain ⟨r, hr, hev⟩ := hev
  cases r with
  | pan v g =>
   simp only at hev
   split at hev
   ·rename_i hcond
    obtain ⟨hbt, hlen, hall⟩ := hcond
    subst hbt
    rw [if_pos rfl] at hr
    cases hev
    have hn0 : n = 0 := by simp at hlen; omega
    subst hn0
    refine ⟨[⟨k, o, s, v, h, h, true⟩], rfl, fun x hx => ?_, fun i h1 h2 => ?_, ?_, ?_, .pan rfl (fun t _ => rfl) hb hr, ?_, fun b hb1 _ _ q _ => ?_⟩
    ·rcases List.mem_singleton.1 hx with rfl
     refine ⟨ho, Nat.le_refl _, fun _ i hi => ?_⟩
     have := List.all_eq_true.1 hall i (List.mem_range.2 hi)
     simpa using this
    ·exact ⟨_, List.mem_singleton.2 rfl, by simp; omega⟩
    ·exact List.pairwise_singleton _ _
    ·exact List.pairwise_singleton _ _
    ·intro b hb1 _ p hp
     rcases List.mem_singleton.1 hb1 with rfl
     exact .inl (by have := List.all_eq_true.1 hall p.1 (List.mem_range.2 (haccA p hp)); simpa using this)
    ·rcases List.mem_singleton.1 hb1 with rfl
     exact .inl rfl
   ·cases hev
  | val rv rh =>
  simp only at hev
  have hann : ∀ (ann : Ann), ann.o = o → ann.sl = s → ann.v = rv → ann.ev E md call ops h rh := by
   rintro ⟨i, o', sl, v, hb', ha', pz⟩ rfl rfl rfl
   split at hr
   ·rename_i hbt; subst hbt
    exact .inl ⟨hb, hr⟩
   ·rename_i hbf
    have : b = false := by simpa using hbf
    subst this
    cases hr
    exact .inr ⟨hb, rfl, rfl⟩
  split at hev
  ·rename_i h2
   split at hev
   ·rename_i hall
    obtain ⟨L, l1, l2, l3, l4, l5, l6, l7, l8⟩ := yjv hC hS n (k + 1) acc _ _ _ e s' h' (by omega) hacc (fun p hp => by have := haccA p hp; omega) hev
    refine ⟨⟨k, o, s, rv, h, rh, false⟩ :: L, by simp [l1], fun x hx => ?_, fun i h1 h2 => ?_, ?_, ?_, ?_, fun b hb hb2 p hp => ?_, fun b hb hb2 hbw q hq => ?_⟩
    ·rcases List.mem_cons.1 hx with rfl | hx
     ·exact ⟨ho, Nat.le_refl _, fun h => by cases h⟩
     ·obtain ⟨q1, q2, q3⟩ := l2 x hx; exact ⟨q1, by omega, q3⟩
    ·by_cases e : k = i
     ·exact ⟨_, List.mem_cons_self .., e⟩
     ·obtain ⟨x, hx, hxi⟩ := l3 i (by omega) h2; exact ⟨x, List.mem_cons_of_mem _ hx, hxi⟩
    ·exact .cons (fun y hy => by have := (l2 y hy).2.1; simp only; omega) l4
    ·refine .cons (fun y hy => ?_) l5
     obtain ⟨q1, q2, q3⟩ := l2 y hy
     by_cases hyz : y.pz = true
     ·exact .inl (q3 hyz k (by omega))
     rcases hS.pair k y.i o y.o (by omega) ho q1 with u | ⟨u1, u2⟩ | late
     ·exact .inl u
     rotate_left
     ·exact .inr (.inr late)
     by_cases hy1 : yai E md y.o.op = 1 ∧ ycd ops.toList y.sl y.o = some true
     ·rcases l8 y hy hy1.1 hy1.2 (k, h) (List.mem_cons_self ..) with u | u | u
      ·exact absurd u hyz
      ·exact .inl u
      ·exact .inr (.inl ⟨by simpa using hyz, u1, u2, fun _ _ _ => u, fun u3 u4 => by simp only at u4; omega⟩)
     ·exact .inr (.inl ⟨by simpa using hyz, u1, u2, fun _ u4 u5 => absurd ⟨u4, u5⟩ hy1, fun u3 u4 => by simp only at u4; omega⟩)
    ·exact .cons rfl (fun t _ => rfl) (hann _ rfl rfl rfl) (fun _ => ⟨rfl, rfl⟩) l6
    ·rcases List.mem_cons.1 hb with rfl | hb
     ·have := List.all_eq_true.1 hall p hp
      simp only [Bool.or_eq_true, List.contains_iff_mem] at this
      refine this.imp id fun q => ?_
      unfold ydz at q
      split at q
      ·rename_i u g hu
       have e1 : u = p.2.2.2 := by simpa using q
       have e2 := kind1 hC (hacc p hp) hu
       rw [hu, e1, e2]
      ·cases q
     ·exact l7 b hb hb2 p hp
    ·rcases List.mem_cons.1 hb with rfl | hb
     ·simp only at hb2; omega
     ·exact l8 b hb hb2 hbw q (List.mem_cons_of_mem _ hq)
   ·cases hev
  ·rename_i h2
   split at hev
   ·rename_i hk1
    split at hev
    ·rename_i hws
     obtain ⟨L, l1, l2, l3, l4, l5, l6, l7, l8⟩ := yjv hC hS n (k + 1) _ _ _ _ e s' h' (by omega) (by
      intro p hp
      rcases List.mem_cons.1 hp with rfl | hp
      ·exact hk1.1
      ·exact hacc p hp) (by
      intro p hp
      rcases List.mem_cons.1 hp with rfl | hp
      ·exact Nat.lt_succ_self k
      ·have := haccA p hp; omega) hev
     refine ⟨⟨k, o, s, rv, h, rh, false⟩ :: L, by simp [l1], fun x hx => ?_, fun i h1 h2 => ?_, ?_, ?_, ?_, fun b hb hb2 p hp => ?_, fun b hb hb2 hbw q hq => ?_⟩
     ·rcases List.mem_cons.1 hx with rfl | hx
      ·exact ⟨ho, Nat.le_refl _, fun h => by cases h⟩
      ·obtain ⟨q1, q2, q3⟩ := l2 x hx; exact ⟨q1, by omega, q3⟩
     ·by_cases e : k = i
      ·exact ⟨_, List.mem_cons_self .., e⟩
      ·obtain ⟨x, hx, hxi⟩ := l3 i (by omega) h2; exact ⟨x, List.mem_cons_of_mem _ hx, hxi⟩
     ·exact .cons (fun y hy => by have := (l2 y hy).2.1; simp only; omega) l4
     ·refine .cons (fun y hy => ?_) l5
      obtain ⟨q1, q2, q3⟩ := l2 y hy
      by_cases hyz : y.pz = true
      ·exact .inl (q3 hyz k (by omega))
      rcases hS.pair k y.i o y.o (by omega) ho q1 with u | ⟨u1, u2⟩ | late
      ·exact .inl u
      rotate_left
      ·exact absurd late.1 h2
      ·by_cases hy2 : yai E md y.o.op = 2
       ·rcases l7 y hy hy2 (k, o.op, s, rv) (List.mem_cons_self ..) with u | u
        ·exact .inl u
        ·exact .inr (.inl ⟨by simpa using hyz, u1, u2, fun u3 => absurd u3 h2, fun _ _ _ => u⟩)
       ·exact .inr (.inl ⟨by simpa using hyz, u1, u2, fun u3 => absurd u3 h2, fun u3 => absurd u3 hy2⟩)
     ·exact .cons rfl (fun t _ => rfl) (hann _ rfl rfl rfl) (fun q => absurd q h2) l6
     ·rcases List.mem_cons.1 hb with rfl | hb
      ·exact absurd hb2 h2
      ·exact l7 b hb hb2 p (List.mem_cons_of_mem _ hp)
     ·rcases List.mem_cons.1 hb with rfl | hb
      ·have := List.all_eq_true.1 hws q hq
       simp only [Bool.or_eq_true, List.contains_iff_mem] at this
       refine .inr (this.imp id fun z => ?_)
       unfold ydz at z
       split at z
       ·rename_i u g hu
        have e1 : u = rv := by simpa using z
        have e2 := kind1 hC hk1.1 hu
        rw [hu, e1, e2]
       ·cases z
      ·exact l8 b hb hb2 hbw q hq
    ·cases hev
   ·rename_i hk1
    obtain ⟨L, l1, l2, l3, l4, l5, l6, l7, l8⟩ := yjv hC hS n (k + 1) _ _ _ _ e s' h' (by omega) hacc (fun p hp => by have := haccA p hp; omega) hev
    refine ⟨⟨k, o, s, rv, h, rh, false⟩ :: L, by simp [l1], fun x hx => ?_, fun i h1 h2 => ?_, ?_, ?_, ?_, fun b hb hb2 p hp => ?_, fun b hb hb2 hbw q hq => ?_⟩
    ·rcases List.mem_cons.1 hx with rfl | hx
     ·exact ⟨ho, Nat.le_refl _, fun h => by cases h⟩
     ·obtain ⟨q1, q2, q3⟩ := l2 x hx; exact ⟨q1, by omega, q3⟩
    ·by_cases e : k = i
     ·exact ⟨_, List.mem_cons_self .., e⟩
     ·obtain ⟨x, hx, hxi⟩ := l3 i (by omega) h2; exact ⟨x, List.mem_cons_of_mem _ hx, hxi⟩
    ·exact .cons (fun y hy => by have := (l2 y hy).2.1; simp only; omega) l4
    ·refine .cons (fun y hy => ?_) l5
     obtain ⟨q1, q2, q3⟩ := l2 y hy
     by_cases hyz : y.pz = true
     ·exact .inl (q3 hyz k (by omega))
     rcases hS.pair k y.i o y.o (by omega) ho q1 with u | ⟨u1, u2⟩ | late
     ·exact .inl u
     rotate_left
     ·exact absurd late.1 h2
     ·refine .inr (.inl ⟨by simpa using hyz, u1, u2, fun u3 => absurd u3 h2, fun u3 u4 u5 => ?_⟩)
      simp only at u4 u5
      rw [hb] at u5
      exact absurd ⟨u4, by simpa using u5⟩ hk1
    ·exact .cons rfl (fun t _ => rfl) (hann _ rfl rfl rfl) (fun q => absurd q h2) l6
    ·rcases List.mem_cons.1 hb with rfl | hb
     ·exact absurd hb2 h2
     ·exact l7 b hb hb2 p hp
    ·rcases List.mem_cons.1 hb with rfl | hb
     ·simp only at hb2 hbw
      rw [hb'] at hbw
      exact absurd ⟨hb2, by simpa using hbw⟩ hk1
     ·exact l8 b hb hb2 hbw q hq
theorem mem_preds {o : Oper} {p : Nat} : p ∈ preds o ↔ ∃ e ∈ o.after, Region.binds .any e = true ∧ e.on = p := by
 unfold preds
 simp only [List.mem_map, List.mem_filter, Array.mem_toList_iff]
 constructor
 ·rintro ⟨e, ⟨h1, h2⟩, h3⟩; exact ⟨e, h1, h2, h3⟩
 ·rintro ⟨e, h1, h2, h3⟩; exact ⟨e, ⟨h1, h2⟩, h3⟩
theorem ygr {listed : Array Bool} {i j : Nat} (hi : i < listed.size) (d : Bool) : (listed.setIfInBounds i true).getD j d = if i = j then true else listed.getD j d := by
 by_cases e : i = j
 ·subst e; rw [if_pos rfl]; simp [hi]
 ·rw [if_neg e]; exact getD_set_ne d e
/-! New variables that the machine makes ahead of the evaluator -/
def trivD : DPred := ⟨fun _ _ => True, fun _ _ => trivial⟩
theorem FrOk.triv {D : DPred} {c : Cx} {s : List V} {a : Act} (h : FrOk D c s a) : FrOk trivD c s a := ⟨h.s, trivial⟩
theorem FrOk.wk {c c' : Cx} (hx : ExtW c c') {s : List V} {a : Act} (h : FrOk trivD c s a) : FrOk trivD c' s a := by
 obtain ⟨⟨ts, h1, h2⟩, h3⟩ := h
 exact ⟨⟨ts, h1, h2.monoW hx⟩, trivial⟩
structure Pend (E : Env) (ops : Array Oper) (c0 c : Cx) (a : Act) (p : Nat × Nat) : Prop where
 lo : c0.w.heap.size ≤ p.2
 hi : p.2 < c.w.heap.size
 my : ¬ c.my p.2
 ro : ¬ c.ro p.2
 op : ∃ o t d td, ops[p.1]? = some o ∧ o.op = .alloc t ∧ o.guard = none ∧ o.dst = some d ∧ E.ty t = some td ∧ c.w.heap[p.2]? = some (.cells td.zeroV.cells t (0, 0)) ∧ a.put (some d) (.pointer (some ⟨p.2, 0, none⟩)) = a
theorem yvc (a : Act) (d : Tmp) (x y : Value) : (a.put (some d) x).put (some d) y = a.put (some d) y := by
 simp only [Act.put]
 congr 1
 apply Array.ext_getElem?
 intro i
 by_cases h : d = i
 ·subst h; simp [Array.getElem?_setIfInBounds]
 ·rw [Array.getElem?_setIfInBounds_ne h, Array.getElem?_setIfInBounds_ne h, Array.getElem?_setIfInBounds_ne h]
theorem put_comm (a : Act) {dst : Option Tmp} {d : Tmp} (h : dst ≠ some d) (x y : Value) : (a.put dst x).put (some d) y = (a.put (some d) y).put dst x := by
 cases dst with
 | none => rfl
 | some e =>
  have hne : e ≠ d := fun q => h (by rw [q])
  simp only [Act.put]
  congr 1
  apply Array.ext_getElem?
  intro i
  by_cases h1 : d = i
  ·subst h1; rw [Array.getElem?_setIfInBounds_ne hne]; simp [Array.getElem?_setIfInBounds, Array.getElem?_setIfInBounds_ne hne]
  ·by_cases h2 : e = i
   ·subst h2; rw [Array.getElem?_setIfInBounds_ne h1]; simp [Array.getElem?_setIfInBounds, Array.getElem?_setIfInBounds_ne h1]
   ·rw [Array.getElem?_setIfInBounds_ne h1, Array.getElem?_setIfInBounds_ne h2, Array.getElem?_setIfInBounds_ne h2, Array.getElem?_setIfInBounds_ne h1]
theorem Pend.step {c0 c c' : Cx} {a : Act} {p : Nat × Nat} {dst : Option Tmp} {u : Value} (h : Pend E ops c0 c a p) (hx : Ext c c') (ha : ∀ o d, ops[p.1]? = some o → o.dst = some d → dst ≠ some d) : Pend E ops c0 c' (a.put dst u) p := by
 obtain ⟨o, t, d, td, h1, h2, h3, h4, h5, h6, h7⟩ := h.op
 have hi := h.hi
 exact ⟨h.lo, Nat.lt_of_lt_of_le h.hi hx.grow, fun k => (hx.mine _ k).elim h.my (fun q => by omega), fun k => (hx.ro2 _ k).elim h.ro (fun q => by omega), o, t, d, td, h1, h2, h3, h4, h5, (hx.frame _ h.hi h.my).trans h6, by rw [put_comm a (ha o d h1 h4), h7]⟩
theorem flush_ok (hE : EnvOk P E) {c0 c : Cx} (hX : Ext c0 c) (hR : Rel E c) {r0 : Nat} (lo : c0.w.heap.size ≤ r0) (hi : r0 < c.w.heap.size) (my : ¬ c.my r0) (hro : ¬ c.ro r0) {t : TypeId} {td : TyD} (ht : E.ty t = some td) (hz : td.zero.length = td.size)
  (hw : c.w.heap[r0]? = some (.cells td.zeroV.cells t (0, 0))) :
  ∃ c2 : Cx, Ext c0 c2 ∧ Rel E c2 ∧ ExtW c c2 ∧ c2.h = push c.h (.cells t td.zero) ∧ c2.w = c.w ∧ (∀ r, c2.my r → c.my r ∨ r = r0) ∧ c2.ro = c.ro ∧ RV c2 (.ptr c.h.length 0 td.size) (.pointer (some ⟨r0, 0, none⟩)) := by
 have hT := hE.ty t td ht
 have w01 : ExtW c { c with my := fun r => c.my r ∨ r = r0 } := ⟨fun _ h => h, fun _ _ => rfl, Nat.le_refl _, fun _ _ n hn => ⟨n, hn, Nat.le_refl _, fun _ => rfl⟩, fun _ _ h => ⟨h, rfl⟩, fun _ _ h => ⟨h, rfl⟩, fun _ C _ fz h => ⟨C, fz, h, rfl⟩⟩
 have x01 : Ext c0 { c with my := fun r => c.my r ∨ r = r0 } := ⟨hX.ro, hX.same, hX.len, hX.blk, hX.mp, hX.it, hX.size, hX.grow, fun r h => h.elim (hX.mine r) (fun e => .inr (by omega)), hX.frame, hX.ro2, hX.rest⟩
 have R1 : Rel E { c with my := fun r => c.my r ∨ r = r0 } := by
  refine ⟨fun b T cs hb => ?_, fun b es hb => ?_, fun b L hb => ?_, hR.own, hR.inj, hR.rolt, hR.gl, fun b hb => .inl (hR.mine b hb), hR.ali⟩
  ·obtain ⟨C, l1, l2, k1, k2, k3, k4, k5⟩ := hR.cells b T cs hb
   refine ⟨C, l1, l2, k1, k2, fun j v hv => ?_, k4, k5⟩
   obtain ⟨x, hx, hr⟩ := k3 j v hv
   exact ⟨x, hx, hr.monoW w01⟩
  ·obtain ⟨xs, cl, k1, k2, k0, k3⟩ := hR.maps b es hb
   refine ⟨xs, cl, k1, k2, k0, fun i k v hv => ?_⟩
   obtain ⟨e, he, hk, hr⟩ := k3 i k v hv
   exact ⟨e, he, hk.monoW w01, hr.monoW w01⟩
  ·obtain ⟨lp, k1, k2⟩ := hR.iters b L hb
   exact ⟨lp, k1, k2.st, k2.pend, k2.ps, k2.asg, k2.body, k2.tmps.monoW w01⟩
 have hmine := hR.mine
 generalize hc1 : ({ c with my := fun r => c.my r ∨ r = r0 } : Cx) = c1 at w01 x01 R1
 have e1 : c1.h = c.h := by rw [← hc1]
 have e2 : c1.w = c.w := by rw [← hc1]
 have e3 : c1.ρ = c.ρ := by rw [← hc1]
 have e4 : c1.ro = c.ro := by rw [← hc1]
 have e5 : c1.my = fun r => c.my r ∨ r = r0 := by rw [← hc1]
 have hgo : ∀ b, b < c1.h.length → (push c1.h (.cells t td.zero))[b]? = c1.h[b]? := fun b hb => by rw [ydb, if_neg (by omega)]
 have hρ : ∀ b, b < c1.h.length → (updρ c1.ρ c1.h.length (r0, 0)) b = c1.ρ b := fun b hb => ydp _ _ _ (by omega)
 have x12 : Ext c1 { c1 with ρ := updρ c1.ρ c1.h.length (r0, 0), h := push c1.h (.cells t td.zero) } := by
  refine ⟨fun _ h => h, fun r h => rfl, by simp [push], fun b hb n hn => ?_, fun b hb hm => ?_, fun b hb hm => ?_, fun r C T fz h => ⟨C, fz, h, rfl⟩, Nat.le_refl _, fun r h => .inl h, fun r hr _ => rfl, fun _ h => .inl h, ⟨rfl, rfl, rfl⟩⟩
  ·refine ⟨n, ?_, Nat.le_refl _, fun _ => hρ b hb⟩
   simp only [hsz] at hn ⊢; rw [hgo b hb] at hn; exact hn
  ·refine ⟨?_, hρ b hb⟩
   obtain ⟨es, he⟩ := hm; simp only at he; rw [hgo b hb] at he; exact ⟨es, he⟩
  ·refine ⟨?_, hρ b hb⟩
   obtain ⟨es, he⟩ := hm; simp only at he; rw [hgo b hb] at he; exact ⟨es, he⟩
 have hb0 : (push c1.h (.cells t td.zero))[c1.h.length]? = some (.cells t td.zero) := by rw [ydb, if_pos rfl]
 have hzr : RVs c1 td.zero td.zeroV.cells.toList := by rw [hT.zero_cells]; exact ygn hT.zo
 have R2 : Rel E { c1 with ρ := updρ c1.ρ c1.h.length (r0, 0), h := push c1.h (.cells t td.zero) } := by
  refine R1.touch x12 c1.h.length rfl (fun b hb => ?_) (fun b hb => ydp _ _ _ hb) (fun b _ hl => rfl) (Nat.le_refl _) (fun _ h => h) (fun _ => ?_) (fun T cs d _ _ => by simp only [yba, Nat.zero_mod]) (fun T cs h => ?_) (fun es h => ?_) (fun L h => ?_) (fun _ => ?_)
  ·simp only; rw [ydb, if_neg hb]
  ·simp only [yba]; rw [e5]; exact .inr rfl
  ·simp only at h; rw [hb0] at h; cases h
   refine ⟨td.zeroV.cells, 0, 0, ?_, ?_, fun j v hv => ?_, fun j _ hj => by omega, ylq hT.zo, .inl rfl⟩
   ·simp only [yba]; rw [e2]; exact hw
   ·simp only [yba]; have := hzr.1; simp at this; omega
   ·simp only [yba, Nat.zero_add]
    obtain ⟨x, k1, k2⟩ := hzr.get hv
    exact ⟨x, by simpa using k1, k2.mono x12⟩
  ·simp only at h; rw [hb0] at h; cases h
  ·simp only at h; rw [hb0] at h; cases h
  ·simp only [yba]
   refine ⟨by rw [e4]; exact hro, fun b _ hl he => my ?_⟩
   have := hmine b (by rw [← e1]; exact hl)
   rw [e3] at he; rw [he] at this; exact this
 refine ⟨_, x01.trans x12, R2, ⟨?_, ?_, ?_, ?_, ?_, ?_, ?_⟩, by simp only [e1], by simp only [e2], fun r hr => ?_, by simp only [e4], ?_⟩
 ·exact fun r h => x12.ro r (w01.ro r h)
 ·exact fun r h => (x12.same r (w01.ro r h)).trans (w01.same r h)
 ·exact Nat.le_trans w01.len x12.len
 ·intro b hb n hn
  obtain ⟨m, k1, k2, k3⟩ := x12.blk b (by rw [e1]; exact hb) n hn
  obtain ⟨m', k4, k5, k6⟩ := w01.blk b hb m k1
  exact ⟨m', k4, by omega, fun q => (k3 (by omega)).trans (k6 (by omega))⟩
 ·intro b hb hm
  obtain ⟨k1, k2⟩ := x12.mp b (by rw [e1]; exact hb) hm
  obtain ⟨k3, k4⟩ := w01.mp b hb k1
  exact ⟨k3, k2.trans k4⟩
 ·intro b hb hm
  obtain ⟨k1, k2⟩ := x12.it b (by rw [e1]; exact hb) hm
  obtain ⟨k3, k4⟩ := w01.it b hb k1
  exact ⟨k3, k2.trans k4⟩
 ·intro r C T fz h
  obtain ⟨C1, f1, k1, k2⟩ := w01.size r C T fz h
  obtain ⟨C2, f2, k3, k4⟩ := x12.size r C1 T f1 k1
  exact ⟨C2, f2, k3, k4.trans k2⟩
 ·simp only [e5] at hr; exact hr
 ·rw [← hz, ← e1]
  refine .ptr _ _ _ _ ⟨_, rfl⟩ (by simp [push]) (fun n hn => by rw [yci hb0] at hn; simp at hn; omega) (fun _ => ?_)
  simp only [yba]
theorem Run.junk {e : Ex} {y : Ann} {d : Tmp} {l2 : List Ann} {s' : List V} {h' : Heap} (hd : y.o.dst = some d) (hy : ∀ t, t ∉ y.o.looksAt ops) (hyp : y.pz = false) : ∀ (l1 : List Ann) (s : List V) (h : Heap), (∀ u ∈ l1, d ∉ u.o.looksAt ops ∧ u.o.dst ≠ some d) →
  Run E md call ops e (l1 ++ y :: l2) s h s' h' → Run E md call ops e (l1 ++ y :: l2) (setT s d .junk) h s' h'
 | [], s, h, _, hr => by
  have hset : ∀ v, putT (setT s d .junk) (some d) v = putT s (some d) v := fun v => by
   simp only [putT, setT, yhr, List.set_set]
  generalize hL : [] ++ y :: l2 = L at hr
  cases hr with
  | nil => simp at hL
  | pan hp => simp only [List.nil_append, List.cons.injEq] at hL; obtain ⟨rfl, _⟩ := hL; rw [hyp] at hp; cases hp
  | cons hz hl he hf hr =>
   simp only [List.nil_append, List.cons.injEq] at hL
   obtain ⟨rfl, rfl⟩ := hL
   exact .cons hz (fun t ht => absurd ht (hy t)) he hf (by rw [hd, hset]; rw [hd] at hr; exact hr)
 | u :: l1, s, h, hu, hr => by
  have hu0 := hu u (List.mem_cons_self ..)
  generalize hL : u :: l1 ++ y :: l2 = L at hr
  cases hr with
  | nil => simp at hL
  | pan hp => simp at hL
  | cons hz hl he hf hr =>
   simp only [List.cons_append, List.cons.injEq] at hL
   obtain ⟨rfl, rfl⟩ := hL
   refine .cons hz (fun t ht => ?_) he hf ?_
   ·rw [ypf _ _ _ _ (fun q => hu0.1 (by rw [q]; exact ht))]; exact hl t ht
   ·have := Run.junk hd hy hyp l1 _ _ (fun z hz => hu z (by simp [hz])) hr
    have e : setT (putT s u.o.dst u.v) d .junk = putT (setT s d .junk) u.o.dst u.v := by
     have := yph s u.o.dst (some d) u.v .junk (fun x hx q => hu0.2 (by rw [hx]; exact q.symm))
     simpa [putT] using this
    rw [← e]; exact this
theorem ypk {o : Oper} (h : freeA o = true) : ∃ t d, o.op = .alloc t ∧ o.guard = none ∧ o.dst = some d ∧ preds o = [] := by
 unfold freeA at h
 simp only [Bool.and_eq_true] at h
 obtain ⟨⟨⟨h1, h2⟩, h3⟩, h4⟩ := h
 cases ho : o.op with
 | alloc t =>
  cases hd : o.dst with
  | none => rw [hd] at h3; cases h3
  | some d => exact ⟨t, d, rfl, by simpa using h2, rfl, by simpa using h4⟩
 | _ => rw [ho] at h1; cases h1
theorem yvd {o : Oper} {t : TypeId} (h1 : o.op = .alloc t) (h2 : o.guard = none) (x : Tmp) : x ∉ o.looksAt ops := by
 unfold Oper.looksAt
 rw [h1, h2]
 simp [Op.operands]
structure DS (P : Program) (E : Env) (md : FuncId → Mode) (call : CallF) (ops : Array Oper) (A : List (List Nat)) (c0 : Cx) (e : Ex) (s' : List V) (h' : Heap) (L : List Ann) (pd : List (Nat × Nat)) (listed : Array Bool) (c : Cx) (s : List V) (a : Act) : Prop where
 sz : listed.size = ops.size
 hL : ∀ x ∈ L, ops[x.i]? = some x.o ∧ (listed.getD x.i true = false ∨ ∃ r, (x.i, r) ∈ pd)
 cov : ∀ i, i < ops.size → listed.getD i true = false → ∃ x ∈ L, x.i = i
 pl : ∀ p ∈ pd, listed.getD p.1 false = true
 pp : ∀ p ∈ pd, Pend E ops c0 c a p
 pi : pd.Pairwise (fun p q => p.2 ≠ q.2)
 fa : ∀ x ∈ L, (∃ r, (x.i, r) ∈ pd) → freeA x.o = true
 pin : ∀ p ∈ pd, ∃ x ∈ L, x.i = p.1
 sort : L.Pairwise (fun x y => x.i < y.i)
 pw : L.Pairwise (fun x y => x.i ∈ A.getD y.i [] ∨ Comm E md call ops x y ∨ Late E md ops A x y)
 down : ∀ i, listed.getD i false = true → ∀ p ∈ A.getD i [], listed.getD p false = true
 hX : Ext c0 c
 hR : Rel E c
 hF : FrOk trivD c s a
 run : Run E md call ops e L s c.h s' h'
theorem DS.flush (hE : EnvOk P E) (hC : ycc P E call) {A : List (List Nat)} {c0 : Cx} {e : Ex} {s' : List V} {h' : Heap} {l1 l2 : List Ann} {y : Ann} {pd : List (Nat × Nat)} {listed : Array Bool} {c : Cx} {s : List V} {a : Act} {r0 : Nat}
  (h : DS P E md call ops A c0 e s' h' (l1 ++ y :: l2) pd listed c s a) (hp : (y.i, r0) ∈ pd) (hcm : ∀ u ∈ l1, Comm E md call ops u y) :
  ∃ c2 s2, DS P E md call ops A c0 e s' h' (l1 ++ l2) (pd.filter (fun p => p.1 != y.i)) listed c2 s2 a ∧ c2.w = c.w := by
 obtain ⟨o, t, d, td, q1, q2, q3, q4, q5, q6, q7⟩ := (h.pp _ hp).op
 have hp0 := hp
 have hyo := (h.hL y (by simp)).1
 have eo : o = y.o := by rw [hyo] at q1; exact (Option.some.inj q1).symm
 subst eo
 have hrun := Run.front hC l1 s c.h h.run hcm
 have hsub : (l1 ++ l2).Sublist (l1 ++ y :: l2) := List.Sublist.append (List.Sublist.refl _) (List.sublist_cons_self ..)
 have hne : ∀ z ∈ l1 ++ l2, y.i ≠ z.i := fun z hz => by
  obtain ⟨s1, s2, s3⟩ := List.pairwise_append.1 h.sort
  rcases List.mem_append.1 hz with hz | hz
  ·have := s3 z hz y (List.mem_cons_self ..); omega
  ·have := (List.pairwise_cons.1 s2).1 z hz; omega
 generalize hL1 : y :: (l1 ++ l2) = L1 at hrun
 cases hrun with
 | nil => cases hL1
 | pan hz hl hw hev =>
  simp only [List.cons.injEq] at hL1
  obtain ⟨rfl, _⟩ := hL1
  rw [q2] at hev
  simp only [evOp] at hev
  obtain ⟨p, _, hp2⟩ := Option.map_eq_some_iff.1 hev
  cases hp2
 | cons hz hl hev hf hrest =>
  simp only [List.cons.injEq] at hL1
  obtain ⟨rfl, rfl⟩ := hL1
  rcases hev with ⟨_, k2⟩ | ⟨k1, _⟩
  rotate_left
  ·unfold ycd at k1; rw [q3] at k1; cases k1
  rw [q2] at k2
  simp only [evOp] at k2
  obtain ⟨p, hp1, hp2⟩ := Option.map_eq_some_iff.1 k2
  have hp1' := hp1
  unfold yit at hp1'
  rw [q5] at hp1'
  simp only [Option.bind_some] at hp1'
  split at hp1'
  ·rename_i hzl
   cases hp1'
   have hv := (OpR.val.inj hp2).1
   have hh := (OpR.val.inj hp2).2
   have P0 := h.pp _ hp
   obtain ⟨c2, x1, x2, x3, x4, x5, x6, x7, x8⟩ := flush_ok hE h.hX h.hR P0.lo P0.hi P0.my P0.ro q5 hzl q6
   refine ⟨c2, putT s y.o.dst y.v, ⟨h.sz, fun z hz => ?_, fun i hi hun => ?_, fun p hp => h.pl p (List.mem_filter.1 hp).1, fun p hp => ?_, h.pi.filter _, fun z hz hzp => h.fa z (hsub.subset hz) (by obtain ⟨r, hr⟩ := hzp; exact ⟨r, (List.mem_filter.1 hr).1⟩), fun p hp => ?_, h.sort.sublist hsub, h.pw.sublist hsub, h.down, x1, x2, ?_, ?_⟩, x5⟩
   ·obtain ⟨u1, u2⟩ := h.hL z (hsub.subset hz)
    refine ⟨u1, u2.imp id fun ⟨r, hr⟩ => ⟨r, List.mem_filter.2 ⟨hr, by simpa using fun q => hne z hz q.symm⟩⟩⟩
   ·obtain ⟨z, hz, hzi⟩ := h.cov i hi hun
    refine ⟨z, ?_, hzi⟩
    rcases List.mem_append.1 hz with hz | hz
    ·exact List.mem_append_left _ hz
    ·rcases List.mem_cons.1 hz with rfl | hz
     ·exfalso
      have hlq := h.pl _ hp0
      rw [← hzi] at hun
      have hlt : z.i < listed.size := by rw [h.sz, hzi]; exact hi
      simp [hlt] at hlq hun
      rw [hlq] at hun; cases hun
     ·exact List.mem_append_right _ hz
   ·obtain ⟨hp1, hp2⟩ := List.mem_filter.1 hp
    have hP := h.pp p hp1
    have hpr : p.2 ≠ r0 := by
     have hpne : p ≠ (y.i, r0) := fun q => by rw [q] at hp2; simp at hp2
     have key : ∀ {l : List (Nat × Nat)}, l.Pairwise (fun p q => p.2 ≠ q.2) → p ∈ l → (y.i, r0) ∈ l → p.2 ≠ r0 := by
      intro l hl hm1 hm2
      induction l with
      | nil => cases hm1
      | cons z l ih =>
       obtain ⟨z1, z2⟩ := List.pairwise_cons.1 hl
       rcases List.mem_cons.1 hm1 with q1 | hm3
       ·rcases List.mem_cons.1 hm2 with q2 | hm4
        ·exact absurd (q1.trans q2.symm) hpne
        ·rw [q1]; exact z1 _ hm4
       ·rcases List.mem_cons.1 hm2 with q2 | hm4
        ·rw [← q2] at z1; exact fun q => z1 _ hm3 q.symm
        ·exact ih z2 hm3 hm4
     exact key h.pi hp1 hp0
    exact ⟨hP.lo, by rw [x5]; exact hP.hi, fun k => (x6 _ k).elim hP.my hpr, by rw [x7]; exact hP.ro, by rw [x5]; exact hP.op⟩
   ·obtain ⟨hp1, hp2⟩ := List.mem_filter.1 hp
    obtain ⟨z, hz, hzi⟩ := h.pin p hp1
    refine ⟨z, ?_, hzi⟩
    rcases List.mem_append.1 hz with hz | hz
    ·exact List.mem_append_left _ hz
    ·rcases List.mem_cons.1 hz with rfl | hz
     ·exact absurd hzi.symm (by simpa using hp2)
     ·exact List.mem_append_right _ hz
   ·have hfr := (h.hF.wk x3).put (D := trivD) y.o.dst (v := y.v) (x := .pointer (some ⟨r0, 0, none⟩)) (by rw [← hv]; exact x8)
    have ea : a.put y.o.dst (.pointer (some ⟨r0, 0, none⟩)) = a := by rw [q4]; exact q7
    rw [ea] at hfr; exact hfr
   ·have hh' : push c.h (.cells t td.zero) = _ := hh
    rw [x4, hh']; exact hrest
  ·cases hp1'
theorem DS.flushes (hE : EnvOk P E) (hC : ycc P E call) {A : List (List Nat)} {c0 : Cx} {e : Ex} {s' : List V} {h' : Heap} (W : Nat → Prop) (hW : ∀ x y : Ann, x.i < ops.size → W y.i → Late E md ops A x y → W x.i) (hA : ∀ (x : Ann) (i : Nat), ops[x.i]? = some x.o → freeA x.o = true → i ∉ A.getD x.i []) :
  ∀ (n : Nat) (L : List Ann) (pd : List (Nat × Nat)) (listed : Array Bool) (c : Cx) (s : List V) (a : Act), L.length ≤ n → (∀ i, i < ops.size → W i → listed.getD i false = true) →
  DS P E md call ops A c0 e s' h' L pd listed c s a → ∃ L2 pd2 c2 s2, DS P E md call ops A c0 e s' h' L2 pd2 listed c2 s2 a ∧ c2.w = c.w ∧ ∀ x ∈ L2, W x.i → False := by
 intro n
 induction n with
 | zero =>
  intro L pd listed c s a hn hWl h
  have : L = [] := by cases L with | nil => rfl | cons => simp at hn
  subst this
  exact ⟨[], pd, c, s, h, rfl, fun _ h => by cases h⟩
 | succ n ih =>
  intro L pd listed c s a hn hWl h
  by_cases hex : ∃ x ∈ L, W x.i
  ·-- the first of them
   have key : ∀ (l : List Ann), (∃ x ∈ l, W x.i) → ∃ l1 y l2, l = l1 ++ y :: l2 ∧ W y.i ∧ ∀ u ∈ l1, ¬ W u.i := by
    intro l
    induction l with
    | nil => rintro ⟨x, hx, _⟩; cases hx
    | cons z l ihl =>
     intro hx
     by_cases hz : W z.i
     ·exact ⟨[], z, l, rfl, hz, fun _ h => by cases h⟩
     ·obtain ⟨l1, y, l2, k1, k2, k3⟩ := ihl (by
       obtain ⟨x, hx, hw⟩ := hx
       rcases List.mem_cons.1 hx with rfl | hx
       ·exact absurd hw hz
       ·exact ⟨x, hx, hw⟩)
      refine ⟨z :: l1, y, l2, by rw [k1]; rfl, k2, fun u hu => ?_⟩
      rcases List.mem_cons.1 hu with rfl | hu
      ·exact hz
      ·exact k3 u hu
   obtain ⟨l1, y, l2, rfl, hy, hl1⟩ := key L hex
   obtain ⟨hyo, hyl⟩ := h.hL y (by simp)
   have hpend : ∃ r, (y.i, r) ∈ pd := by
    rcases hyl with q | q
    ·exfalso
     have := hWl _ (Array.getElem?_eq_some_iff.1 hyo).1 hy
     have hlt : y.i < listed.size := by rw [h.sz]; exact (Array.getElem?_eq_some_iff.1 hyo).1
     simp [hlt] at this q
     rw [this] at q; cases q
    ·exact q
   have hfy := h.fa y (by simp) hpend
   obtain ⟨r0, hr0⟩ := hpend
   have hcm : ∀ u ∈ l1, Comm E md call ops u y := fun u hu => by
    rcases (List.pairwise_append.1 h.pw).2.2 u hu y (List.mem_cons_self ..) with q | q | q
    ·exact absurd q (hA y _ hyo hfy)
    ·exact q
    ·exact absurd (hW u y (Array.getElem?_eq_some_iff.1 (h.hL u (by simp [hu])).1).1 hy q) (hl1 u hu)
   obtain ⟨c2, s2, h2, hw2⟩ := h.flush hE hC hr0 hcm
   obtain ⟨L3, pd3, c3, s3, g3, g4, g5⟩ := ih (l1 ++ l2) _ listed c2 s2 a (by simp at hn ⊢; omega) hWl h2
   exact ⟨L3, pd3, c3, s3, g3, g4.trans hw2, g5⟩
  ·exact ⟨L, pd, c, s, h, rfl, fun x hx hw => hex ⟨x, hx, hw⟩⟩
theorem cnt_lt {p q : Nat → Bool} (h : ∀ x, q x = true → p x = true) {e : Nat} (hp : p e = true) (hq : q e = false) : ∀ {l : List Nat}, e ∈ l → (l.filter q).length < (l.filter p).length
 | x :: l, he => by
  have hle : ∀ l : List Nat, (l.filter q).length ≤ (l.filter p).length := fun l => by
   induction l with
   | nil => simp
   | cons y l ih =>
    by_cases hy : q y = true
    ·simp [hy, h y hy, ih]
    ·by_cases hy' : p y = true <;> simp [hy, hy'] <;> omega
  rcases List.mem_cons.1 he with rfl | he
  ·have := hle l
   simp [hp, hq]; omega
  ·have ih := cnt_lt h hp hq he
   by_cases hy : q x = true
   ·simp [hy, h x hy, ih]
   ·by_cases hy' : p x = true <;> simp [hy, hy'] <;> omega
theorem Run.ev_of {e : Ex} {x : Ann} {l2 : List Ann} {s' : List V} {h' : Heap} : ∀ (l1 : List Ann) (s : List V) (h : Heap), Run E md call ops e (l1 ++ x :: l2) s h s' h' → ∃ g g1, (x.pz = false ∧ x.ev E md call ops g g1) ∨ ∃ v, evOp E md call x.o.op x.sl g = some (.pan v g1)
 | [], s, h, hr => by
  generalize hL : [] ++ x :: l2 = L at hr
  cases hr with
  | nil => simp at hL
  | pan hp hl hw he =>
   simp only [List.nil_append, List.cons.injEq] at hL; obtain ⟨rfl, _⟩ := hL
   exact ⟨_, _, .inr ⟨_, he⟩⟩
  | cons hz hl he hf hr =>
   simp only [List.nil_append, List.cons.injEq] at hL; obtain ⟨rfl, _⟩ := hL
   exact ⟨_, _, .inl ⟨hz, he⟩⟩
 | u :: l1, s, h, hr => by
  generalize hL : u :: l1 ++ x :: l2 = L at hr
  cases hr with
  | nil => simp at hL
  | pan hp => simp at hL
  | cons hz hl he hf hr =>
   simp only [List.cons_append, List.cons.injEq] at hL; obtain ⟨rfl, rfl⟩ := hL
   exact Run.ev_of l1 _ _ hr
def todoN (ops : Array Oper) (listed : Array Bool) : Nat := ((List.range ops.size).filter (fun i => !listed.getD i true)).length
theorem yve (hE : EnvOk P E) (hC : ycc P E call) {A : List (List Nat)} (hS : Static E md ops A) {Q : Exit → Act → World → Prop} {e : Ex} {s' : List V} {h' : Heap} {c0 : Cx} {ds : List Deferred} (hD : D.p c0 ds) (hP : PostOk D E c0 Q e s' h') : ∀ (fuel : Nat) (L : List Ann) (pd : List (Nat × Nat)) (listed : Array Bool) (c : Cx) (s : List V) (a : Act),
  todoN ops listed ≤ fuel → a.defers = ds → DS P E md call ops A c0 e s' h' L pd listed c s a → wpAnyIn (Fo ro) fk P .any ops Q fuel listed a c.w := by
 have hA : ∀ (x : Ann) (i : Nat), ops[x.i]? = some x.o → freeA x.o = true → i ∉ A.getD x.i [] := fun x i hx hf hi => by
  obtain ⟨t, d, _, _, _, h4⟩ := ypk hf
  rcases hS.cl x.i x.o hx i hi with q | ⟨p, q, _⟩ <;> rw [h4] at q <;> cases q
 have hFr : ∀ {c s a}, a.defers = ds → Ext c0 c → FrOk trivD c s a → FrOk D c s a := fun hd hx hF => ⟨hF.s, by rw [hd]; exact D.mono hx hD⟩
 -- where nothing is left to the machine
 have hend : ∀ {L pd listed c s a}, a.defers = ds → DS P E md call ops A c0 e s' h' L pd listed c s a → (∀ i, i < ops.size → listed.getD i false = true) → Q .normal a c.w := by
  intro L pd listed c s a hd h hall
  obtain ⟨L2, pd2, c2, s2, g3, g4, g5⟩ := DS.flushes hE hC (fun _ => True) (fun _ _ _ _ _ => trivial) hA L.length L pd listed c s a (Nat.le_refl _) (fun i hi _ => hall i hi) h
  have : L2 = [] := by
   cases L2 with
   | nil => rfl
   | cons x L2 => exact (g5 x (List.mem_cons_self ..) trivial).elim
  subst this
  have hr := g3.run
  rw [← g4]
  generalize hc : c2.h = ch at hr
  cases hr
  exact hP c2 a g3.hX g3.hR hc (hFr hd g3.hX g3.hF)
 intro fuel
 induction fuel with
 | zero =>
  intro L pd listed c s a hn hd h
  have hall : ∀ i, i < ops.size → listed.getD i true = true := fun i hi => by
   have : (List.range ops.size).filter (fun i => !listed.getD i true) = [] := List.length_eq_zero_iff.1 (by unfold todoN at hn; omega)
   have := List.filter_eq_nil_iff.1 this i (List.mem_range.2 hi)
   simpa using this
  refine ⟨?_, hend hd h fun i hi => ?_⟩
  ·rw [List.eq_nil_iff_forall_not_mem]
   intro i hi
   obtain ⟨h1, o, ho, _⟩ := mem_ready.1 hi
   rw [hall i (Array.getElem?_eq_some_iff.1 ho).1] at h1; cases h1
  ·have := hall i hi
   have hlt : i < listed.size := by rw [h.sz]; exact hi
   simp [hlt] at this ⊢; exact this
 | succ fuel ih =>
  intro L pd listed c s a hn hd h
  have both : ∀ i, i < ops.size → listed.getD i true = false → listed.getD i false = true → False := fun i hi h1 h2 => by
   have hi' : i < listed.size := by rw [h.sz]; exact hi
   simp [hi'] at h1 h2
   rw [h1] at h2; cases h2
  have either : ∀ i, i < ops.size → listed.getD i true = false ∨ listed.getD i false = true := fun i hi => by
   have hi' : i < listed.size := by rw [h.sz]; exact hi
   simp [hi']
  refine ⟨fun hnil => ?_, fun i hi => ?_⟩
  ·refine hend hd h fun i hi => ?_
   rcases either i hi with q | q
   ·exfalso
    -- the first that is left
    have key : ∀ n i, i < n → i < ops.size → listed.getD i true = false → False := by
     intro n
     induction n with
     | zero => intro i hi; omega
     | succ n ihn =>
      intro i hin hi q
      have ho : ops[i]? = some ops[i] := by simp [hi]
      have : i ∈ Region.ready .any ops listed := by
       refine mem_ready.2 ⟨q, _, ho, fun e he hb => ?_⟩
       have hp : e.on ∈ preds ops[i] := mem_preds.2 ⟨e, he, hb, rfl⟩
       have hlt := hS.lt i _ ho _ hp
       rcases either e.on (by omega) with w | w
       ·exact (ihn e.on (by omega) (by omega) w).elim
       ·exact w
      rw [hnil] at this; cases this
    exact key (i + 1) i (by omega) hi q
   ·exact q
  ·obtain ⟨hun, o, ho, hall⟩ := mem_ready.1 hi
   have hio := (Array.getElem?_eq_some_iff.1 ho).1
   have hanc : ∀ p ∈ A.getD i [], listed.getD p false = true := fun p hp => by
    rcases hS.cl i o ho p hp with q | ⟨y, hy, q⟩
    ·obtain ⟨e, he, hb, rfl⟩ := mem_preds.1 q; exact hall e he hb
    ·obtain ⟨e, he, hb, rfl⟩ := mem_preds.1 hy; exact h.down _ (hall e he hb) p q
   obtain ⟨L2, pd2, c2, s2, h2, hw2, hno⟩ := DS.flushes hE hC (fun j => j ∈ A.getD i []) (fun x y hx hy hl => hl.2.2.2 i hio hy) hA L.length L pd listed c s a (Nat.le_refl _) (fun j _ hj => hanc j hj) h
   rw [← hw2]
   clear h hw2 c s L pd
   obtain ⟨x, hx, hxi⟩ := h2.cov i hio hun
   obtain ⟨l1, l2, rfl⟩ := List.append_of_mem hx
   obtain ⟨hxo, _⟩ := h2.hL x hx
   subst hxi
   rw [ho] at hxo
   have eo : o = x.o := by simpa using hxo
   subst eo
   have hlist : ∀ j, (listed.setIfInBounds x.i true).getD j true = false → j ≠ x.i ∧ listed.getD j true = false := fun j hj => by
    rw [ygr (by rw [h2.sz]; exact hio)] at hj
    split at hj
    ·cases hj
    ·rename_i q; exact ⟨fun w => q w.symm, hj⟩
   have hlist1 : ∀ j, j ≠ x.i → (listed.setIfInBounds x.i true).getD j true = listed.getD j true := fun j hj => by
    rw [ygr (by rw [h2.sz]; exact hio), if_neg (fun w => hj w.symm)]
   have hlist2 : ∀ j, listed.getD j false = true → (listed.setIfInBounds x.i true).getD j false = true := fun j hj => by
    rw [ygr (by rw [h2.sz]; exact hio)]; split
    ·rfl
    ·exact hj
   have htodo : todoN ops (listed.setIfInBounds x.i true) ≤ fuel := by
    have : todoN ops (listed.setIfInBounds x.i true) < todoN ops listed := cnt_lt (fun j hj => by
     have := (hlist j (by simpa using hj)).2
     simp [this]) (e := x.i) (by simp [hun]) (by rw [ygr (by rw [h2.sz]; exact hio), if_pos rfl]; rfl) (List.mem_range.2 hio)
    omega
   have hdown : ∀ j, (listed.setIfInBounds x.i true).getD j false = true → ∀ p ∈ A.getD j [], (listed.setIfInBounds x.i true).getD p false = true := fun j hj p hp => by
    rw [ygr (by rw [h2.sz]; exact hio)] at hj
    split at hj
    ·rename_i q; subst q; exact hlist2 p (hanc p hp)
    ·exact hlist2 p (h2.down j hj p hp)
   -- what is made ahead has slots of its own
   have hapart : ∀ p ∈ pd2, ∀ o d, ops[p.1]? = some o → o.dst = some d → x.o.dst ≠ some d := fun p hp o d hpo hpd => by
    obtain ⟨y, hy, hyi⟩ := h2.pin p hp
    have hne : p.1 ≠ x.i := fun q => both x.i hio hun (by rw [← q]; exact h2.pl p hp)
    have hyo : y.o = o := by have := (h2.hL y hy).1; rw [hyi, hpo] at this; exact (Option.some.inj this).symm
    have hfy := h2.fa y hy ⟨p.2, by rw [hyi]; exact hp⟩
    rcases Nat.lt_or_gt_of_ne hne with q | q
    ·rcases hS.pair p.1 x.i o x.o q hpo ho with w | ⟨w, _⟩ | ⟨_, _, w, _⟩
     ·exact (hno y hy (by rw [hyi]; exact w)).elim
     ·exact (Oper.apart_spec w).2.1 d hpd
     ·exact (Oper.apart_spec w).2.1 d hpd
    ·rcases hS.pair x.i p.1 x.o o q ho hpo with w | ⟨w, _⟩ | ⟨_, _, w, _⟩
     ·exact absurd w (by have := hA y x.i (h2.hL y hy).1 hfy; rw [hyi] at this; exact this)
     ·exact fun k => (Oper.apart_spec w).2.1 d k hpd
     ·exact fun k => (Oper.apart_spec w).2.1 d k hpd
   by_cases hcomm : ∀ y ∈ l1, Comm E md call ops y x
   ·have hrun' := Run.front hC l1 s2 c2.h h2.run hcomm
    have hsub : (l1 ++ l2).Sublist (l1 ++ x :: l2) := List.Sublist.append (List.Sublist.refl _) (List.sublist_cons_self ..)
    have hne : ∀ y ∈ l1 ++ l2, y.i ≠ x.i := fun y hy => by
     obtain ⟨s1, s2, s3⟩ := List.pairwise_append.1 h2.sort
     rcases List.mem_append.1 hy with hy | hy
     ·have := s3 y hy x (List.mem_cons_self ..); omega
     ·have := (List.pairwise_cons.1 s2).1 y hy; omega
    have hback : ∀ y ∈ l1 ++ x :: l2, y.i ≠ x.i → y ∈ l1 ++ l2 := fun y hy hyn => by
     rcases List.mem_append.1 hy with hy | hy
     ·exact List.mem_append_left _ hy
     ·rcases List.mem_cons.1 hy with rfl | hy
      ·exact absurd rfl hyn
      ·exact List.mem_append_right _ hy
    have step : ∀ (c' : Cx) (a' : Act), Ext c2 c' → Rel E c' → FrOk trivD c' (putT s2 x.o.dst x.v) a' → (∃ u, a' = a.put x.o.dst u) → Run E md call ops e (l1 ++ l2) (putT s2 x.o.dst x.v) c'.h s' h' → wpAnyIn (Fo ro) fk P .any ops Q fuel (listed.setIfInBounds x.i true) a' c'.w := by
     intro c' a' hext hR' hF' ha' hrest
     obtain ⟨u, rfl⟩ := ha'
     refine ih (l1 ++ l2) pd2 _ c' _ _ htodo (by cases hxd : x.o.dst <;> exact hd) ⟨by simp [h2.sz], fun y hy => ?_, fun j hj hl => ?_, fun p hp => hlist2 _ (h2.pl p hp), fun p hp => (h2.pp p hp).step hext (hapart p hp), h2.pi, fun y hy => h2.fa y (hsub.subset hy), fun p hp => ?_, h2.sort.sublist hsub, h2.pw.sublist hsub, hdown, h2.hX.trans hext, hR', hF', hrest⟩
     ·obtain ⟨u1, u2⟩ := h2.hL y (hsub.subset hy)
      exact ⟨u1, by rw [hlist1 _ (hne y hy)]; exact u2⟩
     ·obtain ⟨q1, q2⟩ := hlist j hl
      obtain ⟨y, hy, hyj⟩ := h2.cov j hj q2
      exact ⟨y, hback y hy (by omega), hyj⟩
     ·obtain ⟨y, hy, hyp⟩ := h2.pin p hp
      exact ⟨y, hback y hy (fun q => both x.i hio hun (by rw [← q, hyp]; exact h2.pl p hp)), hyp⟩
    generalize hL1 : x :: (l1 ++ l2) = L1 at hrun'
    cases hrun' with
    | nil => cases hL1
    | pan hz hl hw hev =>
     simp only [List.cons.injEq] at hL1
     obtain ⟨rfl, hL2⟩ := hL1
     unfold wpOpIn
     rw [ho]
     simp only
     rw [yju h2.hF ((ypi (ops := ops) hl).trans hw), if_pos rfl]
     rw [← ypj (ops := ops) hl] at hev
     refine op_in hE h2.hR hC h2.hF hev ?_
     intro c' y hext hR' hh hv
     exact hP c' a (h2.hX.trans hext) hR' hh (hFr hd (h2.hX.trans hext) (h2.hF.mono hext)) y hv
    | cons hz hl hev heff hrest =>
     rename_i h1
     simp only [List.cons.injEq] at hL1
     obtain ⟨rfl, rfl⟩ := hL1
     unfold wpOpIn
     rw [ho]
     simp only
     have hw := ypi (ops := ops) hl
     rcases hev with ⟨q1, q2⟩ | ⟨q1, q2, q3⟩
     ·rw [yju h2.hF (hw.trans q1), if_pos rfl]
      rw [← ypj (ops := ops) hl] at q2
      refine op_in hE h2.hR hC h2.hF q2 ?_
      intro c' y hext hR' hh hv
      exact step c' _ hext hR' ((h2.hF.mono hext).put _ hv) ⟨y, rfl⟩ (by rw [hh]; exact hrest)
     ·rw [yju h2.hF (hw.trans q1), if_neg (by simp)]
      refine ⟨fun f _ => Fo.fn ro f, ?_⟩
      subst q3
      rw [q2] at hrest step
      exact step c2 _ (Ext.refl c2) h2.hR (h2.hF.put _ (RV.undM c2)) ⟨undef, rfl⟩ hrest
   ·-- a new variable ahead of its turn
    have hlate : ∃ u ∈ l1, Late E md ops A u x := by
     apply Classical.byContradiction
     intro hn
     refine hcomm fun y hy => ?_
     rcases (List.pairwise_append.1 h2.pw).2.2 y hy x (List.mem_cons_self ..) with q | q | q
     ·exact (hno y (by simp [hy]) q).elim
     ·exact q
     ·exact absurd ⟨y, hy, q⟩ hn
    obtain ⟨u0, _, hu0⟩ := hlate
    have hfx := hu0.2.1
    obtain ⟨t, d, f1, f2, f3, f4⟩ := ypk hfx
    obtain ⟨g, g1, hev⟩ := Run.ev_of l1 _ _ h2.run
    have hnp : ∀ v, evOp E md call x.o.op x.sl g ≠ some (.pan v g1) := fun v hv => by
     rw [f1] at hv
     simp only [evOp] at hv
     obtain ⟨p, _, hp2⟩ := Option.map_eq_some_iff.1 hv
     cases hp2
    obtain ⟨hxp, hev⟩ : x.pz = false ∧ x.ev E md call ops g g1 := by
     rcases hev with q | ⟨v, q⟩
     ·exact q
     ·exact absurd q (hnp v)
    obtain ⟨td, hty⟩ : ∃ td, E.ty t = some td := by
     rcases hev with ⟨_, k2⟩ | ⟨k1, _⟩
     ·rw [f1] at k2
      simp only [evOp] at k2
      obtain ⟨p, hp1, _⟩ := Option.map_eq_some_iff.1 k2
      obtain ⟨td, hty, _⟩ := Option.bind_eq_some_iff.1 hp1
      exact ⟨td, hty⟩
     ·unfold ycd at k1; rw [f2] at k1; cases k1
    have hT := hE.ty t td hty
    have hrl : ∀ y ∈ l1, d ∉ y.o.looksAt ops ∧ y.o.dst ≠ some d := fun y hy => by
     rcases (List.pairwise_append.1 h2.pw).2.2 y hy x (List.mem_cons_self ..) with q | q | q
     ·exact (hno y (by simp [hy]) q).elim
     ·obtain ⟨_, q2, _⟩ := q
      have := Oper.apart_spec q2
      exact ⟨this.2.2 d f3, fun k => this.2.1 d k f3⟩
     ·have := Oper.apart_spec q.2.2.1
      exact ⟨this.2.2 d f3, fun k => this.2.1 d k f3⟩
    have hrun2 := Run.junk (l2 := l2) f3 (yvd f1 f2) hxp l1 s2 c2.h hrl h2.run
    have hgrow := h2.hR.grow { c2.w with heap := c2.w.heap.push (.cells td.zeroV.cells t (0, 0)) } (fun r hr => by simp only; rw [Array.getElem?_push, if_neg (by omega)]) (by simp)
    have hE' : Ext c2 { c2 with w := { c2.w with heap := c2.w.heap.push (.cells td.zeroV.cells t (0, 0)) }, my := fun r => c2.my r ∧ r ≠ c2.w.heap.size } := ⟨hgrow.1.ro, hgrow.1.same, hgrow.1.len, hgrow.1.blk, hgrow.1.mp, hgrow.1.it, hgrow.1.size, hgrow.1.grow, fun r h => .inl h.1, hgrow.1.frame, hgrow.1.ro2, hgrow.1.rest⟩
    have hlt : ∀ {b}, live c2.h b → (c2.w.heap.push (.cells td.zeroV.cells t (0, 0)))[(c2.ρ b).1]? = c2.w.heap[(c2.ρ b).1]? := fun {b} hl => by have := h2.hR.lt hl; rw [Array.getElem?_push, if_neg (by omega)]
    have hR' : Rel E { c2 with w := { c2.w with heap := c2.w.heap.push (.cells td.zeroV.cells t (0, 0)) }, my := fun r => c2.my r ∧ r ≠ c2.w.heap.size } :=
     ⟨fun b T cs h => (h2.hR.cells b T cs h).mono hE' (hlt ⟨_, h, by simp⟩) rfl, fun b es h => (h2.hR.maps b es h).mono hE' (hlt ⟨_, h, by simp⟩) rfl, fun b L h => (h2.hR.iters b L h).mono hE' (hlt ⟨_, h, by simp⟩) rfl, hgrow.2.own, hgrow.2.inj, hgrow.2.rolt, hgrow.2.gl, fun b hb => ⟨h2.hR.mine b hb, fun e => by have := h2.hR.lt hb; simp only at e; omega⟩, hgrow.2.ali⟩
    unfold wpOpIn
    rw [ho]
    simp only
    have hwant : Region.wanted x.o (yielded ops a.tmps) = true := by unfold Region.wanted; rw [f2]
    rw [hwant, if_pos rfl]
    refine ⟨fun f _ => Fo.fn ro f, ?_⟩
    rw [Oper.semAt_eq _ _ _ (fun cl hcl => by rw [f1] at hcl; cases hcl)]
    have hrunA : (execOp a.eval x.o).run P c2.w = .ok (.value (.pointer (some ⟨c2.w.heap.size, 0, none⟩))) { c2.w with heap := c2.w.heap.push (.cells td.zeroV.cells t (0, 0)) } := by
     have he : execOp a.eval x.o = (do pure (.value (← Instr.alloc t true (.tuple #[])))) := by
      unfold execOp; rw [f1]
     rw [he]
     simp [Instr.alloc, hT.run_zero, newVar, newRow]
    rw [hrunA, Oper.uponIn_value, f3]
    refine ih (l1 ++ x :: l2) ((x.i, c2.w.heap.size) :: pd2) _ { c2 with w := { c2.w with heap := c2.w.heap.push (.cells td.zeroV.cells t (0, 0)) }, my := fun r => c2.my r ∧ r ≠ c2.w.heap.size } _ _ htodo hd ⟨by simp [h2.sz], fun y hy => ?_, fun j hj hl => ?_, fun p hp => ?_, fun p hp => ?_, ?_, fun y hy hyp => ?_, fun p hp => ?_, h2.sort, h2.pw, hdown, h2.hX.trans hE', hR', (h2.hF.mono hE').put (some d) (RV.junk _), hrun2⟩
    ·obtain ⟨u1, u2⟩ := h2.hL y hy
     refine ⟨u1, ?_⟩
     by_cases hyx : y.i = x.i
     ·exact .inr ⟨_, by rw [hyx]; exact List.mem_cons_self ..⟩
     ·rw [hlist1 _ hyx]; exact u2.imp id fun ⟨r, hr⟩ => ⟨r, List.mem_cons_of_mem _ hr⟩
    ·exact h2.cov j hj (hlist j hl).2
    ·rcases List.mem_cons.1 hp with rfl | hp
     ·rw [ygr (by rw [h2.sz]; exact hio), if_pos rfl]
     ·exact hlist2 _ (h2.pl p hp)
    ·rcases List.mem_cons.1 hp with rfl | hp
     ·refine ⟨h2.hX.grow, by simp, by simp, fun k => by have := h2.hR.rolt _ k; omega, x.o, t, d, td, ho, f1, f2, f3, hty, by simp, yvc a d _ _⟩
     ·exact (h2.pp p hp).step hE' (fun o d' h1 h3 => by have := hapart p hp o d' h1 h3; rw [f3] at this; exact this)
    ·refine List.pairwise_cons.2 ⟨fun p hp q => ?_, h2.pi⟩
     have := (h2.pp p hp).hi
     simp only at q; omega
    ·obtain ⟨r, hr⟩ := hyp
     rcases List.mem_cons.1 hr with q | hr
     ·have hyi : y.i = x.i := (Prod.mk.inj q).1
      have : y.o = x.o := by have := (h2.hL y hy).1; rw [hyi, ho] at this; exact (Option.some.inj this).symm
      rw [this]; exact hfx
     ·exact h2.fa y hy ⟨r, hr⟩
    ·rcases List.mem_cons.1 hp with rfl | hp
     ·exact ⟨x, by simp, rfl⟩
     ·exact h2.pin p hp
theorem ypl (hE : EnvOk P E) (hC : ycc P E call) (hS : Static E md ops (ancT ops.toList [])) {id : Nat} {Q : Exit → Act → World → Prop} {c : Cx} {s : List V} {a : Act} {e : Ex} {s' : List V} {h' : Heap} (hR : Rel E c) (hF : FrOk D c s a)
  (hev : ycm E md call (ancT ops.toList []) ops.toList 0 ops.toList [] [] s c.h = some (e, s', h')) (hP : PostOk D E c Q e s' h') : (Code.region id ops true).wpIn (Fo ro) fk P Q a c.w := by
 obtain ⟨L, l1, l2, l3, l4, l5, l6, l7, l8⟩ := yjv hC hS ops.size 0 [] [] s c.h e s' h' (by omega) (by simp) (by simp) (by simpa using hev)
 refine wpIn_region_any hE.mixed ?_
 obtain ⟨k1, k2⟩ := hR.grow { c.w with drawn := c.w.drawn + 1 } (fun r _ => rfl) (Nat.le_refl _)
 have hrep : ∀ i, i < ops.size → (Array.replicate ops.size false).getD i true = false := fun i hi => by simp [hi]
 refine yve hE hC hS (c0 := { c with w := { c.w with drawn := c.w.drawn + 1 } }) (D := D) (D.mono k1 hF.d) (hP.ext k1) ops.size L [] (Array.replicate ops.size false) { c with w := { c.w with drawn := c.w.drawn + 1 } } s a (Nat.le_trans (List.length_filter_le _ _) (by simp)) rfl
  { sz := by simp, hL := fun x hx => ?_, cov := fun i hi _ => l3 i (Nat.zero_le _) hi, pl := fun p hp => (by cases hp), pp := fun p hp => (by cases hp), pi := .nil, fa := fun x _ hr => by (obtain ⟨r, hr⟩ := hr; cases hr), pin := fun p hp => (by cases hp), sort := l4, pw := l5, down := fun i hi => ?_, hX := Ext.refl _, hR := k2, hF := (hF.mono k1).triv, run := l6 }
 ·obtain ⟨q1, _⟩ := l2 x hx
  exact ⟨q1, .inl (hrep _ (Array.getElem?_eq_some_iff.1 q1).1)⟩
 ·by_cases h : i < ops.size
  ·simp [h] at hi
  ·simp [h] at hi
theorem yjw {A : List (List Nat)} (hS0 : ∀ (i j : Nat) (x y : Oper), i < j → ops[i]? = some x → ops[j]? = some y → i ∈ A.getD j [] ∨ (yai E md x.op = 2 → yai E md y.op = 0)) : ∀ (n k : Nat) (acc : List (Nat × Op × List V × V)) (ws : List (Nat × Heap)) (s : List V) (h : Heap) (r : Ex × List V × Heap), k + n = ops.size → (∀ q ∈ ws, q.1 < k ∧ ∃ x, ops[q.1]? = some x ∧ yai E md x.op = 2) →
  ych E md call A ops.toList k (ops.toList.drop k) acc s h = some r → ycm E md call A ops.toList k (ops.toList.drop k) acc ws s h = some r
 | 0, k, acc, ws, s, h, r, hk, hws, hev => by
  rw [List.drop_eq_nil_of_le (by simp; omega)] at hev ⊢
  simpa only [ych, ycm] using hev
 | n + 1, k, acc, ws, s, h, r, hk, hws, hev => by
  have hlt : k < ops.toList.length := by simp; omega
  have ho : ops[k]? = some ops.toList[k] := by simp [show k < ops.size by omega]
  rw [List.drop_eq_getElem_cons hlt] at hev ⊢
  generalize ops.toList[k] = o at ho hev ⊢
  simp only [ych] at hev
  simp only [ycm]
  replace hev := Option.bind_eq_some_iff.1 hev; obtain ⟨b, hb, hev⟩ := hev
  replace hev := Option.bind_eq_some_iff.1 hev; obtain ⟨x, hx, hev⟩ := hev
  rw [hb, Option.bind_some, hx, Option.bind_some]
  have up : ∀ q ∈ ws, q.1 < k + 1 ∧ ∃ x, ops[q.1]? = some x ∧ yai E md x.op = 2 := fun q hq => ⟨by have := (hws q hq).1; omega, (hws q hq).2⟩
  cases x with
  | pan v g => exact hev
  | val v g =>
   simp only at hev ⊢
   by_cases h2 : yai E md o.op = 2
   ·rw [if_pos h2] at hev ⊢
    split at hev
    ·rename_i hc
     rw [if_pos hc]
     exact yjw hS0 n (k + 1) _ _ _ _ r (by omega) (fun q hq => by
      rcases List.mem_cons.1 hq with rfl | hq
      ·exact ⟨Nat.lt_succ_self k, o, ho, h2⟩
      ·exact up q hq) hev
    ·cases hev
   ·rw [if_neg h2] at hev ⊢
    by_cases h1 : yai E md o.op = 1 ∧ b = true
    ·rw [if_pos h1] at hev ⊢
     rw [if_pos (List.all_eq_true.2 fun q hq => by
      obtain ⟨q1, y, q2, q3⟩ := hws q hq
      rcases hS0 q.1 k y o q1 q2 ho with u | u
      ·rw [Bool.or_eq_true]; exact .inl (List.contains_iff_mem.2 u)
      ·have := u q3; omega)]
     exact yjw hS0 n (k + 1) _ _ _ _ r (by omega) up hev
    ·rw [if_neg h1] at hev ⊢
     exact yjw hS0 n (k + 1) _ _ _ _ r (by omega) up hev
theorem yvf (hE : EnvOk P E) (hC : ycc P E call) (hok : yei E md ops = true) {id : Nat} {Q : Exit → Act → World → Prop} {c : Cx} {s : List V} {a : Act} {e : Ex} {s' : List V} {h' : Heap} (hR : Rel E c) (hF : FrOk D c s a)
  (hev : ych E md call (ancT ops.toList []) ops.toList 0 ops.toList [] s c.h = some (e, s', h')) (hP : PostOk D E c Q e s' h') : (Code.region id ops true).wpIn (Fo ro) fk P Q a c.w := by
 obtain ⟨hS, hS0⟩ := yva hok
 exact ypl hE hC hS hR hF (yjw hS0 ops.size 0 [] [] s c.h _ (by omega) (by simp) (by simpa using hev)) hP
end
end Go.Sb

/- Regions, code, functions: what the evaluator answers holds for every run of the machine. -/

namespace Go.Sb
section
variable {P : Program} {E : Env} {D : DPred} {ro : Option Nat} {fk : Nat}
theorem yme (hE : EnvOk P E) {md : FuncId → Mode} {call : CallF} (hC : ycc P E call) (ops : Array Oper) {Q : Exit → Act → World → Prop} : ∀ (n k : Nat) (c : Cx) (s : List V) (a : Act) (e : Ex) (s' : List V) (h' : Heap),
  k + n = ops.size → Rel E c → FrOk D c s a → evOps E md call ops.toList (ops.toList.drop k) s c.h = some (e, s', h') → PostOk D E c Q e s' h' → wpOpsIn (Fo ro) fk P ops Q (List.range' k n) a c.w
 | 0, k, c, s, a, e, s', h', hk, hR, hF, hev, hP => by
  rw [List.drop_eq_nil_of_le (by simp; omega)] at hev
  simp only [evOps] at hev
  cases hev
  exact hP c a (Ext.refl c) hR rfl hF
 | n + 1, k, c, s, a, e, s', h', hk, hR, hF, hev, hP => by
  have hlt : k < ops.toList.length := by simp; omega
  rw [List.drop_eq_getElem_cons hlt] at hev
  have ho : ops[k]? = some ops.toList[k] := by simp [show k < ops.size by omega]
  simp only [evOps] at hev
  replace hev := Option.bind_eq_some_iff.1 hev; obtain ⟨b, hb, hev⟩ := hev
  have hw := yju (ops := ops) hF hb
  rw [List.range'_succ]
  simp only [wpOpsIn, ho, hw]
  split at hev
  ·rename_i hbt
   subst hbt
   rw [if_pos rfl]
   replace hev := Option.bind_eq_some_iff.1 hev; obtain ⟨r, hr, hev⟩ := hev
   refine op_in hE hR hC hF hr ?_
   cases r with
   | val v h1 =>
    intro c' x hx hR' hh hv
    exact yme hE hC ops n (k + 1) c' _ _ e s' h' (by omega) hR' ((hF.mono hx).put _ hv) (by rw [hh]; exact hev) (hP.ext hx)
   | pan v h1 =>
    intro c' x hx hR' hh hv
    cases hev
    exact hP c' a hx hR' hh (hF.mono hx) x hv
  ·rename_i hbf
   have : b = false := by simpa using hbf
   subst this
   rw [if_neg (by simp)]
   refine ⟨fun f _ => Fo.fn ro f, ?_⟩
   exact yme hE hC ops n (k + 1) c _ _ e s' h' (by omega) hR (hF.put _ (RV.undM c)) hev hP
theorem yvg {F : Fence} {c : Code} {Q : Exit → Act → World → Prop} (R : Nat → Act → World → Prop) (hr : ∀ n a w, R (n + 1) a w → c.wpIn F fk P (Exit.then (R n) Q) a w) (h0 : ∀ a w, ¬ R 0 a w) : ∀ n a w, R n a w → (Code.loop c).wpIn F fk P Q a w := by
 intro n a w h b k cs hro hb hrm
 have key : ∀ n a w, R n a w → ∃ e a' w', Q e a' w' ∧ ArrivesIn (Machine.fenced P F) P (lone (b.atR a (.code c :: .inLoop c :: k)) cs w) b k cs e a' w' := by
  intro n
  induction n with
  | zero => intro a w h; exact absurd h (h0 a w)
  | succ n ih =>
   intro a w h
   obtain ⟨e, a₁, w₁, hq, harr⟩ := hr n a w h b (.inLoop c :: k) cs hro hb hrm
   cases e with
   | normal =>
    obtain ⟨e₂, a₂, w₂, hq₂, harr₂⟩ := ih a₁ w₁ hq
    exact ⟨e₂, a₂, w₂, hq₂, .of_steps (StepsIn.trans harr (.one (fenced_calm hb hrm rfl) stepR_inLoop)) harr₂⟩
   | exit id => exact ⟨_, a₁, w₁, hq, .pass (x := .inLoop c) rfl (fun _ _ => .inl (by simp)) harr⟩
   | goto l => exact ⟨_, a₁, w₁, hq, .pass (x := .inLoop c) rfl (fun _ _ => .inl (by simp)) harr⟩
   | ret => exact ⟨_, a₁, w₁, hq, .pass (x := .inLoop c) rfl (fun _ _ => .inl (by simp)) harr⟩
   | panic ch => exact ⟨_, a₁, w₁, hq, .pass (x := .inLoop c) rfl (fun _ _ => .inl (by simp)) harr⟩
   | outgrown => exact ⟨_, a₁, w₁, hq, .pass (x := .inLoop c) rfl (fun _ _ => .inl (by simp)) harr⟩
 obtain ⟨e, a', w', hq, harr⟩ := key n a w h
 exact ⟨e, a', w', hq, .of_steps (.one (fenced_calm hb hrm rfl) stepR_loop) harr⟩
theorem yjx {w : World} {r : Nat} {o0 o : Obj} (h : w.heap[r]? = some o0) (hn : ∀ C T fz, o0 ≠ .cells C T fz) : (setObj r o).run P w = .ok () (setB w r o) := by
 simp only [setObj, Sem.run, h]
 cases o0 with
 | cells C T fz => exact absurd rfl (hn C T fz)
 | _ => rfl
theorem yvh {w : World} {r : Nat} {o : Obj} (h : w.heap[r]? = some o) (hn : ∀ C T fz, o ≠ .cells C T fz) : (getObj r).run P w = .ok o w := by
 simp only [getObj, Sem.run, h]
theorem ymf {w : World} {r : Nat} {lp : Loop} (h : w.heap[r]? = some (.loop lp)) : (Instr.getLoop r).run P w = .ok lp w := by simp [Instr.getLoop, getObj, Sem.run, h]
theorem ygs {b : Frame} {a : Act} {k : List Item} {cs : List Frame} {w : World} {c : Code} : step P (lone (b.atR a (.code (.scope c) :: k)) cs w) = .next (lone (b.atR a (.code c :: .inScope c :: k)) cs w) :=
 step_lone_go (by simp [stepG, stepG.exec, Frame.atR])
theorem yvi {b : Frame} {a : Act} {k : List Item} {cs : List Frame} {w : World} {c : Code} : step P (lone (b.atR a (.inScope c :: k)) cs w) = .next (lone (b.atR a k) cs w) :=
 step_lone_go (by simp [stepG, stepG.exec, Frame.atR])
def noGo (Q : Exit → Act → World → Prop) : Exit → Act → World → Prop
 | .goto _, _, _ => False
 | e, a, w => Q e a w
theorem yvj {F : Fence} {c : Code} {Q : Exit → Act → World → Prop} {a : Act} {w : World} (h : c.wpIn F fk P (noGo Q) a w) : (Code.scope c).wpIn F fk P Q a w := by
 intro b k cs hro hb hr
 have h0 : (lone (b.atR a (.code (.scope c) :: k)) cs w).fenced P F := fenced_calm hb hr rfl
 obtain ⟨e, a₁, w₁, hq, harr⟩ := h b (.inScope c :: k) cs hro hb hr
 cases e with
 | normal => exact ⟨.normal, a₁, w₁, hq, .head h0 ygs (StepsIn.trans harr (.one (fenced_calm hb hr rfl) yvi))⟩
 | exit id =>
  have hx : exitTo id (.inScope c :: k) = exitTo id k := by simp [exitTo]
  exact ⟨.exit id, a₁, w₁, hq, fun k' hk => .head h0 ygs (harr.1 k' (by rw [hx]; exact hk)),
   fun hr' hk => let ⟨k₁, h1, h2⟩ := harr.2 hr' (by rw [hx]; exact hk); ⟨k₁, h1, .head h0 ygs h2⟩⟩
 | goto l => exact hq.elim
 | ret => exact ⟨_, a₁, w₁, hq, .of_steps (.one h0 ygs) harr⟩
 | panic ch => exact ⟨_, a₁, w₁, hq, .of_steps (.one h0 ygs) harr⟩
 | outgrown => exact ⟨_, a₁, w₁, hq, .of_steps (.one h0 ygs) harr⟩
theorem ymg {c : Cx} (hR : Rel E c) {b : Nat} {L L' : LoopD} {lp lp' : Loop} (hb : c.h[b]? = some (.siter L)) (hw : c.w.heap[(c.ρ b).1]? = some (.loop lp)) (h : LoopOk c L' lp') :
  Ext c (objC c b (.siter L') (.loop lp')) ∧ Rel E (objC c b (.siter L') (.loop lp')) :=
 hR.obj hb (by simp) hw (by simp) (by simp) (fun ⟨_, h⟩ => by cases h) (fun _ => ⟨L, hb⟩) (fun _ h => by cases h) (fun L'' h' => by cases h'; exact ⟨lp', rfl, h⟩)
theorem ygt (hE : EnvOk P E) {md : FuncId → Mode} {call : CallF} (hC : ycc P E call) (n : Nat) : ∀ (code : Code) (Q : Exit → Act → World → Prop) (c : Cx) (s : List V) (a : Act) (e : Ex) (s' : List V) (h' : Heap),
  (ycv code = true ∨ (ro = none ∧ Marky D)) → Rel E c → FrOk D c s a → yap E md call n code s c.h = some (e, s', h') → PostOk D E c Q e s' h' → code.wpIn (Fo ro) fk P Q a c.w := by
 intro code
 induction code with
 | skip =>
  intro Q c s a e s' h' hp hR hF hev hP
  simp only [yap] at hev; cases hev
  exact wpIn_skip (hP c a (Ext.refl c) hR rfl hF)
 | region id ops draw =>
  intro Q c s a e s' h' hp hR hF hev hP
  simp only [yap] at hev
  cases draw with
  | false =>
   simp only [Bool.false_eq_true, if_false] at hev
   refine wpIn_region ?_
   rw [List.range_eq_range']
   exact yme hE hC ops ops.size 0 c s a e s' h' (by omega) hR hF (by simpa using hev) hP
  | true =>
   simp only [if_true] at hev
   split at hev
   ·rename_i hok
    exact yvf hE hC hok hR hF hev hP
   ·split at hev
    ·rename_i hok
     exact ypl hE hC (yvb hok) hR hF hev hP
    ·cases hev
 | seq x y ihx ihy =>
  intro Q c s a e s' h' hp hR hF hev hP
  simp only [yap] at hev
  replace hev := Option.bind_eq_some_iff.1 hev; obtain ⟨r, hr, hev⟩ := hev
  obtain ⟨e1, s1, h1⟩ := r
  refine wpIn_seq (ihx _ c s a e1 s1 h1 (hp.imp (fun h => (Bool.and_eq_true_iff.1 h).1) id) hR hF hr ?_)
  intro c' a' hx hR' hh hF'
  cases e1 with
  | normal =>
   simp only at hev
   exact ihy Q c' s1 a' e s' h' (hp.imp (fun h => (Bool.and_eq_true_iff.1 h).2) id) hR' hF' (by rw [hh]; exact hev) (hP.ext hx)
  | exit i => simp only at hev; cases hev; exact hP c' a' hx hR' hh hF'
  | ret => simp only at hev; cases hev; exact hP c' a' hx hR' hh hF'
  | panic v => simp only at hev; cases hev; exact hP c' a' hx hR' hh hF'
 | cond cc x y ihx ihy =>
  intro Q c s a e s' h' hp hR hF hev hP
  simp only [yap] at hev
  split at hev
  ·rename_i t ht
   have hv := yaw hR hF cc
   rw [ht] at hv
   refine wpIn_cond (t := t) hv.bool_inv ?_
   cases t with
   | true => exact ihx Q c s a e s' h' (hp.imp (fun h => (Bool.and_eq_true_iff.1 h).1) id) hR hF (by simpa using hev) hP
   | false => exact ihy Q c s a e s' h' (hp.imp (fun h => (Bool.and_eq_true_iff.1 h).2) id) hR hF (by simpa using hev) hP
  ·cases hev
 | block id x ih =>
  intro Q c s a e s' h' hp hR hF hev hP
  simp only [yap] at hev
  replace hev := Option.bind_eq_some_iff.1 hev; obtain ⟨r, hr, hev⟩ := hev
  obtain ⟨e1, s1, h1⟩ := r
  refine wpIn_block (ih _ c s a e1 s1 h1 hp hR hF hr ?_)
  intro c' a' hx hR' hh hF'
  cases e1 with
  | normal => simp only at hev; cases hev; exact hP c' a' hx hR' hh hF'
  | exit i =>
   simp only at hev
   simp only [Exit.inBlock]
   split at hev
   ·rename_i hi; cases hev; rw [if_pos hi]; exact hP c' a' hx hR' hh hF'
   ·rename_i hi; cases hev; rw [if_neg hi]; exact hP c' a' hx hR' hh hF'
  | ret => simp only at hev; cases hev; exact hP c' a' hx hR' hh hF'
  | panic v => simp only at hev; cases hev; exact hP c' a' hx hR' hh hF'
 | loop x ih =>
  intro Q c s a e s' h' hp hR hF hev hP
  simp only [yap] at hev
  refine yvg (fun m a' w' => ∃ c' s1, Ext c c' ∧ Rel E c' ∧ c'.w = w' ∧ FrOk D c' s1 a' ∧ ydy (fun s h => yap E md call n x s h) m s1 c'.h = some (e, s', h')) ?_ ?_ n a c.w ⟨c, s, Ext.refl c, hR, rfl, hF, hev⟩
  ·rintro m a' w' ⟨c', s1, hx, hR', rfl, hF', hl⟩
   simp only [ydy] at hl
   replace hl := Option.bind_eq_some_iff.1 hl; obtain ⟨r, hr, hl⟩ := hl
   obtain ⟨e1, s2, h2⟩ := r
   refine ih _ c' s1 a' e1 s2 h2 hp hR' hF' hr ?_
   intro c2 a2 hx2 hR2 hh2 hF2
   cases e1 with
   | normal => simp only at hl; exact ⟨c2, s2, hx.trans hx2, hR2, rfl, hF2, by rw [hh2]; exact hl⟩
   | exit i => simp only at hl; cases hl; exact hP c2 a2 (hx.trans hx2) hR2 hh2 hF2
   | ret => simp only at hl; cases hl; exact hP c2 a2 (hx.trans hx2) hR2 hh2 hF2
   | panic v => simp only at hl; cases hl; exact hP c2 a2 (hx.trans hx2) hR2 hh2 hF2
  ·rintro a' w' ⟨c', s1, _, _, _, _, hl⟩
   simp [ydy] at hl
 | exit id =>
  intro Q c s a e s' h' hp hR hF hev hP
  simp only [yap] at hev; cases hev
  exact wpIn_exit (hP c a (Ext.refl c) hR rfl hF)
 | ret =>
  intro Q c s a e s' h' hp hR hF hev hP
  simp only [yap] at hev; cases hev
  exact wpIn_ret (hP c a (Ext.refl c) hR rfl hF)
 | label l =>
  intro Q c s a e s' h' hp hR hF hev hP
  simp only [yap] at hev; cases hev
  exact wpIn_label (hP c a (Ext.refl c) hR rfl hF)
 | scope x ih =>
  intro Q c s a e s' h' hp hR hF hev hP
  simp only [yap] at hev
  refine yvj (ih _ c s a e s' h' hp hR hF hev ?_)
  intro c' a' hx hR' hh hF'
  have := hP c' a' hx hR' hh hF'
  cases e <;> exact this
 | rangeFunc f ps assign body =>
  intro Q c s a e s' h' hp hR hF hev hP
  obtain ⟨rfl, hM⟩ := hp.resolve_left (by simp [ycv])
  simp only [yap] at hev
  split at hev
  case h_2 => cases hev
  rename_i g caps hop
  replace hev := Option.bind_eq_some_iff.1 hev; obtain ⟨r, hr, hev⟩ := hev
  have hfv := yaw hR hF f
  rw [hop] at hfv
  obtain ⟨ys, hfx, hys⟩ := hfv.fn_inv
  obtain ⟨⟨ts, hts, htv⟩, hds⟩ := hF
  have hFs : FrOk D c s a := ⟨⟨ts, hts, htv⟩, hds⟩
  -- the block for the deferred calls
  generalize hcA : ({ c with w := { c.w with heap := c.w.heap.push (.deferred (some [])) }, my := fun x => c.my x ∧ x ≠ c.w.heap.size } : Cx) = cA
  have hxA : Ext c cA ∧ Rel E cA := by
   obtain ⟨q1, q2⟩ := hR.grow { c.w with heap := c.w.heap.push (.deferred (some [])) } (fun r hr => by simp only; rw [Array.getElem?_push, if_neg (by omega)]) (by simp)
   subst hcA
   have hE' : Ext c { c with w := { c.w with heap := c.w.heap.push (.deferred (some [])) }, my := fun x => c.my x ∧ x ≠ c.w.heap.size } := ⟨q1.ro, q1.same, q1.len, q1.blk, q1.mp, q1.it, q1.size, q1.grow, fun r h => .inl h.1, q1.frame, q1.ro2, q1.rest⟩
   have hlt : ∀ {b}, live c.h b → (c.w.heap.push (.deferred (some [])))[(c.ρ b).1]? = c.w.heap[(c.ρ b).1]? := fun {b} hl => by have := hR.lt hl; rw [Array.getElem?_push, if_neg (by omega)]
   exact ⟨hE', ⟨fun b T cs h => (hR.cells b T cs h).mono hE' (hlt ⟨_, h, by simp⟩) rfl, fun b es h => (hR.maps b es h).mono hE' (hlt ⟨_, h, by simp⟩) rfl, fun b L h => (hR.iters b L h).mono hE' (hlt ⟨_, h, by simp⟩) rfl, q2.own, q2.inj, q2.rolt, q2.gl, fun b hb => ⟨hR.mine b hb, fun e => by have := hR.lt hb; simp only at e; omega⟩, q2.ali⟩⟩
  obtain ⟨hxA, hRA⟩ := hxA
  have eAh : cA.h = c.h := by subst hcA; rfl
  have eAs : cA.w.heap.size = c.w.heap.size + 1 := by subst hcA; simp
  have eAat : cA.w.heap[c.w.heap.size]? = some (.deferred (some [])) := by subst hcA; simp
  have eAmy : ¬ cA.my c.w.heap.size := by subst hcA; simp
  have eAro : ¬ cA.ro c.w.heap.size := by subst hcA; exact fun h => by have := hR.rolt _ h; omega
  refine wpIn_rangeFunc fun fn _ => ?_
  -- the loop's record
  generalize hlp : ({ state := .ready, pending := none, fn, tmps := a.tmps, params := ps, assign, body, defers := c.w.heap.size } : Loop) = lp
  generalize hL : (⟨.ready, none, s.tail, ps.toList, assign, body, md⟩ : LoopD) = L at hr
  have hlo : LoopOk cA L lp := by
   subst hlp hL
   exact ⟨rfl, rfl, rfl, rfl, rfl, by rw [hts]; exact htv.mono hxA⟩
  have hxB := yje hRA (.siter L) (.loop lp)
  have hRB : Rel E (pushC cA (.siter L) (.loop lp)) := yll hRA _ _ (fun _ _ h => by cases h) (fun _ h => by cases h) (fun L' h => by
   cases h
   exact ⟨lp, by simp only [pushC, yba]; simp, hlo.mono hxB⟩)
  generalize hcB : pushC cA (.siter L) (.loop lp) = cB at hxB hRB
  have eBh : cB.h = push c.h (.siter L) := by subst hcB; simp only [pushC, eAh]
  have eBρ : cB.ρ c.h.length = (c.w.heap.size + 1, 0) := by subst hcB; simp only [pushC, eAh, yba, eAs]
  have eBw : cB.w = { c.w with heap := (c.w.heap.push (.deferred (some []))).push (.loop lp) } := by subst hcB; subst hcA; rfl
  have hmk : MarkOk c cA c.w.heap.size := ⟨Nat.le_refl _, by omega, eAmy, eAro, eAat⟩
  have hmkB := hmk.mono hxB
  have hyv : RV cB (.it c.h.length) (.func (.yield (c.w.heap.size + 1)) #[] #[]) := .it _ _ ⟨_, rfl⟩ (by rw [eBh]; simp [push]) (fun _ => by rw [eBρ])
  have hargs : RVs cB (.it c.h.length :: caps) (.func (.yield (c.w.heap.size + 1)) #[] #[] :: ys.toList) := RVs.cons hyv (hys.mono (hxA.trans hxB))
  obtain ⟨_, k0, _⟩ := hC _ _ _ _ _ hr
  obtain ⟨⟨F, k1, k2, k3⟩, k4⟩ := k0 (by simp)
  have k5 := k4 cB _ hRB eBh hargs
  have hxcB := hxA.trans hxB
  have hinv : (invoke (.fn (.func g) ys) #[.func (.yield (c.w.heap.size + 1)) #[] #[]]).run P cB.w = .ok (.enter g ⟨.func (.yield (c.w.heap.size + 1)) #[] #[] :: ys.toList⟩) cB.w := by
   have hb : F.body ≠ none := by intro hq; rw [hq] at k2; cases k2
   have hne : F.name ≠ "runtime.NumGoroutine" := by simpa using k3
   have happ : (#[.func (.yield (c.w.heap.size + 1)) #[] #[]] ++ ys : Array Value) = ⟨.func (.yield (c.w.heap.size + 1)) #[] #[] :: ys.toList⟩ := by apply Array.ext'; simp
   simp [invoke, callFunc, k1, hne, hb, happ]
  refine ⟨c.w.heap.size + 1, [{ target := .collected c.w.heap.size, args := #[] }], cB.w, { target := .fn (.func g) ys, args := #[.func (.yield (c.w.heap.size + 1)) #[] #[]] }, cB.w, g, _, cB.w, ?_, ?_, fun _ _ => trivial, hinv, (fun h => by cases h), Fo.calls (ro := none) (k5.mono fun e w' hrt => ?_)⟩
  ·rw [eBw, ← hlp]
   show (Instr.enterLoop fn a.tmps ps assign body none).run P c.w = _
   simp [Instr.enterLoop]; rfl
  ·have : (Act.eval a f) = .func (.func g) #[] ys := hfx
   simp [resolve, rangeCall, this, Deferred.ofValue]; rfl
  ·obtain ⟨c', q1, q2, q3, q4⟩ := hrt
   subst q3
   have hx1 := hxcB.trans q1
   have hds' : ∀ c'', Ext c' c'' → D.p c'' ({ target := .collected c.w.heap.size, args := #[] } :: a.defers) := fun c'' hx => hM c c'' a.defers _ hds (hx1.trans hx) ((hmkB.mono q1).mono hx)
   cases r with
   | pan v h1 =>
    obtain ⟨q5, x, rfl, q6⟩ := q4
    simp only at hev; cases hev
    exact hP c' { a with defers := [{ target := .collected c.w.heap.size, args := #[] }] ++ a.defers } hx1 q2 q5 ⟨⟨ts, hts, htv.mono hx1⟩, hds' c' (Ext.refl _)⟩ x q6
   | val v h1 =>
    obtain ⟨q5, x, rfl, q6⟩ := q4
    subst q5
    simp only [ylj] at hev
    split at hev
    case h_2 => cases hev
    rename_i L1 hL1
    split at hev
    ·cases hev
    rename_i hst
    have hit := q1.it c.h.length (by rw [eBh]; simp [push]) ⟨L1, hL1⟩
    have eρ : (c'.ρ c.h.length).1 = c.w.heap.size + 1 := by rw [hit.2, eBρ]
    obtain ⟨lp1, g1, g2⟩ := q2.iters _ L1 hL1
    have hturn := ymg (L' := { L1 with st := .exhausted }) (lp' := { lp1 with state := .exhausted }) q2 hL1 g1 ⟨rfl, g2.pend, g2.ps, g2.asg, g2.body, g2.tmps⟩
    rw [eρ] at g1
    have hend : (Instr.endLoop (c.w.heap.size + 1)).run P c'.w = .ok lp1.pending (setB c'.w (c.w.heap.size + 1) (.loop { lp1 with state := .exhausted })) := by
     have hnb : (lp1.state == LoopState.busy) = false := by rw [g2.st]; cases hq : L1.st <;> simp_all
     simp only [Instr.endLoop, Sem.run_bind, ymf g1, Result.andThen_ok, hnb, Bool.false_eq_true, if_false, Sem.run_pure, yjx g1 (by simp)]
    generalize hc2 : objC c' c.h.length (.siter { L1 with st := .exhausted }) (.loop { lp1 with state := .exhausted }) = c2 at hturn
    obtain ⟨hx2, hR2⟩ := hturn
    have e2w : c2.w = setB c'.w (c.w.heap.size + 1) (.loop { lp1 with state := .exhausted }) := by subst hc2; simp only [objC, eρ]
    have e2h : c2.h = c'.h.set c.h.length (.siter { L1 with st := .exhausted }) := by subst hc2; rfl
    have hF2 : FrOk D c2 s { a with defers := [{ target := .collected c.w.heap.size, args := #[] }] ++ a.defers } := ⟨⟨ts, hts, htv.mono (hx1.trans hx2)⟩, hds' c2 hx2⟩
    refine ⟨_, _, hend, ?_⟩
    rw [← e2w, g2.pend]
    cases hp1 : L1.pend with
    | none =>
     rw [hp1] at hev; simp only at hev; cases hev
     exact hP c2 _ (hx1.trans hx2) hR2 (by rw [e2h, hp1]) hF2
    | some p =>
     rw [hp1] at hev; simp only at hev; cases hev
     have := hP c2 _ (hx1.trans hx2) hR2 (by rw [e2h, hp1]) hF2
     cases p with
     | none => exact wpIn_ret this
     | some i => exact wpIn_exit this
 | goto => intro Q c s a e s' h' hp hR hF hev hP; simp [yap] at hev
 | refuse => intro Q c s a e s' h' hp hR hF hev hP; simp [yap] at hev
theorem yvk (hE : EnvOk P E) {c : Cx} (hR : Rel E c) {s : List V} {a : Act} (hF : FrOk D c s a) {r : ResultVar} {v : V} (h : yey E s c.h r = some v) :
  ∃ x, ((match r with | .tmp t => pure (a.tmps.getD t undef) | .cell p t => do loadVar t (← asAddr (a.tmps.getD p undef)) : Sem Value)).run P c.w = .ok x c.w ∧ RV c v x := by
 cases r with
 | tmp t => simp only [yey] at h; cases h; exact ⟨_, rfl, hF.get t⟩
 | cell p t =>
  simp only [yey] at h
  have hp := hF.get p
  generalize hg : getT s p = pv at h hp
  cases pv <;> simp only [yde] at h
  case ptr b o sz =>
   replace h := Option.bind_eq_some_iff.1 h; obtain ⟨q, hq, hr⟩ := h
   obtain ⟨hb, hbl⟩ := ycj hq
   have e := hp.ptr_inv (by rw [yci hb, hbl])
   obtain ⟨y, h1, h2⟩ := yjk hE (yjj hR hq o) hr
   exact ⟨y, by simp only [e, asAddr, Sem.run_bind, Sem.run_pure, Result.andThen_ok]; exact h1, h2⟩
  case rop cs =>
   obtain ⟨ad, e, ha⟩ := rop_at hp
   obtain ⟨y, h1, h2⟩ := yjk hE ha h
   exact ⟨y, by simp only [e, asAddr, Sem.run_bind, Sem.run_pure, Result.andThen_ok]; exact h1, h2⟩
  all_goals cases h
theorem ymh (hE : EnvOk P E) {c : Cx} (hR : Rel E c) {s : List V} {a : Act} (hF : FrOk D c s a) {fn : Func} {v : V} (h : ybp E fn.results.toList s c.h = some v) : ∃ x, (results fn a.tmps).run P c.w = .ok x c.w ∧ RV c v x := by
 obtain ⟨vs, hvs, rfl⟩ := Option.map_eq_some_iff.1 h
 have key : ∀ (rs : List ResultVar) (vs : List V), rs.mapM (yey E s c.h) = some vs → ∃ xs : List Value, (rs.mapM (fun | .tmp t => pure (a.tmps.getD t undef) | .cell p t => do loadVar t (← asAddr (a.tmps.getD p undef)) : ResultVar → Sem Value)).run P c.w = .ok xs c.w ∧ RVs c vs xs := by
  intro rs
  induction rs with
  | nil => intro vs h; simp at h; subst h; exact ⟨[], by simp, RVs.nil c⟩
  | cons r rs ih =>
   intro vs h
   simp only [List.mapM_cons, Option.bind_eq_bind, Option.bind_eq_some_iff] at h
   obtain ⟨v, hv, us, hus, h⟩ := h
   cases h
   obtain ⟨x, h1, h2⟩ := yvk (P := P) hE hR hF hv
   obtain ⟨xs, h3, h4⟩ := ih us hus
   refine ⟨x :: xs, ?_, RVs.cons h2 h4⟩
   simp only [List.mapM_cons, Sem.run_bind]
   rw [h1]
   simp only [Result.andThen_ok]
   rw [h3]
   rfl
 obtain ⟨xs, h1, h2⟩ := key _ _ hvs
 have hm : (fn.results.mapM (fun | .tmp t => pure (a.tmps.getD t undef) | .cell p t => do loadVar t (← asAddr (a.tmps.getD p undef)) : ResultVar → Sem Value)).run P c.w = .ok xs.toArray c.w := by
  rw [Array.mapM_eq_mapM_toList]
  simp only [Sem.run_map, h1, Result.andThen_ok]
 refine ⟨if h : xs.toArray.size = 1 then xs.toArray[0] else .tuple xs.toArray, ?_, ?_⟩
 ·simp only [results, Sem.run_bind]
  exact Eq.trans (congrArg (fun r => Result.andThen r _) hm) rfl
 ·match vs, xs, h2 with
  | [], xs, h2 => have := h2.nil_left; subst this; simp; exact RV.tup_mk h2
  | [v], xs, h2 => obtain ⟨x, ys, rfl, h3, h4⟩ := h2.cons_left; have := h4.nil_left; subst this; simpa using h3
  | v :: w :: vs, xs, h2 =>
   obtain ⟨x, ys, rfl, h3, h4⟩ := h2.cons_left
   obtain ⟨y, zs, rfl, h5, h6⟩ := h4.cons_left
   simp
   exact RV.tup_mk h2
theorem yvl {c0 c : Cx} {r : Nat} (hx : Ext c0 c) (hR : Rel E c) (hm : MarkOk c0 c r) :
  Ext c0 { c with w := setB c.w r (.deferred none) } ∧ Rel E { c with w := setB c.w r (.deferred none) } ∧ ExtW c { c with w := setB c.w r (.deferred none) } := by
 have hne : ∀ q, q ≠ r → (setB c.w r (.deferred none)).heap[q]? = c.w.heap[q]? := fun q hq => by rw [yda, if_neg (fun e => hq e.symm)]
 have hro : ∀ q, c.ro q → q ≠ r := fun q h e => hm.ro (e ▸ h)
 have hc : ∀ {q C T fz}, c.w.heap[q]? = some (.cells C T fz) → q ≠ r := fun h e => by subst e; rw [hm.at_] at h; cases h
 have hW : ExtW c { c with w := setB c.w r (.deferred none) } := ⟨fun _ h => h, fun q h => hne q (hro q h), Nat.le_refl _, fun _ _ n hn => ⟨n, hn, Nat.le_refl _, fun _ => rfl⟩, fun _ _ h => ⟨h, rfl⟩, fun _ _ h => ⟨h, rfl⟩,
  fun q C T fz h => ⟨C, fz, by simp only; rw [hne q (hc h)]; exact h, rfl⟩⟩
 have hlv : ∀ {b}, live c.h b → (c.ρ b).1 ≠ r := fun {b} hl e => hm.my (e ▸ hR.mine b hl)
 refine ⟨⟨hx.ro, fun q h => ?_, hx.len, hx.blk, hx.mp, hx.it, fun q C T fz h => ?_, ?_, hx.mine, fun q hq h => ?_, hx.ro2, hx.rest⟩, ⟨fun b T cs h => ?_, fun b es h => ?_, fun b L h => ?_, hR.own, hR.inj, fun q h => ?_, fun g cs hg => (hR.gl g cs hg).mono hW.ro hW.same, hR.mine, hR.ali⟩, hW⟩
 ·simp only; rw [hne q (hro q (hx.ro q h))]; exact hx.same q h
 ·obtain ⟨C', fz', h1, h2⟩ := hx.size q C T fz h
  exact ⟨C', fz', by simp only; rw [hne q (hc h1)]; exact h1, h2⟩
 ·simp only [yfn]; exact hx.grow
 ·simp only; rw [hne q (fun e => by have := hm.new; omega)]; exact hx.frame q hq h
 ·obtain ⟨C, lo, hi, h1, h2, h3, h4, h5⟩ := hR.cells b T cs h
  refine ⟨C, lo, hi, by simp only; rw [hne _ (hlv ⟨_, h, by simp⟩)]; exact h1, h2, fun j v hv => ?_, h4, h5⟩
  obtain ⟨x, q1, q2⟩ := h3 j v hv
  exact ⟨x, q1, q2.monoW hW⟩
 ·obtain ⟨xs, clock, h1, h2, h0, h3⟩ := hR.maps b es h
  refine ⟨xs, clock, by simp only; rw [hne _ (hlv ⟨_, h, by simp⟩)]; exact h1, h2, h0, fun i k v hv => ?_⟩
  obtain ⟨e, q1, q2, q3⟩ := h3 i k v hv
  exact ⟨e, q1, q2.monoW hW, q3.monoW hW⟩
 ·obtain ⟨lp, h1, h2⟩ := hR.iters b L h
  exact ⟨lp, by simp only; rw [hne _ (hlv ⟨_, h, by simp⟩)]; exact h1, ⟨h2.st, h2.pend, h2.ps, h2.asg, h2.body, h2.tmps.monoW hW⟩⟩
 ·simp only [yfn]; exact hR.rolt q h
theorem ymi {fn : Func} {tmps : Array Value} {R : Ending → World → Prop} {c0 : Cx} {u : FrameMode} (hu : u ≠ .run) {ts : List V} : ∀ (rs : List Nat) (c : Cx), Ext c0 c → Rel E c → RVs c ts tmps.toList → rs.Nodup → (∀ r ∈ rs, MarkOk c0 c r) →
  (∀ c', Ext c0 c' → Rel E c' → c'.h = c.h → RVs c' ts tmps.toList → ExtW c c' → LeavesIn Fence.wide fk P fn tmps R [] u c'.w) → LeavesInM Fence.wide fk P fn tmps R (rs.map fun r => { target := .collected r, args := #[] }) u c.w
 | [], c, hx, hR, hs, _, _, fin => fin c hx hR rfl hs ⟨fun _ h => h, fun _ _ => rfl, Nat.le_refl _, fun _ _ n hn => ⟨n, hn, Nat.le_refl _, fun _ => rfl⟩, fun _ _ h => ⟨h, rfl⟩, fun _ _ h => ⟨h, rfl⟩, fun _ C _ fz h => ⟨C, fz, h, rfl⟩⟩
 | r :: rs, c, hx, hR, hs, hn, hm, fin => by
  have hr := hm r (List.mem_cons_self ..)
  obtain ⟨k1, k2, k3⟩ := yvl hx hR hr
  obtain ⟨hnr, hn⟩ := List.nodup_cons.1 hn
  refine ⟨hu, .inl ⟨r, setB c.w r (.deferred none), rfl, ?_, ?_⟩⟩
  ·simp only [Instr.takeDeferred, Sem.run_bind, yvh hr.at_ (by simp), Result.andThen_ok, yjx hr.at_ (by simp), Sem.run_pure]
  ·refine ymi hu rs { c with w := setB c.w r (.deferred none) } k1 k2 (hs.monoW k3) hn (fun q hq => ?_) ?_
   ·have h := hm q (List.mem_cons_of_mem _ hq)
    have hqr : r ≠ q := fun e => hnr (e ▸ hq)
    exact ⟨h.new, by simp only [yfn]; exact h.lt, h.my, h.ro, by simp only; rw [yda, if_neg hqr]; exact h.at_⟩
   ·intro c' q1 q2 q3 q4 q5
    refine fin c' q1 q2 q3 q4 ⟨fun q h => q5.ro q (k3.ro q h), fun q h => (q5.same q (k3.ro q h)).trans (k3.same q h), q5.len, q5.blk, q5.mp, q5.it, fun q C T fz h => ?_⟩
    obtain ⟨C', fz', w1, w2⟩ := k3.size q C T fz h
    obtain ⟨C'', fz'', w3, w4⟩ := q5.size q C' T fz' w1
    exact ⟨C'', fz'', w3, w4.trans w2⟩
theorem fn_sound (hE : EnvOk P E) {call : CallF} (hC : ycc P E call) {n : Nat} {f : FuncId} {d : FnD} (hfn : FnOk P f d) {args : List V} {r : OpR} {c : Cx} {xs : List Value} (hR : Rel E c) (hargs : RVs c args xs)
  (h : evFn E call n d args c.h = some r) : Calls P f ⟨xs⟩ c.w (Ret E c r) := by
 obtain ⟨F, hf, hb, hnt, hres, hname⟩ := hfn.fn
 unfold evFn at h
 split at h
 ·rename_i hlen
  replace h := Option.bind_eq_some_iff.1 h; obtain ⟨q, hq, h⟩ := h
  obtain ⟨e, s', h'⟩ := q
  refine (callsIn_wide (n := 0)).1 (callsIn_of_wp_marks hf hb trivial ?_ rfl)
  have hF0 : FrOk (marksD c) c (initT d.nt args) { tmps := (⟨xs⟩ : Array Value) ++ Array.replicate (F.ntmps - (⟨xs⟩ : Array Value).size) undef, defers := [] } := by
   refine ⟨⟨_, rfl, ?_⟩, Nat.le_refl _, [], rfl, List.nodup_nil, fun r hr => by cases hr⟩
   have hrep : RVs c (List.replicate (d.nt - args.length) und) (List.replicate (d.nt - args.length) undef) := by
    refine ⟨by simp, fun i v x hv hx => ?_⟩
    rw [List.getElem?_replicate] at hv hx
    split at hv
    ·rename_i hi; rw [if_pos hi] at hx; cases hv; cases hx; exact RV.undM c
    ·cases hv
   have := hargs.append hrep
   simpa [hnt, hargs.1] using this
  refine ygt (ro := none) hE hC n d.body _ c _ _ e s' h' (.inr ⟨rfl, yuv c⟩) hR hF0 hq ?_
  intro c' a' hx hR' hh hF'
  obtain ⟨⟨ts, hts, htv⟩, _, rs, hd1, hd2, hd3⟩ := hF'
  have fin : ∀ v, ybp E d.res s' h' = some v → r = .val v h' → LeavesInM Fence.wide 0 P F a'.tmps (Ret E c r) a'.defers .returning c'.w := by
   intro v hv hr
   rw [hd1]
   refine ymi (by simp) rs c' hx hR' htv hd2 hd3 ?_
   intro c2 hx2 hR2 hh2 hs2 _
   obtain ⟨x, k1, k2⟩ := ymh (P := P) (fn := F) (D := ⟨fun _ _ => True, fun _ _ => trivial⟩) (a := a') (s := s') hE hR2 ⟨⟨ts, hts, hs2⟩, trivial⟩ (by rw [hres, hh2, hh]; exact hv)
   refine ⟨x, k1, c2, hx2, hR2, rfl, ?_⟩
   rw [hr]
   exact ⟨hh2.trans hh, x, rfl, k2⟩
  cases e with
  | normal =>
   simp only at h
   split at h
   ·obtain ⟨v, hv, rfl⟩ := Option.map_eq_some_iff.1 h; exact fin v hv rfl
   ·cases h
  | ret =>
   simp only at h
   split at h
   ·obtain ⟨v, hv, rfl⟩ := Option.map_eq_some_iff.1 h; exact fin v hv rfl
   ·cases h
  | exit i => cases h
  | panic v =>
   simp only at h
   split at h
   ·cases h
    intro x hxv
    show LeavesInM Fence.wide 0 P F a'.tmps _ a'.defers (.panicking [{ v := x, recovered := false }]) c'.w
    rw [hd1]
    refine ymi (by simp) rs c' hx hR' htv hd2 hd3 ?_
    intro c2 hx2 hR2 hh2 hs2 hw2
    exact ⟨c2, hx2, hR2, rfl, hh2.trans hh, x, rfl, hxv.monoW hw2⟩
   ·cases h
 ·cases h
theorem ypm {c : Cx} : ∀ (ps : List Nat) (vs : List V) (xs : List Value) (s : List V) (tmps : Array Value), RVs c vs xs → FrOk (ygq []) c s { tmps := tmps, defers := [] } →
  FrOk (ygq []) c ((ps.zip vs).foldl (fun s p => setT s p.1 p.2) s) { tmps := (ps.zip xs).foldl (fun t p => t.setIfInBounds p.1 p.2) tmps, defers := [] }
 | [], _, _, s, tmps, _, hF => by simpa using hF
 | p :: ps, [], xs, s, tmps, h, hF => by have := h.nil_left; subst this; simpa using hF
 | p :: ps, v :: vs, xs, s, tmps, h, hF => by
  obtain ⟨x, ys, rfl, h1, h2⟩ := h.cons_left
  simp only [List.zip_cons_cons, List.foldl_cons]
  exact ypm ps vs ys _ _ h2 (hF.put (some p) h1)
theorem yvm (hE : EnvOk P E) {call : CallF} (hC : ycc P E call) {n b : Nat} {args : List V} {h : Heap} {r : OpR} (hr : ygj E call n b args h = some r) : ypc P E b args h r := by
 rintro c xs hR rfl hargs
 unfold ygj at hr
 split at hr
 case h_2 => cases hr
 rename_i L hb
 split at hr
 case isFalse => cases hr
 rename_i hlen
 obtain ⟨hlen, hpa, hpb⟩ := hlen
 obtain ⟨lp, g1, g2⟩ := hR.iters b L hb
 refine ⟨⟨L, hb⟩, lp, g1, ?_, ?_⟩
 ·rw [← hargs.1, hlen, ← g2.ps]; simp
 replace hr := Option.bind_eq_some_iff.1 hr; obtain ⟨q1, hq1, hr⟩ := hr
 obtain ⟨e1, s1, h1⟩ := q1
 refine roundIn_of_wpIn trivial ?_
 have hF0 : FrOk (ygq []) c ((L.params.zip args).foldl (fun s p => setT s p.1 p.2) (und :: L.tmps)) { tmps := (lp.params.zip ⟨xs⟩).foldl (fun t p => t.setIfInBounds p.1 p.2) lp.tmps, defers := [] } := by
  have := ypm L.params args xs (und :: L.tmps) lp.tmps hargs ⟨⟨_, rfl, g2.tmps⟩, rfl⟩
  have e : (lp.params.zip (⟨xs⟩ : Array Value)).foldl (fun t p => t.setIfInBounds p.1 p.2) lp.tmps = (L.params.zip xs).foldl (fun t p => t.setIfInBounds p.1 p.2) lp.tmps := by
   rw [← Array.foldl_toList, Array.toList_zip, g2.ps]
  rw [e]; exact this
 rw [g2.asg]
 refine ygt (ro := some (c.ρ b).1) hE hC n L.assign _ c _ _ e1 s1 h1 (.inl hpa) hR hF0 hq1 ?_
 intro c1 a1 hx1 hR1 hh1 hF1
 cases e1 with
 | normal =>
  subst hh1
  simp only at hr
  split at hr
  case h_2 => cases hr
  rename_i L1 hb1
  split at hr
  case isFalse => cases hr
  rename_i hst
  have hbl : b < c.h.length := (List.getElem?_eq_some_iff.1 hb).1
  have hρ1 := (hx1.it b hbl ⟨L1, hb1⟩).2
  obtain ⟨lp1, d1, d2⟩ := hR1.iters b L1 hb1
  have ht1 := ymg (L' := { L1 with st := .busy }) (lp' := { lp1 with state := .busy }) hR1 hb1 d1 ⟨rfl, d2.pend, d2.ps, d2.asg, d2.body, d2.tmps⟩
  rw [hρ1] at d1
  have hbeg : (Instr.beginRound (c.ρ b).1).run P c1.w = .ok () (setB c1.w (c.ρ b).1 (.loop { lp1 with state := .busy })) := by
   have hs : lp1.state = .ready := d2.st.trans hst
   simp only [Instr.beginRound, Sem.run_bind, ymf d1, Result.andThen_ok, yjx d1 (by simp), hs, Sem.run_pure]
  generalize hc2 : objC c1 b (.siter { L1 with st := .busy }) (.loop { lp1 with state := .busy }) = c2 at ht1
  obtain ⟨hx2, hR2⟩ := ht1
  have e2w : c2.w = setB c1.w (c.ρ b).1 (.loop { lp1 with state := .busy }) := by subst hc2; simp only [objC, hρ1]
  have e2h : c2.h = c1.h.set b (.siter { L1 with st := .busy }) := by subst hc2; rfl
  have e2ρ : c2.ρ b = c.ρ b := by subst hc2; exact hρ1
  show ∃ w₂, _ ∧ _
  refine ⟨_, hbeg, ?_⟩
  replace hr := Option.bind_eq_some_iff.1 hr; obtain ⟨q3, hq3, hr⟩ := hr
  obtain ⟨e3, s3, h3⟩ := q3
  rw [g2.body, ← e2w]
  refine ygt (ro := some (c.ρ b).1) hE hC n L.body _ c2 _ _ e3 s3 h3 (.inl hpb) hR2 (hF1.mono hx2) (by rw [e2h]; exact hq3) ?_
  intro c3 a3 hx3 hR3 hh3 hF3
  subst hh3
  have hx03 := hx1.trans (hx2.trans hx3)
  -- how a round ends
  have fin : ∀ (L3 : LoopD) (j : Option (Option Nat)), c3.h[b]? = some (.siter L3) → r = .val (.bool j.isNone) (c3.h.set b (.siter { L3 with st := if j.isNone then .ready else .done, pend := j })) →
    ∃ v w', (Instr.endRound (c.ρ b).1 (j.map pendC)).run P c3.w = .ok v w' ∧ Ret E c r (.returned v) w' := by
   intro L3 j hb3 hrv
   have hρ3 := (hx03.it b hbl ⟨L3, hb3⟩).2
   obtain ⟨lp3, f1, f2⟩ := hR3.iters b L3 hb3
   have ht3 := ymg (L' := { L3 with st := if j.isNone then .ready else .done, pend := j }) (lp' := { lp3 with state := if j.isNone then .ready else .done, pending := j.map pendC }) hR3 hb3 f1 ⟨rfl, rfl, f2.ps, f2.asg, f2.body, f2.tmps⟩
   rw [hρ3] at f1
   refine ⟨.bool j.isNone, setB c3.w (c.ρ b).1 (.loop { lp3 with state := if j.isNone then .ready else .done, pending := j.map pendC }), ?_, ?_⟩
   ·simp only [Instr.endRound, Sem.run_bind, ymf f1, Result.andThen_ok, Option.isNone_map, yjx f1 (by simp), Sem.run_pure]
   ·refine ⟨_, hx03.trans ht3.1, ht3.2, by simp only [objC, hρ3], ?_⟩
    rw [hrv]
    exact ⟨rfl, _, rfl, .g (.bool _)⟩
  cases e3 with
  | normal =>
   simp only at hr
   split at hr
   ·rename_i L3 hb3; cases hr; exact fin L3 none hb3 rfl
   ·cases hr
  | ret =>
   simp only at hr
   split at hr
   ·rename_i L3 hb3; cases hr; exact fin L3 (some none) hb3 rfl
   ·cases hr
  | exit i =>
   simp only at hr
   split at hr
   ·rename_i L3 hb3; cases hr; exact fin L3 (some (some i)) hb3 rfl
   ·cases hr
  | panic v => cases hr
 | exit i => cases hr
 | ret => cases hr
 | panic v => cases hr
end
end Go.Sb
