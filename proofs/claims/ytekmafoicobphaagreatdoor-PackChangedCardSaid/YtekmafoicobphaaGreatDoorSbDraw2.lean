/- One element more, and what else stands ars it stood. -/
import Derived.Test.YtekmafoicobphaaGreatDoorSbBytes
import Derived.Test.YtekmafoicobphaaGreatDoorSbOwnE
set_option linter.unusedVariables false
set_option linter.unusedSimpArgs false
namespace Go.Sb
theorem res_ct {E : Env} {s : List V} {h : Heap} {a t c : Nat} {v : V} (hl : yde E t (getT s a) h = some v) : ybp E [.cell a t, .tmp c] s h = some (.tup [v, getT s c]) := by
 simp [ybp, yey, hl]
def Keeps (h g : Heap) : Prop := ∀ (i : Nat) (k : Blk), h[i]? = some k → g[i]? = some k
theorem Keeps.refl (h : Heap) : Keeps h h := fun _ _ hi => hi
theorem Keeps.trans {a b c : Heap} (h1 : Keeps a b) (h2 : Keeps b c) : Keeps a c := fun i k hi => h2 i k (h1 i k hi)
theorem Keeps.set {h g : Heap} (hk : Keeps h g) {n : Nat} (hn : h.length ≤ n) (b : Blk) : Keeps h (g.set n b) := fun i k hi => by
 have := (List.getElem?_eq_some_iff.1 hi).1
 rw [yau (by omega)]; exact hk i k hi
theorem ydh (h : Heap) (b : Blk) : (Sb.push h b)[h.length]? = some b := by rw [ydb, if_pos rfl]
theorem ybk {E : Env} {t kt el : TypeId} {d kd : TyD} {k v : V} {h : Heap} {es es' : List (V × V)} (ht : E.ty t = some d) (hu : d.u = .map kt el) (hk : E.ty kt = some kd) (hf : ycu kd.u k = true) (hs : setV k v es = some es') :
  ygi E t (.mp h.length) k v (Sb.push h (.map es)) = some (Sb.push h (.map es')) := by
 simp only [ygi, ht, Option.bind_some, hu, hk]
 rw [if_neg (by simp [hf]), ydh]
 simp only [hs, Option.map_some]
 simp [Sb.push]
end Go.Sb
namespace Go.Sb
end Go.Sb
namespace Go.Sb
theorem ybl {E : Env} {md : FuncId → Sb.Mode} {t : TypeId} {m k v : Operand} {rest : List ROp} {s : List V} {h g : Heap} {K : List V → Heap → Prop} (he : ygi E t (opd E s m) (opd E s k) (opd E s v) h = some g) (hk : yag E md rest s g K) : yag E md ({ op := .insert t m k v, dst := none, gd := none } :: rest) s h K := by
 have : evOp E md yek (.insert t m k v) s h = some (.val und g) := by
  show unitH (ygi E t (opd E s m) (opd E s k) (opd E s v) h) = _
  rw [he]; rfl
 show bindR (evOp E md yek (.insert t m k v) s h) fun v g => yas (putT s none v) fun s' => yag E md rest s' g K
 rw [this]
 show yas (putT s none und) fun s' => yag E md rest s' g K
 rw [yat]; exact hk
end Go.Sb
namespace Go.Sb
theorem RunP.regionR {E : Env} {md : FuncId → Sb.Mode} {x : Nat} {ops : Array Oper} {s : List V} {h : Heap} {Q : Ex → List V → Heap → Prop} (rs : List ROp) (he : ∀ K : List ROp → Prop, ydc ops.toList ops.toList K = K rs) (hr : yag E md rs s h fun s' h' => Q .normal s' h') : RunP E md (.region x ops false) s h Q :=
 RunP.region (by rw [he]; exact hr)
theorem yra {E : Env} {md : FuncId → Sb.Mode} {t kt el : TypeId} {ty : TyD} {d : Nat} {rest : List ROp} {s : List V} {h : Heap} {K : List V → Heap → Prop} (ht : E.ty t = some ty) (hu : ty.u = .map kt el) (hk : yag E md rest (setT s d (.mp h.length)) (push h (.map [])) K) : yag E md ({ op := .makeMap t none, dst := some d, gd := none } :: rest) s h K := by
 have : evOp E md yek (.makeMap t none) s h = some (.val (.mp h.length) (push h (.map []))) := by
  show ((E.ty t).bind fun d => match d.u with | .map _ _ => some (OpR.val (.mp h.length) (push h (.map []))) | _ => none) = _
  rw [ht]; simp only [Option.bind_some, hu]
 show bindR (evOp E md yek (.makeMap t none) s h) fun v g => yas (putT s (some d) v) fun s' => yag E md rest s' g K
 rw [this]
 show yas (putT s (some d) (.mp h.length)) fun s' => yag E md rest s' (push h (.map [])) K
 rw [yat]; exact hk
end Go.Sb
namespace Go.Sb
def KeepT (T : TypeId) (h g : Heap) : Prop := ∀ (i : Nat) (k : Blk), h[i]? = some k → (∀ cs, k ≠ .cells T cs) → g[i]? = some k
theorem KeepT.trans {T : TypeId} {a b c : Heap} (h1 : KeepT T a b) (h2 : KeepT T b c) : KeepT T a c := fun i k hi hn => h2 i k (h1 i k hi hn) hn
theorem KeepT.refl (T : TypeId) (h : Heap) : KeepT T h h := fun _ _ hi _ => hi
theorem KeepT.set {T : TypeId} {h g : Heap} (hk : KeepT T h g) {n : Nat} (hn : h.length ≤ n) (b : Blk) : KeepT T h (g.set n b) := fun i k hi hne => by
 have := (List.getElem?_eq_some_iff.1 hi).1
 rw [yau (by omega)]; exact hk i k hi hne
end Go.Sb
namespace Go.Sb
end Go.Sb
namespace Go.Sb
theorem jR {E : Env} {md : Go.FuncId → Sb.Mode} {x : Nat} {ops : Array Oper} {s : List V} {h : Heap} {Q : Ex → List V → Heap → Prop} (rs : List ROp) (hr : yag E md rs s h fun s' h' => Q .normal s' h') (he : ∀ K : List ROp → Prop, ydc ops.toList ops.toList K = K rs := by exact fun _ => rfl) : RunP E md (.region x ops false) s h Q := RunP.regionR rs he hr
end Go.Sb

/- A region whose order is drawn, in which something reads behind what turns memory. -/

namespace Go.Sb
def wasK (E : Env) (md : FuncId → Mode) (A : List Nat) (p : Nat × Op × List V × V) : List (Nat × Heap) → Prop → Prop
 | [], K => K
 | q :: qs, K => if A.contains q.1 = true then wasK E md A p qs K else StillK E md p q.2 ∧ wasK E md A p qs K
theorem ymz {E : Env} {md : FuncId → Mode} {A : List Nat} {p : Nat × Op × List V × V} : ∀ {qs : List (Nat × Heap)} {K : Prop}, wasK E md A p qs K → K ∧ Evt fun n => qs.all (fun q => A.contains q.1 || ydz E md (callN E n) p q.2) = true
 | [], K, hk => ⟨hk, .all fun n => rfl⟩
 | q :: qs, K, hk => by
  unfold wasK at hk
  split at hk
  ·rename_i hc
   obtain ⟨h1, h2⟩ := ymz hk
   exact ⟨h1, h2.imp fun n e => by simp only [List.all_cons, hc, Bool.true_or, Bool.true_and]; exact e⟩
  ·obtain ⟨⟨g, hs⟩, hk⟩ := hk
   obtain ⟨h1, h2⟩ := ymz hk
   exact ⟨h1, hs.and h2 fun n e1 e2 => by
    have e3 : ydz E md (callN E n) p q.2 = true := by simp [ydz, e1]
    simp only [List.all_cons, e3, jO, Bool.true_and]; exact e2⟩
theorem yie {E : Env} {md : FuncId → Mode} {A : List Nat} {p : Nat × Op × List V × V} {K : Prop} (hk : K) : wasK E md A p [] K := hk
theorem yna {E : Env} {md : FuncId → Mode} {A : List Nat} {p : Nat × Op × List V × V} {i : Nat} {g : Heap} {qs : List (Nat × Heap)} {K : Prop} (ha : A.contains i = true) (hk : wasK E md A p qs K) : wasK E md A p ((i, g) :: qs) K := by
 unfold wasK; rw [if_pos ha]; exact hk
theorem yrb {E : Env} {md : FuncId → Mode} {A : List Nat} {p : Nat × Op × List V × V} {i : Nat} {g : Heap} {qs : List (Nat × Heap)} {K : Prop} (hs : StillK E md p g) (hk : wasK E md A p qs K) : wasK E md A p ((i, g) :: qs) K := by
 unfold wasK; split
 ·exact hk
 ·exact ⟨hs, hk⟩
def yay (E : Env) (md : FuncId → Mode) (A : List (List Nat)) : Nat → List ROp → List (Nat × Op × List V × V) → List (Nat × Heap) → List V → Heap → (List V → Heap → Prop) → Prop
 | _, [], _, _, s, h, K => K s h
 | k, o :: os, acc, ws, s, h, K => wantK s o
   (fun s => runOp E md o.op s h fun v g =>
    if yai E md o.op = 2 then accK E md (A.getD k []) g acc (yas (putT s o.dst v) fun s' => yay E md A (k + 1) os acc ((k, h) :: ws) s' g K)
    else if yai E md o.op = 1 then wasK E md (A.getD k []) (k, o.op, s, v) ws (yas (putT s o.dst v) fun s' => yay E md A (k + 1) os ((k, o.op, s, v) :: acc) ws s' g K)
    else yas (putT s o.dst v) fun s' => yay E md A (k + 1) os acc ws s' g K)
   (fun s => if yai E md o.op = 2 then accK E md (A.getD k []) h acc (yas (putT s o.dst und) fun s' => yay E md A (k + 1) os acc ((k, h) :: ws) s' h K)
    else yas (putT s o.dst und) fun s' => yay E md A (k + 1) os acc ws s' h K)
theorem yha {E : Env} {md : FuncId → Mode} {A : List (List Nat)} {all : List Oper} : ∀ {os : List Oper} {rs : List ROp} {k : Nat} {acc : List (Nat × Op × List V × V)} {ws : List (Nat × Heap)} {s : List V} {h : Heap} {K : List V → Heap → Prop}, yfv all os rs → yay E md A k rs acc ws s h K →
  ∃ s' g, K s' g ∧ Evt fun n => ycm E md (callN E n) A all k os acc ws s h = some (.normal, s', g)
 | [], [], k, acc, ws, s, h, K, _, hr => ⟨s, h, hr, .all fun n => rfl⟩
 | o :: os, r :: rs, k, acc, ws, s, h, K, hR, hr => by
  obtain ⟨hR1, hR2⟩ := hR
  have e1 := hR1.1
  have e2 := hR1.2.1
  rcases yfx hR1 hr with ⟨hw, hr⟩ | ⟨hw, hr⟩
  ·rw [e1, e2] at hr
   obtain ⟨v, g, h1, h2⟩ := yft hr
   split at h1
   ·rename_i hk
    obtain ⟨h1, h3⟩ := yfy h1
    rw [yat] at h1
    obtain ⟨s', g', k1, k2⟩ := yha hR2 h1
    exact ⟨s', g', k1, (h2.and h3 fun n e1 e2 => jI e1 e2).and k2 fun n e1 e2 => by
     simp only [ycm, hw, Option.bind_some, if_true, e1.1, hk, e1.2]; exact e2⟩
   ·rename_i hk
    split at h1
    ·rename_i hk1
     obtain ⟨h1, h3⟩ := ymz h1
     rw [yat] at h1
     obtain ⟨s', g', k1, k2⟩ := yha hR2 h1
     exact ⟨s', g', k1, (h2.and h3 fun n e1 e2 => jI e1 e2).and k2 fun n e1 e2 => by
      simp only [ycm, hw, Option.bind_some, if_true, e1.1, hk1]
      rw [if_neg (by decide), if_pos ⟨trivial, trivial⟩, if_pos e1.2]; exact e2⟩
    ·rename_i hk1
     rw [yat] at h1
     obtain ⟨s', g', k1, k2⟩ := yha hR2 h1
     exact ⟨s', g', k1, h2.and k2 fun n e1 e2 => by
      simp only [ycm, hw, Option.bind_some, if_true, e1, hk, hk1, if_false, false_and]; exact e2⟩
  ·rw [e1, e2] at hr
   split at hr
   ·rename_i hk
    obtain ⟨h1, h3⟩ := yfy hr
    rw [yat] at h1
    obtain ⟨s', g', k1, k2⟩ := yha hR2 h1
    exact ⟨s', g', k1, h3.and k2 fun n e1 e2 => by
     simp only [ycm, hw, Option.bind_some, hk, if_true, Bool.false_eq_true, if_false, e1]
     exact e2⟩
   ·rename_i hk
    rw [yat] at hr
    obtain ⟨s', g', k1, k2⟩ := yha hR2 hr
    exact ⟨s', g', k1, k2.imp fun n e2 => by
     simp only [ycm, hw, Option.bind_some, hk, if_false]
     simpa using e2⟩
 | [], _ :: _, _, _, _, _, _, _, hR, _ => hR.elim
 | _ :: _, [], _, _, _, _, _, _, hR, _ => hR.elim
section
variable {E : Env} {md : FuncId → Mode} {s : List V} {h : Heap} {Q : Ex → List V → Heap → Prop}
theorem RunP.drawn2 {x : Nat} {ops : Array Oper} (hn : yei E md ops = false) (hd : yhn E md ops = true) (hr : ydc ops.toList ops.toList fun rs => yay E md (ancT ops.toList []) 0 rs [] [] s h fun s' h' => Q .normal s' h') : RunP E md (.region x ops true) s h Q := by
 obtain ⟨rs, h1, h2⟩ := yfw hr
 obtain ⟨s', g, k1, k2⟩ := yha h1 h2
 exact ⟨_, s', g, k1, k2.imp fun n e => by unfold yap; rw [if_pos rfl, if_neg (by simp [hn]), if_pos hd]; exact e⟩
end
/-! A region, an operation at a time: nothing is compared but the operation itself. -/
section
variable {E : Env} {md : FuncId → Mode} {A : List (List Nat)} {k : Nat} {o : ROp} {os : List ROp} {acc : List (Nat × Op × List V × V)} {s : List V} {h g : Heap} {v : V} {K : List V → Heap → Prop}
theorem draw_z (hg : o.gd = none) (hop : ∀ K : V → Heap → Prop, K v g → runOp E md o.op s h K) (hk : yai E md o.op = 0) (hn : yaq E md A (k + 1) os acc (putT s o.dst v) g K) : yaq E md A k (o :: os) acc s h K := by
 rw [yaq, wantK, hg]
 exact hop _ (by rw [if_neg (by omega), if_neg (by omega), yat]; exact hn)
theorem draw_r (hg : o.gd = none) (hop : ∀ K : V → Heap → Prop, K v g → runOp E md o.op s h K) (hk : yai E md o.op = 1) (hn : yaq E md A (k + 1) os ((k, o.op, s, v) :: acc) (putT s o.dst v) g K) : yaq E md A k (o :: os) acc s h K := by
 rw [yaq, wantK, hg]
 exact hop _ (by rw [if_neg (by omega), if_pos hk, yat]; exact hn)
theorem ops_s (hg : o.gd = none) (hop : ∀ K : V → Heap → Prop, K v g → runOp E md o.op s h K) (hn : yag E md os (putT s o.dst v) g K) : yag E md (o :: os) s h K := by
 rw [yag, wantK, hg]
 exact hop _ (by rw [yat]; exact hn)
theorem ops_y {t : Tmp} {w : Bool} (hg : o.gd = some (t, w)) (hb : getT s t = .bool w) (hop : ∀ K : V → Heap → Prop, K v g → runOp E md o.op s h K) (hn : yag E md os (putT s o.dst v) g K) : yag E md (o :: os) s h K := by
 rw [yag, wantK, hg]
 simp only [hb]
 have e : (w == w) = true := by cases w <;> rfl
 rw [e]
 show yas (setT s t (.bool w)) _
 rw [yat, yfu hb]
 exact hop _ (by rw [yat]; exact hn)
theorem ops_n {t : Tmp} {w b : Bool} (hg : o.gd = some (t, w)) (hb : getT s t = .bool b) (hw : b = !w) (hn : yag E md os (putT s o.dst und) h K) : yag E md (o :: os) s h K := by
 subst hw
 rw [yag, wantK, hg]
 simp only [hb]
 have e : ((!w) == w) = false := by cases w <;> rfl
 rw [e]
 show yas (setT s t (.bool !w)) _
 rw [yat, yfu hb, yat]
 exact hn
theorem ops_u {t : Tmp} {w : Bool} (hg : o.gd = some (t, w)) (hb : getT s t = .tup []) (hn : yag E md os (putT s o.dst und) h K) : yag E md (o :: os) s h K := by
 rw [yag, wantK, hg]
 simp only [hb]
 rw [yat]; exact hn
/-! The same, the slots written anew. -/
theorem ybe {s' : List V} (hg : o.gd = none) (hop : ∀ K : V → Heap → Prop, K v g → runOp E md o.op s h K) (hs : putT s o.dst v = s') (hn : yag E md os s' g K) : yag E md (o :: os) s h K := ops_s hg hop (by rw [hs]; exact hn)
theorem yes {s' : List V} {t : Tmp} {w : Bool} (hg : o.gd = some (t, w)) (hb : getT s t = .bool w) (hop : ∀ K : V → Heap → Prop, K v g → runOp E md o.op s h K) (hs : putT s o.dst v = s') (hn : yag E md os s' g K) : yag E md (o :: os) s h K := ops_y hg hb hop (by rw [hs]; exact hn)
theorem yet {s' : List V} {t : Tmp} {w b : Bool} (hg : o.gd = some (t, w)) (hb : getT s t = .bool b) (hw : b = !w) (hs : putT s o.dst und = s') (hn : yag E md os s' h K) : yag E md (o :: os) s h K := ops_n hg hb hw (by rw [hs]; exact hn)
theorem ops_ul {s' : List V} {t : Tmp} {w : Bool} (hg : o.gd = some (t, w)) (hb : getT s t = .tup []) (hs : putT s o.dst und = s') (hn : yag E md os s' h K) : yag E md (o :: os) s h K := ops_u hg hb (by rw [hs]; exact hn)
theorem ykg {s' : List V} (hg : o.gd = none) (hop : ∀ K : V → Heap → Prop, K v g → runOp E md o.op s h K) (hk : yai E md o.op = 0) (hs : putT s o.dst v = s') (hn : yaq E md A (k + 1) os acc s' g K) : yaq E md A k (o :: os) acc s h K := draw_z hg hop hk (by rw [hs]; exact hn)
theorem ykh {s' : List V} (hg : o.gd = none) (hop : ∀ K : V → Heap → Prop, K v g → runOp E md o.op s h K) (hk : yai E md o.op = 1) (hs : putT s o.dst v = s') (hn : yaq E md A (k + 1) os ((k, o.op, s, v) :: acc) s' g K) : yaq E md A k (o :: os) acc s h K := draw_r hg hop hk (by rw [hs]; exact hn)
/-! The same, guarded, where the order is drawn. -/
theorem draw_yz {s' : List V} {t : Tmp} {w : Bool} (hg : o.gd = some (t, w)) (hb : getT s t = .bool w) (hop : ∀ K : V → Heap → Prop, K v g → runOp E md o.op s h K) (hk : yai E md o.op = 0) (hs : putT s o.dst v = s') (hn : yaq E md A (k + 1) os acc s' g K) : yaq E md A k (o :: os) acc s h K := by
 subst hs
 rw [yaq, wantK, hg]
 simp only [hb]
 have e : (w == w) = true := by cases w <;> rfl
 rw [e]
 show yas (setT s t (.bool w)) _
 rw [yat, yfu hb]
 exact hop _ (by rw [if_neg (by omega), if_neg (by omega), yat]; exact hn)
theorem draw_yr {s' : List V} {t : Tmp} {w : Bool} (hg : o.gd = some (t, w)) (hb : getT s t = .bool w) (hop : ∀ K : V → Heap → Prop, K v g → runOp E md o.op s h K) (hk : yai E md o.op = 1) (hs : putT s o.dst v = s') (hn : yaq E md A (k + 1) os ((k, o.op, s, v) :: acc) s' g K) : yaq E md A k (o :: os) acc s h K := by
 subst hs
 rw [yaq, wantK, hg]
 simp only [hb]
 have e : (w == w) = true := by cases w <;> rfl
 rw [e]
 show yas (setT s t (.bool w)) _
 rw [yat, yfu hb]
 exact hop _ (by rw [if_neg (by omega), if_pos hk, yat]; exact hn)
theorem draw_n {s' : List V} {t : Tmp} {w b : Bool} (hg : o.gd = some (t, w)) (hb : getT s t = .bool b) (hw : b = !w) (hk : yai E md o.op ≠ 2) (hs : putT s o.dst und = s') (hn : yaq E md A (k + 1) os acc s' h K) : yaq E md A k (o :: os) acc s h K := by
 subst hs
 subst hw
 rw [yaq, wantK, hg]
 simp only [hb]
 have e : ((!w) == w) = false := by cases w <;> rfl
 rw [e]
 show yas (setT s t (.bool !w)) _
 rw [yat, yfu hb, if_neg hk, yat]
 exact hn
end
theorem ynb {E : Env} {md : FuncId → Mode} {A : List Nat} {p : Nat × Op × List V × V} : ∀ {qs : List (Nat × Heap)} {K K' : Prop}, wasK E md A p qs K → (K → K') → wasK E md A p qs K'
 | [], _, _, h, f => f h
 | q :: qs, _, _, h, f => by
  unfold wasK at h ⊢
  split
  ·rename_i hc; rw [if_pos hc] at h; exact ynb h f
  ·rename_i hc; rw [if_neg hc] at h; exact ⟨h.1, ynb h.2 f⟩
/-! The same for a region in which something reads behind what turns memory. -/
section
variable {E : Env} {md : FuncId → Mode} {A : List (List Nat)} {k : Nat} {o : ROp} {os : List ROp} {acc : List (Nat × Op × List V × V)} {ws : List (Nat × Heap)} {s s' : List V} {h g : Heap} {v : V} {K : List V → Heap → Prop}
theorem ync (hg : o.gd = none) (hop : ∀ K : V → Heap → Prop, K v g → runOp E md o.op s h K) (hk : yai E md o.op = 2) (hs : putT s o.dst v = s') (hn : yay E md A (k + 1) os [] ((k, h) :: ws) s' g K) : yay E md A k (o :: os) [] ws s h K := by
 subst hs
 rw [yay, wantK, hg]
 exact hop _ (by rw [if_pos hk]; show yas _ _; rw [yat]; exact hn)
theorem ynd (hg : o.gd = none) (hop : ∀ K : V → Heap → Prop, K v g → runOp E md o.op s h K) (hk : yai E md o.op = 0) (hs : putT s o.dst v = s') (hn : yay E md A (k + 1) os acc ws s' g K) : yay E md A k (o :: os) acc ws s h K := by
 subst hs
 rw [yay, wantK, hg]
 exact hop _ (by rw [if_neg (by omega), if_neg (by omega), yat]; exact hn)
theorem yne (hg : o.gd = none) (hop : ∀ K : V → Heap → Prop, K v g → runOp E md o.op s h K) (hk : yai E md o.op = 1) (hw : wasK E md (A.getD k []) (k, o.op, s, v) ws True) (hs : putT s o.dst v = s') (hn : yay E md A (k + 1) os ((k, o.op, s, v) :: acc) ws s' g K) : yay E md A k (o :: os) acc ws s h K := by
 subst hs
 rw [yay, wantK, hg]
 exact hop _ (by rw [if_neg (by omega), if_pos hk]; exact ynb hw fun _ => by rw [yat]; exact hn)
end
theorem yki {E : Env} {md : FuncId → Mode} {A : List Nat} {h : Heap} : ∀ {qs : List (Nat × Op × List V × V)} {K K' : Prop}, accK E md A h qs K → (K → K') → accK E md A h qs K'
 | [], _, _, h, f => f h
 | q :: qs, _, _, h, f => by
  unfold accK at h ⊢
  split
  ·rename_i hc; rw [if_pos hc] at h; exact yki h f
  ·rename_i hc; rw [if_neg hc] at h; exact ⟨h.1, yki h.2 f⟩
theorem yif {E : Env} {md : FuncId → Mode} {A : List Nat} {h : Heap} {i : Nat} {r : Op × List V × V} {ps : List (Nat × Op × List V × V)} {K : Prop} (ha : A.contains i = true) (hk : accK E md A h ps K) : accK E md A h ((i, r) :: ps) K := by
 unfold accK; rw [if_pos ha]; exact hk
theorem yig {E : Env} {md : FuncId → Mode} {A : List Nat} {h : Heap} {i : Nat} {r : Op × List V × V} {ps : List (Nat × Op × List V × V)} {K : Prop} (hs : StillK E md (i, r) h) (hk : accK E md A h ps K) : accK E md A h ((i, r) :: ps) K := by
 unfold accK; split
 ·exact hk
 ·exact ⟨hs, hk⟩
section
variable {E : Env} {md : FuncId → Mode} {A : List (List Nat)} {k : Nat} {o : ROp} {os : List ROp} {acc : List (Nat × Op × List V × V)} {ws : List (Nat × Heap)} {s s' : List V} {h g : Heap} {v : V} {K : List V → Heap → Prop}
theorem ynf (hg : o.gd = none) (hop : ∀ K : V → Heap → Prop, K v g → runOp E md o.op s h K) (hk : yai E md o.op = 2) (ha : accK E md (A.getD k []) g acc True) (hs : putT s o.dst v = s') (hn : yay E md A (k + 1) os acc ((k, h) :: ws) s' g K) : yay E md A k (o :: os) acc ws s h K := by
 subst hs
 rw [yay, wantK, hg]
 exact hop _ (by rw [if_pos hk]; exact yki ha fun _ => by rw [yat]; exact hn)
theorem draw_g (hg : o.gd = none) (hop : ∀ K : V → Heap → Prop, K v g → runOp E md o.op s h K) (hk : yai E md o.op = 2) (ha : accK E md (A.getD k []) g acc True) (hs : putT s o.dst v = s') (hn : yaq E md A (k + 1) os acc s' g K) : yaq E md A k (o :: os) acc s h K := by
 subst hs
 rw [yaq, wantK, hg]
 exact hop _ (by rw [if_pos hk]; exact yki ha fun _ => by rw [yat]; exact hn)
end
theorem RunP.drawn2R {E : Env} {md : FuncId → Mode} {x : Nat} {ops : Array Oper} {s : List V} {h : Heap} {Q : Ex → List V → Heap → Prop} (rs : List ROp) (hn : yei E md ops = false) (hd : yhn E md ops = true) (he : ∀ K : List ROp → Prop, ydc ops.toList ops.toList K = K rs) (hr : yay E md (ancT ops.toList []) 0 rs [] [] s h fun s' h' => Q .normal s' h') : RunP E md (.region x ops true) s h Q :=
 RunP.drawn2 hn hd (by rw [he]; exact hr)
theorem RunP.drawnR {E : Env} {md : FuncId → Mode} {x : Nat} {ops : Array Oper} {s : List V} {h : Heap} {Q : Ex → List V → Heap → Prop} (rs : List ROp) (hd : yei E md ops = true) (he : ∀ K : List ROp → Prop, ydc ops.toList ops.toList K = K rs) (hr : yaq E md (ancT ops.toList []) 0 rs [] s h fun s' h' => Q .normal s' h') : RunP E md (.region x ops true) s h Q :=
 RunP.drawn hd (by rw [he]; exact hr)
end Go.Sb
