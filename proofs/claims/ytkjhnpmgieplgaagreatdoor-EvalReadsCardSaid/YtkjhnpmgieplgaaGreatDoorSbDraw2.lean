/- One element more, and what else stands as it stood. -/
import Derived.Test.YtkjhnpmgieplgaaGreatDoorSbRow
import Derived.Test.YtkjhnpmgieplgaaGreatDoorSbOwnE
import Derived.Test.YtkjhnpmgieplgaaGreatDoorSbBytes
set_option linter.unusedVariables false
set_option linter.unusedSimpArgs false
namespace Go.Sb
theorem append_oneS {E : Env} {h : Heap} {e : Nat} {t T : TypeId} {dt d : TyD} {v x c : V} {es : List V} (ht : E.ty t = some dt) (hu : dt.u = .slice T) (hT : E.ty T = some d) (hd : d.size = e) (he : 0 < e) (hr : InRow h T e v es) (hes : ∀ v ∈ es, Elem e v) (hc : Elem e c)
    (hx : contents h e x = some (1, c.cells)) (hroom : roomy d.bytes (es.length + 1) = true) : ∃ v' h', evAppend E t v x h = some (v', h') ∧ InRow h' T e v' (es ++ [c]) ∧ h.length ≤ h'.length ∧ ∀ (i : Nat) (k : Blk), h[i]? = some k → (∀ cs, k ≠ .cells T cs) → h'[i]? = some k := by
  have hne : ¬ d.size = 0 := by omega
  rcases hr with ⟨rfl, rfl⟩ | ⟨b, rfl, hb, h0⟩
  · refine ⟨.sl h.length 0 e 1 1 (1 * e), push h (.cells T c.cells), ?_, .inr ⟨h.length, by simp, ?_, by simp⟩, by simp [push], fun i k hi _ => push_old hi⟩
    · unfold evAppend
      simp only [ht, Option.bind_some, hu, hT]
      rw [if_neg hne, hd, hx]
      simp only [Option.bind_some]
      rw [if_neg (by omega), if_pos (by simpa using hroom)]
    · simp [push]
  · have hl := elems_len hes
    have hca : cellsAt h b (es.length * e) = some (T, es.flatMap V.cells) := by simp [cellsAt, hb, hl]
    have hblt := (List.getElem?_eq_some_iff.1 hb).1
    refine ⟨.sl b 0 e (es.length + 1) (es.length + 1) ((es.length + 1) * e), h.set b (.cells T (es.flatMap V.cells ++ c.cells)), ?_, .inr ⟨b, by simp, ?_, by simp⟩, by simp, fun i k hi hk => ?_⟩
    · unfold evAppend
      simp only [ht, Option.bind_some, hu, hT]
      rw [if_neg hne, hd, hx]
      simp only [Option.bind_some]
      rw [if_neg (by simp), hca]
      simp only [Option.bind_some]
      rw [if_neg (by simp), if_neg (by omega), if_pos hroom]
      rw [List.take_of_length_le (by rw [hl]; exact Nat.le_refl _)]
      simp
    · simp [hblt]
    · rw [set_other (fun q => by subst q; rw [hb] at hi; cases hi; exact hk _ rfl)]; exact hi

theorem res_ct {E : Env} {s : List V} {h : Heap} {a t c : Nat} {v : V} (hl : evLoad E t (getT s a) h = some v) : evResults E [.cell a t, .tmp c] s h = some (.tup [v, getT s c]) := by
  simp [evResults, evResult, hl]
theorem res_ccc {E : Env} {s : List V} {h : Heap} {a b c t1 t2 t3 : Nat} {v1 v2 v3 : V} (h1 : evLoad E t1 (getT s a) h = some v1) (h2 : evLoad E t2 (getT s b) h = some v2) (h3 : evLoad E t3 (getT s c) h = some v3) : evResults E [.cell a t1, .cell b t2, .cell c t3] s h = some (.tup [v1, v2, v3]) := by
  simp [evResults, evResult, h1, h2, h3]

/-- What stood still stands. -/
def Keeps (h g : Heap) : Prop := ∀ (i : Nat) (k : Blk), h[i]? = some k → g[i]? = some k
theorem Keeps.refl (h : Heap) : Keeps h h := fun _ _ hi => hi
theorem Keeps.trans {a b c : Heap} (h1 : Keeps a b) (h2 : Keeps b c) : Keeps a c := fun i k hi => h2 i k (h1 i k hi)
theorem keeps_push (h : Heap) (b : Blk) : Keeps h (Sb.push h b) := fun _ _ hi => push_old hi
theorem Keeps.set {h g : Heap} (hk : Keeps h g) {n : Nat} (hn : h.length ≤ n) (b : Blk) : Keeps h (g.set n b) := fun i k hi => by
  have := (List.getElem?_eq_some_iff.1 hi).1
  rw [set_other (by omega)]; exact hk i k hi
theorem push_last (h : Heap) (b : Blk) : (Sb.push h b)[h.length]? = some b := by rw [push_get, if_pos rfl]

theorem map_last {E : Env} {t kt el : TypeId} {d kd : TyD} {k v : V} {h : Heap} {es es' : List (V × V)} (ht : E.ty t = some d) (hu : d.u = .map kt el) (hk : E.ty kt = some kd) (hf : keyFits kd.u k = true) (hs : setV k v es = some es') :
    evMapUpdate E t (.mp h.length) k v (Sb.push h (.map es)) = some (Sb.push h (.map es')) := by
  simp only [evMapUpdate, ht, Option.bind_some, hu, hk]
  rw [if_neg (by simp [hf]), push_last]
  simp only [hs, Option.map_some]
  simp [Sb.push]

/-- A text looked up. -/
def kvs (l : List (List UInt8 × Bool)) : List (V × V) := l.map fun p => (V.str p.1, V.bool p.2)
theorem find_kvs (s : List UInt8) : ∀ l : List (List UInt8 × Bool), (∃ b, findV (.str s) (kvs l) = some (some (.bool b)) ∧ (l.map (·.1)).contains s = true) ∨ (findV (.str s) (kvs l) = some none ∧ (l.map (·.1)).contains s = false)
  | [] => .inr ⟨rfl, rfl⟩
  | p :: l => by
    by_cases e : s = p.1
    · exact .inl ⟨p.2, by simp [kvs, findV, e], by simp [e]⟩
    · rcases find_kvs s l with ⟨b, h1, h2⟩ | ⟨h1, h2⟩
      · refine .inl ⟨b, ?_, ?_⟩
        · show findV (.str s) ((V.str p.1, V.bool p.2) :: kvs l) = _
          simp only [findV]; rw [if_neg e]; exact h1
        · rw [List.map_cons, List.contains_cons, h2]; simp
      · refine .inr ⟨?_, ?_⟩
        · show findV (.str s) ((V.str p.1, V.bool p.2) :: kvs l) = _
          simp only [findV]; rw [if_neg e]; exact h1
        · rw [List.map_cons, List.contains_cons, h2]; simp [e]
/-- The boxes of a map and of one that says whether it is there. -/
theorem lookup_kvs {E : Env} {t kt el : TypeId} {d kd y : TyD} {h : Heap} {b : Nat} {l : List (List UInt8 × Bool)} (s : List UInt8) (ht : E.ty t = some d) (hu : d.u = .map kt el) (hk : E.ty kt = some kd) (hy : E.ty el = some y) (hf : keyFits kd.u (.str s) = true) (hya : y.agg = false) (hyz : y.zero.headD .junk = .bool false) (hb : h[b]? = some (.map (kvs l))) :
    ∃ c, evLookup E t (.mp b) (.str s) true h = some (.tup [.bool c, .bool ((l.map (·.1)).contains s)]) := by
  have key : evLookup E t (.mp b) (.str s) true h = (findV (.str s) (kvs l)).bind fun r => some (match r with | some v => V.tup [v, .bool true] | none => .tup [.bool false, .bool false]) := by
    simp only [evLookup, ht, Option.bind_some, hu, hy, hk]
    rw [if_neg (by simp [hf]), hb]
    simp only [Option.bind_some, hya, hyz]
    cases findV (.str s) (kvs l) with
    | none => rfl
    | some r => cases r <;> simp
  rcases find_kvs s l with ⟨c, h1, h2⟩ | ⟨h1, h2⟩
  · exact ⟨c, by rw [key, h1, h2]; rfl⟩
  · exact ⟨false, by rw [key, h1, h2]; rfl⟩
end Go.Sb
namespace Go.Sb
theorem set_kvs (s : List UInt8) (b : Bool) : ∀ l : List (List UInt8 × Bool), s ∉ l.map (·.1) → setV (.str s) (.bool b) (kvs l) = some (kvs (l ++ [(s, b)]))
  | [], _ => rfl
  | p :: l, h => by
    have ih := set_kvs s b l (fun q => h (by simp only [List.map_cons]; exact List.mem_cons_of_mem _ q))
    show setV (.str s) (.bool b) ((V.str p.1, V.bool p.2) :: kvs l) = _
    simp only [setV]
    rw [if_neg (fun e => h (by simp [e])), ih]; rfl
theorem map_lastS {E : Env} {t kt el : TypeId} {d kd : TyD} {s : List UInt8} {b : Bool} {h : Heap} (l : List (List UInt8 × Bool)) (ht : E.ty t = some d) (hu : d.u = .map kt el) (hk : E.ty kt = some kd) (hf : kd.u = .str) (hs : s ∉ l.map (·.1)) :
    evMapUpdate E t (.mp h.length) (.str s) (.bool b) (Sb.push h (.map (kvs l))) = some (Sb.push h (.map (kvs (l ++ [(s, b)])))) :=
  map_last ht hu hk (by rw [hf]; rfl) (set_kvs s b l hs)
end Go.Sb
namespace Go.Sb
theorem runOps_ins {E : Env} {md : FuncId → Sb.Mode} {t : TypeId} {m k v : Operand} {rest : List ROp} {s : List V} {h g : Heap} {K : List V → Heap → Prop} (he : evMapUpdate E t (opd E s m) (opd E s k) (opd E s v) h = some g) (hk : runOps E md rest s g K) : runOps E md ({ op := .insert t m k v, dst := none, gd := none } :: rest) s h K := by
  have : evOp E md noCall (.insert t m k v) s h = some (.val und g) := by
    show unitH (evMapUpdate E t (opd E s m) (opd E s k) (opd E s v) h) = _
    rw [he]; rfl
  show bindR (evOp E md noCall (.insert t m k v) s h) fun v g => forceL (putT s none v) fun s' => runOps E md rest s' g K
  rw [this]
  show forceL (putT s none und) fun s' => runOps E md rest s' g K
  rw [forceL_iff]; exact hk
end Go.Sb
namespace Go.Sb
theorem RunP.regionR {E : Env} {md : FuncId → Sb.Mode} {x : Nat} {ops : Array Oper} {s : List V} {h : Heap} {Q : Ex → List V → Heap → Prop} (rs : List ROp) (he : ∀ K : List ROp → Prop, resolveK ops.toList ops.toList K = K rs) (hr : runOps E md rs s h fun s' h' => Q .normal s' h') : RunP E md (.region x ops false) s h Q :=
  RunP.region (by rw [he]; exact hr)
theorem runOps_mk {E : Env} {md : FuncId → Sb.Mode} {t kt el : TypeId} {ty : TyD} {d : Nat} {rest : List ROp} {s : List V} {h : Heap} {K : List V → Heap → Prop} (ht : E.ty t = some ty) (hu : ty.u = .map kt el) (hk : runOps E md rest (setT s d (.mp h.length)) (push h (.map [])) K) : runOps E md ({ op := .makeMap t none, dst := some d, gd := none } :: rest) s h K := by
  have : evOp E md noCall (.makeMap t none) s h = some (.val (.mp h.length) (push h (.map []))) := by
    show ((E.ty t).bind fun d => match d.u with | .map _ _ => some (OpR.val (.mp h.length) (push h (.map []))) | _ => none) = _
    rw [ht]; simp only [Option.bind_some, hu]
  show bindR (evOp E md noCall (.makeMap t none) s h) fun v g => forceL (putT s (some d) v) fun s' => runOps E md rest s' g K
  rw [this]
  show forceL (putT s (some d) (.mp h.length)) fun s' => runOps E md rest s' (push h (.map [])) K
  rw [forceL_iff]; exact hk
end Go.Sb
namespace Go.Sb
/-- More elements, and what else stands as it stood. -/
theorem append_rowS {E : Env} {h : Heap} {e k : Nat} {t T : TypeId} {dt d : TyD} {v x : V} {es es' : List V} (ht : E.ty t = some dt) (hu : dt.u = .slice T) (hT : E.ty T = some d) (hd : d.size = e) (he : 0 < e) (hr : InRow h T e v es) (hl : (es.flatMap V.cells).length = es.length * e)
    (hx : Sb.contents h e x = some (k, es'.flatMap V.cells)) (hk : k = es'.length) (hroom : roomy d.bytes (es.length + k) = true) : ∃ v' h', evAppend E t v x h = some (v', h') ∧ InRow h' T e v' (es ++ es') ∧ h.length ≤ h'.length ∧ ∀ (i : Nat) (k : Blk), h[i]? = some k → (∀ cs, k ≠ .cells T cs) → h'[i]? = some k := by
  have hne : ¬ d.size = 0 := by omega
  rcases hr with ⟨rfl, rfl⟩ | ⟨b, rfl, hb, h0⟩
  · obtain ⟨a1, a2⟩ := append_fresh (s := .nils) ht hu hT hd he (.inl rfl) hx
    by_cases hk0 : k = 0
    · refine ⟨.nils, h, a1 hk0, .inl ⟨rfl, ?_⟩, Nat.le_refl _, fun i k hi _ => hi⟩
      simp; exact List.length_eq_zero_iff.1 (by omega)
    · refine ⟨_, _, a2 hk0 (by simpa using hroom), .inr ⟨h.length, by simp [hk], by simp [Sb.push], ?_⟩, by simp [Sb.push], fun i k hi _ => push_old hi⟩
      intro hh; simp at hh; subst hh; simp at hk; omega
  · have hca : cellsAt h b (es.length * e) = some (T, es.flatMap V.cells) := cellsAt_at' hb hl
    have hblt := (List.getElem?_eq_some_iff.1 hb).1
    have hpos : 0 < es.length := by cases es with | nil => exact absurd rfl h0 | cons a l => simp
    by_cases hk0 : k = 0
    · have hes' : es' = [] := List.length_eq_zero_iff.1 (by omega)
      subst hes'
      refine ⟨.sl b 0 e es.length es.length (es.length * e), h.set b (.cells T (es.flatMap V.cells)), ?_, .inr ⟨b, by simp, by simp [hblt], by simpa using h0⟩, by simp, fun i k hi hU => ?_⟩
      · unfold evAppend
        simp only [ht, Option.bind_some, hu, hT]
        rw [if_neg hne, hd, hx]
        simp only [Option.bind_some]
        rw [if_neg (by simp), hca]
        simp only [Option.bind_some]
        rw [if_neg (by simp), if_pos (by omega), hk0]
        simp [splice, hl]
      · by_cases e : i = b
        · subst e; rw [hb] at hi; cases hi; exact absurd rfl (hU _)
        · rw [set_other e]; exact hi
    · refine ⟨.sl b 0 e (es.length + k) (es.length + k) ((es.length + k) * e), h.set b (.cells T (es.flatMap V.cells ++ es'.flatMap V.cells)), ?_, .inr ⟨b, by simp [hk], by simp [hblt], by simp [h0]⟩, by simp, fun i k hi hU => ?_⟩
      · unfold evAppend
        simp only [ht, Option.bind_some, hu, hT]
        rw [if_neg hne, hd, hx]
        simp only [Option.bind_some]
        rw [if_neg (by simp), hca]
        simp only [Option.bind_some]
        rw [if_neg (by simp), if_neg (by omega), if_pos hroom]
        rw [List.take_of_length_le (by rw [hl]; exact Nat.le_refl _)]
        simp
      · by_cases e : i = b
        · subst e; rw [hb] at hi; cases hi; exact absurd rfl (hU _)
        · rw [set_other e]; exact hi


def KeepT (T : TypeId) (h g : Heap) : Prop := ∀ (i : Nat) (k : Blk), h[i]? = some k → (∀ cs, k ≠ .cells T cs) → g[i]? = some k
theorem Keeps.toT {T : TypeId} {h g : Heap} (hk : Keeps h g) : KeepT T h g := fun i k hi _ => hk i k hi
theorem KeepT.trans {T : TypeId} {a b c : Heap} (h1 : KeepT T a b) (h2 : KeepT T b c) : KeepT T a c := fun i k hi hn => h2 i k (h1 i k hi hn) hn
theorem KeepT.refl (T : TypeId) (h : Heap) : KeepT T h h := fun _ _ hi _ => hi
theorem KeepT.set {T : TypeId} {h g : Heap} (hk : KeepT T h g) {n : Nat} (hn : h.length ≤ n) (b : Blk) : KeepT T h (g.set n b) := fun i k hi hne => by
  have := (List.getElem?_eq_some_iff.1 hi).1
  rw [set_other (by omega)]; exact hk i k hi hne
end Go.Sb
namespace Go.Sb
theorem app_byteS {E : Env} {h : Heap} {t T : TypeId} {dt d : TyD} {v : V} {bs : List UInt8} {K : V → Heap → Prop} (ht : E.ty t = some dt) (hu : dt.u = .slice T) (hT : E.ty T = some d) (hd : d.size = 1) (hb : d.bytes = 1) (hr : InRow h T 1 v (bv bs)) (c : UInt8) (hl : bs.length ≤ 2 ^ 40)
    (hk : ∀ v' g, InRow g T 1 v' (bv (bs ++ [c])) → KeepT T h g → K v' g) :
    bindR (valH (evAppend E t v (.sl h.length 0 1 1 1 1) (push h (.cells T [.int .u8 c.toNat])))) K := by
  obtain ⟨v', g, a1, a2, a3, a4⟩ := append_rowS (E := E) (t := t) (T := T) (e := 1) (es' := bv [c]) (k := 1) ht hu hT hd (by omega) (hr.push (.cells T [.int .u8 c.toNat])) (by rw [bv_cells]; simp) (by rw [bv_cells]; exact contents_last (n := 1) h T [.int .u8 c.toNat] rfl) rfl
    (by rw [hb]; simp [roomy, bv_len]; omega)
  rw [a1]
  refine hk v' g ?_ (fun i k hi hne => a4 i k (push_old hi) hne)
  have : bv bs ++ bv [c] = bv (bs ++ [c]) := by simp [bv]
  rw [← this]; exact a2
end Go.Sb
namespace Go.Sb
theorem drawS {E : Env} {md : FuncId → Sb.Mode} {c : Prop} [Decidable c] {A : List Nat} {h : Heap} {acc : List (Nat × Op × List V × V)} {K B : Prop} (h1 : c) (hk : accK E md A h acc K) : if c then accK E md A h acc K else B := by
  rw [if_pos h1]; exact hk
theorem acc_nil {E : Env} {md : FuncId → Sb.Mode} {A : List Nat} {h : Heap} {K : Prop} (hk : K) : accK E md A h [] K := hk
theorem acc_yes {E : Env} {md : FuncId → Sb.Mode} {A : List Nat} {h : Heap} {p : Nat × Op × List V × V} {ps : List (Nat × Op × List V × V)} {K : Prop} (ha : A.contains p.1 = true) (hk : accK E md A h ps K) : accK E md A h (p :: ps) K := by
  unfold accK; rw [if_pos ha]; exact hk
theorem acc_read {E : Env} {md : FuncId → Sb.Mode} {A : List Nat} {h : Heap} {p : Nat × Op × List V × V} {ps : List (Nat × Op × List V × V)} {K : Prop} (hs : StillK E md p h) (hk : accK E md A h ps K) : accK E md A h (p :: ps) K := by
  unfold accK; split
  · exact hk
  · exact ⟨hs, hk⟩
end Go.Sb

/- A region whose order is drawn, in which something reads behind what turns memory. -/

namespace Go.Sb

/-- What reads has read the same ahead of what turned memory. -/
def wasK (E : Env) (md : FuncId → Mode) (A : List Nat) (p : Nat × Op × List V × V) : List (Nat × Heap) → Prop → Prop
  | [], K => K
  | q :: qs, K => if A.contains q.1 = true then wasK E md A p qs K else StillK E md p q.2 ∧ wasK E md A p qs K

theorem wasK_to {E : Env} {md : FuncId → Mode} {A : List Nat} {p : Nat × Op × List V × V} : ∀ {qs : List (Nat × Heap)} {K : Prop}, wasK E md A p qs K → K ∧ Evt fun n => qs.all (fun q => A.contains q.1 || stillV E md (callN E n) p q.2) = true
  | [], K, hk => ⟨hk, .all fun n => rfl⟩
  | q :: qs, K, hk => by
    unfold wasK at hk
    split at hk
    · rename_i hc
      obtain ⟨h1, h2⟩ := wasK_to hk
      exact ⟨h1, h2.imp fun n e => by simp only [List.all_cons, hc, Bool.true_or, Bool.true_and]; exact e⟩
    · obtain ⟨⟨g, hs⟩, hk⟩ := hk
      obtain ⟨h1, h2⟩ := wasK_to hk
      exact ⟨h1, hs.and h2 fun n e1 e2 => by
        have e3 : stillV E md (callN E n) p q.2 = true := by simp [stillV, e1]
        simp only [List.all_cons, e3, Bool.or_true, Bool.true_and]; exact e2⟩
theorem was_nil {E : Env} {md : FuncId → Mode} {A : List Nat} {p : Nat × Op × List V × V} {K : Prop} (hk : K) : wasK E md A p [] K := hk
theorem was_yes {E : Env} {md : FuncId → Mode} {A : List Nat} {p : Nat × Op × List V × V} {i : Nat} {g : Heap} {qs : List (Nat × Heap)} {K : Prop} (ha : A.contains i = true) (hk : wasK E md A p qs K) : wasK E md A p ((i, g) :: qs) K := by
  unfold wasK; rw [if_pos ha]; exact hk
theorem was_read {E : Env} {md : FuncId → Mode} {A : List Nat} {p : Nat × Op × List V × V} {i : Nat} {g : Heap} {qs : List (Nat × Heap)} {K : Prop} (hs : StillK E md p g) (hk : wasK E md A p qs K) : wasK E md A p ((i, g) :: qs) K := by
  unfold wasK; split
  · exact hk
  · exact ⟨hs, hk⟩

def runDraw2 (E : Env) (md : FuncId → Mode) (A : List (List Nat)) : Nat → List ROp → List (Nat × Op × List V × V) → List (Nat × Heap) → List V → Heap → (List V → Heap → Prop) → Prop
  | _, [], _, _, s, h, K => K s h
  | k, o :: os, acc, ws, s, h, K => wantK s o
      (fun s => runOp E md o.op s h fun v g =>
        if opKind E md o.op = 2 then accK E md (A.getD k []) g acc (forceL (putT s o.dst v) fun s' => runDraw2 E md A (k + 1) os acc ((k, h) :: ws) s' g K)
        else if opKind E md o.op = 1 then wasK E md (A.getD k []) (k, o.op, s, v) ws (forceL (putT s o.dst v) fun s' => runDraw2 E md A (k + 1) os ((k, o.op, s, v) :: acc) ws s' g K)
        else forceL (putT s o.dst v) fun s' => runDraw2 E md A (k + 1) os acc ws s' g K)
      (fun s => if opKind E md o.op = 2 then accK E md (A.getD k []) h acc (forceL (putT s o.dst und) fun s' => runDraw2 E md A (k + 1) os acc ((k, h) :: ws) s' h K)
        else forceL (putT s o.dst und) fun s' => runDraw2 E md A (k + 1) os acc ws s' h K)

theorem runDraw2_ok {E : Env} {md : FuncId → Mode} {A : List (List Nat)} {all : List Oper} : ∀ {os : List Oper} {rs : List ROp} {k : Nat} {acc : List (Nat × Op × List V × V)} {ws : List (Nat × Heap)} {s : List V} {h : Heap} {K : List V → Heap → Prop}, ResolvesL all os rs → runDraw2 E md A k rs acc ws s h K →
    ∃ s' g, K s' g ∧ Evt fun n => evDraw2 E md (callN E n) A all k os acc ws s h = some (.normal, s', g)
  | [], [], k, acc, ws, s, h, K, _, hr => ⟨s, h, hr, .all fun n => rfl⟩
  | o :: os, r :: rs, k, acc, ws, s, h, K, hR, hr => by
    obtain ⟨hR1, hR2⟩ := hR
    have e1 := hR1.1
    have e2 := hR1.2.1
    rcases wantK_to hR1 hr with ⟨hw, hr⟩ | ⟨hw, hr⟩
    · rw [e1, e2] at hr
      obtain ⟨v, g, h1, h2⟩ := runOp_ok hr
      split at h1
      · rename_i hk
        obtain ⟨h1, h3⟩ := accK_to h1
        rw [forceL_iff] at h1
        obtain ⟨s', g', k1, k2⟩ := runDraw2_ok hR2 h1
        exact ⟨s', g', k1, (h2.and h3 fun n e1 e2 => And.intro e1 e2).and k2 fun n e1 e2 => by
          simp only [evDraw2, hw, Option.bind_some, if_true, e1.1, hk, e1.2]; exact e2⟩
      · rename_i hk
        split at h1
        · rename_i hk1
          obtain ⟨h1, h3⟩ := wasK_to h1
          rw [forceL_iff] at h1
          obtain ⟨s', g', k1, k2⟩ := runDraw2_ok hR2 h1
          exact ⟨s', g', k1, (h2.and h3 fun n e1 e2 => And.intro e1 e2).and k2 fun n e1 e2 => by
            simp only [evDraw2, hw, Option.bind_some, if_true, e1.1, hk1]
            rw [if_neg (by decide), if_pos ⟨trivial, trivial⟩, if_pos e1.2]; exact e2⟩
        · rename_i hk1
          rw [forceL_iff] at h1
          obtain ⟨s', g', k1, k2⟩ := runDraw2_ok hR2 h1
          exact ⟨s', g', k1, h2.and k2 fun n e1 e2 => by
            simp only [evDraw2, hw, Option.bind_some, if_true, e1, hk, hk1, if_false, false_and]; exact e2⟩
    · rw [e1, e2] at hr
      split at hr
      · rename_i hk
        obtain ⟨h1, h3⟩ := accK_to hr
        rw [forceL_iff] at h1
        obtain ⟨s', g', k1, k2⟩ := runDraw2_ok hR2 h1
        exact ⟨s', g', k1, h3.and k2 fun n e1 e2 => by
          simp only [evDraw2, hw, Option.bind_some, hk, if_true, Bool.false_eq_true, if_false, e1]
          exact e2⟩
      · rename_i hk
        rw [forceL_iff] at hr
        obtain ⟨s', g', k1, k2⟩ := runDraw2_ok hR2 hr
        exact ⟨s', g', k1, k2.imp fun n e2 => by
          simp only [evDraw2, hw, Option.bind_some, hk, if_false]
          simpa using e2⟩
  | [], _ :: _, _, _, _, _, _, _, hR, _ => hR.elim
  | _ :: _, [], _, _, _, _, _, _, hR, _ => hR.elim

section
variable {E : Env} {md : FuncId → Mode} {s : List V} {h : Heap} {Q : Ex → List V → Heap → Prop}
theorem RunP.drawn2 {x : Nat} {ops : Array Oper} (hn : drawOk E md ops = false) (hd : drawOk2 E md ops = true) (hr : resolveK ops.toList ops.toList fun rs => runDraw2 E md (ancT ops.toList []) 0 rs [] [] s h fun s' h' => Q .normal s' h') : RunP E md (.region x ops true) s h Q := by
  obtain ⟨rs, h1, h2⟩ := resolveK_to hr
  obtain ⟨s', g, k1, k2⟩ := runDraw2_ok h1 h2
  exact ⟨_, s', g, k1, k2.imp fun n e => by unfold evCode; rw [if_pos rfl, if_neg (by simp [hn]), if_pos hd]; exact e⟩
end

/-! A region, an operation at a time: nothing is compared but the operation itself. -/
section
variable {E : Env} {md : FuncId → Mode} {A : List (List Nat)} {k : Nat} {o : ROp} {os : List ROp} {acc : List (Nat × Op × List V × V)} {s : List V} {h g : Heap} {v : V} {K : List V → Heap → Prop}
theorem draw_z (hg : o.gd = none) (hop : ∀ K : V → Heap → Prop, K v g → runOp E md o.op s h K) (hk : opKind E md o.op = 0) (hn : runDraw E md A (k + 1) os acc (putT s o.dst v) g K) : runDraw E md A k (o :: os) acc s h K := by
  rw [runDraw, wantK, hg]
  exact hop _ (by rw [if_neg (by omega), if_neg (by omega), forceL_iff]; exact hn)
theorem draw_r (hg : o.gd = none) (hop : ∀ K : V → Heap → Prop, K v g → runOp E md o.op s h K) (hk : opKind E md o.op = 1) (hn : runDraw E md A (k + 1) os ((k, o.op, s, v) :: acc) (putT s o.dst v) g K) : runDraw E md A k (o :: os) acc s h K := by
  rw [runDraw, wantK, hg]
  exact hop _ (by rw [if_neg (by omega), if_pos hk, forceL_iff]; exact hn)
theorem ops_s (hg : o.gd = none) (hop : ∀ K : V → Heap → Prop, K v g → runOp E md o.op s h K) (hn : runOps E md os (putT s o.dst v) g K) : runOps E md (o :: os) s h K := by
  rw [runOps, wantK, hg]
  exact hop _ (by rw [forceL_iff]; exact hn)
/-- A guarded operation that is run; one that is not. -/
theorem ops_y {t : Tmp} {w : Bool} (hg : o.gd = some (t, w)) (hb : getT s t = .bool w) (hop : ∀ K : V → Heap → Prop, K v g → runOp E md o.op s h K) (hn : runOps E md os (putT s o.dst v) g K) : runOps E md (o :: os) s h K := by
  rw [runOps, wantK, hg]
  simp only [hb]
  have e : (w == w) = true := by cases w <;> rfl
  rw [e]
  show forceL (setT s t (.bool w)) _
  rw [forceL_iff, setT_bool hb]
  exact hop _ (by rw [forceL_iff]; exact hn)
theorem ops_n {t : Tmp} {w b : Bool} (hg : o.gd = some (t, w)) (hb : getT s t = .bool b) (hw : b = !w) (hn : runOps E md os (putT s o.dst und) h K) : runOps E md (o :: os) s h K := by
  subst hw
  rw [runOps, wantK, hg]
  simp only [hb]
  have e : ((!w) == w) = false := by cases w <;> rfl
  rw [e]
  show forceL (setT s t (.bool !w)) _
  rw [forceL_iff, setT_bool hb, forceL_iff]
  exact hn
theorem ops_u {t : Tmp} {w : Bool} (hg : o.gd = some (t, w)) (hb : getT s t = .tup []) (hn : runOps E md os (putT s o.dst und) h K) : runOps E md (o :: os) s h K := by
  rw [runOps, wantK, hg]
  simp only [hb]
  rw [forceL_iff]; exact hn
/-! The same, the slots written anew. -/
theorem ops_sl {s' : List V} (hg : o.gd = none) (hop : ∀ K : V → Heap → Prop, K v g → runOp E md o.op s h K) (hs : putT s o.dst v = s') (hn : runOps E md os s' g K) : runOps E md (o :: os) s h K := ops_s hg hop (by rw [hs]; exact hn)
theorem ops_yl {s' : List V} {t : Tmp} {w : Bool} (hg : o.gd = some (t, w)) (hb : getT s t = .bool w) (hop : ∀ K : V → Heap → Prop, K v g → runOp E md o.op s h K) (hs : putT s o.dst v = s') (hn : runOps E md os s' g K) : runOps E md (o :: os) s h K := ops_y hg hb hop (by rw [hs]; exact hn)
theorem ops_nl {s' : List V} {t : Tmp} {w b : Bool} (hg : o.gd = some (t, w)) (hb : getT s t = .bool b) (hw : b = !w) (hs : putT s o.dst und = s') (hn : runOps E md os s' h K) : runOps E md (o :: os) s h K := ops_n hg hb hw (by rw [hs]; exact hn)
theorem ops_ul {s' : List V} {t : Tmp} {w : Bool} (hg : o.gd = some (t, w)) (hb : getT s t = .tup []) (hs : putT s o.dst und = s') (hn : runOps E md os s' h K) : runOps E md (o :: os) s h K := ops_u hg hb (by rw [hs]; exact hn)
theorem draw_zl {s' : List V} (hg : o.gd = none) (hop : ∀ K : V → Heap → Prop, K v g → runOp E md o.op s h K) (hk : opKind E md o.op = 0) (hs : putT s o.dst v = s') (hn : runDraw E md A (k + 1) os acc s' g K) : runDraw E md A k (o :: os) acc s h K := draw_z hg hop hk (by rw [hs]; exact hn)
theorem draw_rl {s' : List V} (hg : o.gd = none) (hop : ∀ K : V → Heap → Prop, K v g → runOp E md o.op s h K) (hk : opKind E md o.op = 1) (hs : putT s o.dst v = s') (hn : runDraw E md A (k + 1) os ((k, o.op, s, v) :: acc) s' g K) : runDraw E md A k (o :: os) acc s h K := draw_r hg hop hk (by rw [hs]; exact hn)
/-! The same, guarded, where the order is drawn. -/
theorem draw_yz {s' : List V} {t : Tmp} {w : Bool} (hg : o.gd = some (t, w)) (hb : getT s t = .bool w) (hop : ∀ K : V → Heap → Prop, K v g → runOp E md o.op s h K) (hk : opKind E md o.op = 0) (hs : putT s o.dst v = s') (hn : runDraw E md A (k + 1) os acc s' g K) : runDraw E md A k (o :: os) acc s h K := by
  subst hs
  rw [runDraw, wantK, hg]
  simp only [hb]
  have e : (w == w) = true := by cases w <;> rfl
  rw [e]
  show forceL (setT s t (.bool w)) _
  rw [forceL_iff, setT_bool hb]
  exact hop _ (by rw [if_neg (by omega), if_neg (by omega), forceL_iff]; exact hn)
theorem draw_yr {s' : List V} {t : Tmp} {w : Bool} (hg : o.gd = some (t, w)) (hb : getT s t = .bool w) (hop : ∀ K : V → Heap → Prop, K v g → runOp E md o.op s h K) (hk : opKind E md o.op = 1) (hs : putT s o.dst v = s') (hn : runDraw E md A (k + 1) os ((k, o.op, s, v) :: acc) s' g K) : runDraw E md A k (o :: os) acc s h K := by
  subst hs
  rw [runDraw, wantK, hg]
  simp only [hb]
  have e : (w == w) = true := by cases w <;> rfl
  rw [e]
  show forceL (setT s t (.bool w)) _
  rw [forceL_iff, setT_bool hb]
  exact hop _ (by rw [if_neg (by omega), if_pos hk, forceL_iff]; exact hn)
theorem draw_n {s' : List V} {t : Tmp} {w b : Bool} (hg : o.gd = some (t, w)) (hb : getT s t = .bool b) (hw : b = !w) (hk : opKind E md o.op ≠ 2) (hs : putT s o.dst und = s') (hn : runDraw E md A (k + 1) os acc s' h K) : runDraw E md A k (o :: os) acc s h K := by
  subst hs
  subst hw
  rw [runDraw, wantK, hg]
  simp only [hb]
  have e : ((!w) == w) = false := by cases w <;> rfl
  rw [e]
  show forceL (setT s t (.bool !w)) _
  rw [forceL_iff, setT_bool hb, if_neg hk, forceL_iff]
  exact hn
theorem cmpK {P : Prop} [Decidable P] {K : V → Heap → Prop} {g : Heap} (hK : K (.bool (decide P)) g) : (P → K (.bool true) g) ∧ (¬ P → K (.bool false) g) :=
  ⟨fun h => by rwa [decide_eq_true h] at hK, fun h => by rwa [decide_eq_false h] at hK⟩
end
theorem wasK_mono {E : Env} {md : FuncId → Mode} {A : List Nat} {p : Nat × Op × List V × V} : ∀ {qs : List (Nat × Heap)} {K K' : Prop}, wasK E md A p qs K → (K → K') → wasK E md A p qs K'
  | [], _, _, h, f => f h
  | q :: qs, _, _, h, f => by
    unfold wasK at h ⊢
    split
    · rename_i hc; rw [if_pos hc] at h; exact wasK_mono h f
    · rename_i hc; rw [if_neg hc] at h; exact ⟨h.1, wasK_mono h.2 f⟩
/-! The same for a region in which something reads behind what turns memory. -/
section
variable {E : Env} {md : FuncId → Mode} {A : List (List Nat)} {k : Nat} {o : ROp} {os : List ROp} {acc : List (Nat × Op × List V × V)} {ws : List (Nat × Heap)} {s s' : List V} {h g : Heap} {v : V} {K : List V → Heap → Prop}
/-- What turns memory, ahead of all that reads. -/
theorem draw2_w (hg : o.gd = none) (hop : ∀ K : V → Heap → Prop, K v g → runOp E md o.op s h K) (hk : opKind E md o.op = 2) (hs : putT s o.dst v = s') (hn : runDraw2 E md A (k + 1) os [] ((k, h) :: ws) s' g K) : runDraw2 E md A k (o :: os) [] ws s h K := by
  subst hs
  rw [runDraw2, wantK, hg]
  exact hop _ (by rw [if_pos hk]; show forceL _ _; rw [forceL_iff]; exact hn)
theorem draw2_z (hg : o.gd = none) (hop : ∀ K : V → Heap → Prop, K v g → runOp E md o.op s h K) (hk : opKind E md o.op = 0) (hs : putT s o.dst v = s') (hn : runDraw2 E md A (k + 1) os acc ws s' g K) : runDraw2 E md A k (o :: os) acc ws s h K := by
  subst hs
  rw [runDraw2, wantK, hg]
  exact hop _ (by rw [if_neg (by omega), if_neg (by omega), forceL_iff]; exact hn)
theorem draw2_r (hg : o.gd = none) (hop : ∀ K : V → Heap → Prop, K v g → runOp E md o.op s h K) (hk : opKind E md o.op = 1) (hw : wasK E md (A.getD k []) (k, o.op, s, v) ws True) (hs : putT s o.dst v = s') (hn : runDraw2 E md A (k + 1) os ((k, o.op, s, v) :: acc) ws s' g K) : runDraw2 E md A k (o :: os) acc ws s h K := by
  subst hs
  rw [runDraw2, wantK, hg]
  exact hop _ (by rw [if_neg (by omega), if_pos hk]; exact wasK_mono hw fun _ => by rw [forceL_iff]; exact hn)
end
theorem accK_mono {E : Env} {md : FuncId → Mode} {A : List Nat} {h : Heap} : ∀ {qs : List (Nat × Op × List V × V)} {K K' : Prop}, accK E md A h qs K → (K → K') → accK E md A h qs K'
  | [], _, _, h, f => f h
  | q :: qs, _, _, h, f => by
    unfold accK at h ⊢
    split
    · rename_i hc; rw [if_pos hc] at h; exact accK_mono h f
    · rename_i hc; rw [if_neg hc] at h; exact ⟨h.1, accK_mono h.2 f⟩
theorem acc_bound {E : Env} {md : FuncId → Mode} {A : List Nat} {h : Heap} {i : Nat} {r : Op × List V × V} {ps : List (Nat × Op × List V × V)} {K : Prop} (ha : A.contains i = true) (hk : accK E md A h ps K) : accK E md A h ((i, r) :: ps) K := by
  unfold accK; rw [if_pos ha]; exact hk
theorem acc_still {E : Env} {md : FuncId → Mode} {A : List Nat} {h : Heap} {i : Nat} {r : Op × List V × V} {ps : List (Nat × Op × List V × V)} {K : Prop} (hs : StillK E md (i, r) h) (hk : accK E md A h ps K) : accK E md A h ((i, r) :: ps) K := by
  unfold accK; split
  · exact hk
  · exact ⟨hs, hk⟩
section
variable {E : Env} {md : FuncId → Mode} {A : List (List Nat)} {k : Nat} {o : ROp} {os : List ROp} {acc : List (Nat × Op × List V × V)} {ws : List (Nat × Heap)} {s s' : List V} {h g : Heap} {v : V} {K : List V → Heap → Prop}
theorem draw_g (hg : o.gd = none) (hop : ∀ K : V → Heap → Prop, K v g → runOp E md o.op s h K) (hk : opKind E md o.op = 2) (ha : accK E md (A.getD k []) g acc True) (hs : putT s o.dst v = s') (hn : runDraw E md A (k + 1) os acc s' g K) : runDraw E md A k (o :: os) acc s h K := by
  subst hs
  rw [runDraw, wantK, hg]
  exact hop _ (by rw [if_pos hk]; exact accK_mono ha fun _ => by rw [forceL_iff]; exact hn)
end
theorem RunP.drawn2R {E : Env} {md : FuncId → Mode} {x : Nat} {ops : Array Oper} {s : List V} {h : Heap} {Q : Ex → List V → Heap → Prop} (rs : List ROp) (hn : drawOk E md ops = false) (hd : drawOk2 E md ops = true) (he : ∀ K : List ROp → Prop, resolveK ops.toList ops.toList K = K rs) (hr : runDraw2 E md (ancT ops.toList []) 0 rs [] [] s h fun s' h' => Q .normal s' h') : RunP E md (.region x ops true) s h Q :=
  RunP.drawn2 hn hd (by rw [he]; exact hr)
theorem RunP.drawnR {E : Env} {md : FuncId → Mode} {x : Nat} {ops : Array Oper} {s : List V} {h : Heap} {Q : Ex → List V → Heap → Prop} (rs : List ROp) (hd : drawOk E md ops = true) (he : ∀ K : List ROp → Prop, resolveK ops.toList ops.toList K = K rs) (hr : runDraw E md (ancT ops.toList []) 0 rs [] s h fun s' h' => Q .normal s' h') : RunP E md (.region x ops true) s h Q :=
  RunP.drawn hd (by rw [he]; exact hr)
end Go.Sb
