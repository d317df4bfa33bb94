/- The iterator of a map, wherever it lies: 'next' hands out an entry that has not been handed out; 'entry' tells it again. -/
import Derived.Test.YtkjhnpmgieplgaaGreatDoorSbMem2
import Derived.Test.YtkjhnpmgieplgaaGreatDoorSbLib
import Derived.Test.YtkjhnpmgieplgaaGreatDoorSbOwnE
set_option linter.unusedVariables false
set_option linter.unusedSimpArgs false
namespace Go.Sb
variable {P : Program}

theorem set_iter {w : World} {r : Nat} {a : Option Nat} {b d : Nat} {s : Array Nat} (h : w.heap[r]? = some (.mapIter a b s d)) (o : Obj) : (setObj r o).run P w = .ok () { w with heap := w.heap.setIfInBounds r o } := by
  simp only [setObj, Sem.run, h]

/-- A step: nothing is left, or an entry that is left comes out, whichever the tape says. -/
theorem next_any (w : World) (ty : TypeId) {r m n : Nat} {seen : Array Nat} {xs : Array MapEntry} (hr : w.heap[r]? = some (.mapIter (some m) n seen n)) (hm : w.heap[m]? = some (.map xs n)) (hn : n = xs.size) (hb : ∀ (i : Nat) (e : MapEntry), xs[i]? = some e → e.born = i) :
    ((∀ i, i < n → i ∈ seen.toList) ∧ (Instr.next (.pointer (some ⟨r, 0, none⟩)) false ty).run P w = .ok (.tuple #[.bool false]) w) ∨
    ∃ i e, xs[i]? = some e ∧ i ∉ seen.toList ∧ ∃ w1 : World, w1.heap = w.heap ∧ (w1.os = w.os ∧ w1.tape = w.tape ∧ w1.output = w.output) ∧
      (Instr.next (.pointer (some ⟨r, 0, none⟩)) false ty).run P w = .ok (.tuple #[.bool true, e.key, e.val]) { w1 with heap := w1.heap.setIfInBounds r (.mapIter (some m) n (seen.push i) n) } := by
  have hlt : ∀ x ∈ xs.toList, x.born < n := fun x hx => by
    obtain ⟨i, hi⟩ := List.mem_iff_getElem?.1 hx
    have hi' : xs[i]? = some x := by simpa using hi
    have := hb i x hi'
    have := (Array.getElem?_eq_some_iff.1 hi').1
    omega
  have htest : (!seen.isEmpty && !xs.isEmpty && xs.all (fun x => decide (x.born ≥ n))) = false := by
    cases he : xs.isEmpty with
    | true => simp
    | false =>
      have hall : xs.all (fun x => decide (x.born ≥ n)) = false := by
        rw [Bool.eq_false_iff]
        intro h
        rw [Array.all_eq_true_iff_forall_mem] at h
        have h0 : 0 < xs.size := by
          rcases Nat.eq_zero_or_pos xs.size with h0 | h0
          · simp [Array.isEmpty, h0] at he
          · exact h0
        have h1 := h xs[0] (Array.getElem_mem h0)
        have h2 := hlt xs[0] (by simp)
        simp at h1; omega
      simp [hall]
  simp only [Instr.next, getObj, Sem.run_bind, Sem.run, hr, hm, Result.andThen, htest, Bool.false_eq_true, if_false]
  have hmem : ∀ x ∈ (Array.filter (fun e => !seen.contains e.born) xs).toList, x.born < n := fun x hx => hlt x (by simp at hx ⊢; exact hx.1)
  have hleft : ∀ x ∈ (Array.filter (fun e => !seen.contains e.born) xs).toList, x ∈ xs.toList ∧ x.born ∉ seen.toList := fun x hx => by
    simp at hx ⊢; exact hx
  have hemp : (Array.filter (fun e => !seen.contains e.born) xs).size = 0 → ∀ i, i < n → i ∈ seen.toList := fun h i hi => by
    apply Classical.byContradiction
    intro hc
    have hx : xs[i]? = some xs[i] := by simp [show i < xs.size by omega]
    have hbi := hb i _ hx
    have : xs[i] ∈ Array.filter (fun e => !seen.contains e.born) xs := by
      simp; rw [hbi]; simpa using hc
    rw [Array.eq_empty_of_size_eq_zero h] at this
    simp at this
  generalize Array.filter (fun e => !seen.contains e.born) xs = L at hmem hleft hemp ⊢
  have e1 : L.filter (fun x => decide (x.born < n)) = L := Array.filter_eq_self.2 (fun x hx => by simpa using hmem x (by simpa using hx))
  have e2 : L.filter (fun x => decide (x.born ≥ n)) = #[] := by
    rw [Array.filter_eq_empty_iff]
    intro x hx
    have := hmem x (by simpa using hx)
    simp; omega
  simp only [e1, e2, Array.append_empty]
  by_cases h0 : L.size = 0
  · left
    have : L = #[] := Array.eq_empty_of_size_eq_zero h0
    refine ⟨hemp h0, ?_⟩
    subst this
    simp [choose, Sem.run, Question.forced]
  · right
    have hne : L.isEmpty = false := by simp [Array.isEmpty, h0]
    simp only [hne, Bool.false_eq_true, if_false, Array.empty_append, Array.size_map]
    have hch : ∃ (j : Nat) (w1 : World), j < L.size ∧ w1.heap = w.heap ∧ (w1.os = w.os ∧ w1.tape = w.tape ∧ w1.output = w.output) ∧ (choose (Question.mapNext L.size)).run P w = .ok j w1 := by
      by_cases hf : L.size ≤ 1
      · exact ⟨0, w, by omega, rfl, ⟨rfl, rfl, rfl⟩, by simp [choose, Sem.run, Question.forced, hf]⟩
      · exact ⟨_, { w with drawn := w.drawn + 1 }, Nat.mod_lt _ (by omega), rfl, ⟨rfl, rfl, rfl⟩, by
          simp only [choose, Sem.run, Question.forced, decide_eq_true_eq, hf, if_false, Question.cut]
          rfl⟩
    obtain ⟨j, w1, hj, hw1, hrest, hrun⟩ := hch
    obtain ⟨hx1, hx2⟩ := hleft L[j] (by simp)
    obtain ⟨i, hi⟩ := List.mem_iff_getElem?.1 hx1
    have hi' : xs[i]? = some L[j] := by simpa using hi
    have hbi := hb i _ hi'
    rw [hbi] at hx2
    refine ⟨i, L[j], hi', hx2, w1, hw1, hrest, ?_⟩
    have hr1 : w1.heap[r]? = some (.mapIter (some m) n seen n) := by rw [hw1]; exact hr
    simp only [hrun, Array.getElem?_map, Array.getElem?_eq_getElem hj, Option.map_some, Sem.run_bind, set_iter hr1, Result.andThen, hbi]
    rfl

/-- The round's key and value. -/
theorem entry_any (w : World) {r m n i : Nat} {seen : Array Nat} {xs : Array MapEntry} {e : MapEntry} (hr : w.heap[r]? = some (.mapIter (some m) n (seen.push i) n)) (hm : w.heap[m]? = some (.map xs n)) (hb : ∀ (i : Nat) (e : MapEntry), xs[i]? = some e → e.born = i) (he : xs[i]? = some e) :
    (Instr.entry (.pointer (some ⟨r, 0, none⟩))).run P w = .ok (.tuple #[e.key, e.val]) w := by
  have hf : xs.find? (fun x => x.born == i) = some e := by
    have h1 : (xs.find? (fun x => x.born == i)).isSome = true := by
      rw [Array.find?_isSome]
      obtain ⟨hlt, hx⟩ := Array.getElem?_eq_some_iff.1 he
      exact ⟨e, by rw [← hx]; exact Array.getElem_mem hlt, by rw [hb i e he]; simp⟩
    obtain ⟨y, hy⟩ := Option.isSome_iff_exists.1 h1
    have hp := Array.find?_some hy
    have hmem := Array.mem_of_find?_eq_some hy
    obtain ⟨j, hj, hjy⟩ := Array.mem_iff_getElem.1 hmem
    have hj' : xs[j]? = some y := by rw [Array.getElem?_eq_getElem hj, hjy]
    have hbj := hb j y hj'
    have hji : j = i := by have : y.born = i := by simpa using hp
                           omega
    subst hji
    rw [hj'] at he
    rw [hy, he]
  simp only [Instr.entry, getObj, Sem.run_bind, Sem.run, hr, hm, Result.andThen, Array.back?_push, bne_self_eq_false, Bool.false_eq_true, if_false, hf]
  rfl
end Go.Sb

/- Code run by what holds of the machine itself: for a loop over a map, whose order the tape draws. -/

namespace Go.Sb
section
variable {P : Program} {E : Env}

/-- Frames without deferred calls. -/
def D0 : DPred := exactD []

/-- From whatever of the machine's stands for (s, h), the code comes to an end of which Q says something. -/
def WpV (P : Program) (E : Env) (c : Code) (s : List V) (h : Heap) (Q : Ex → List V → Heap → Prop) : Prop :=
  ∀ (cx : Cx) (a : Act) (fk : Nat) (Qm : Exit → Act → World → Prop), Rel E cx → cx.h = h → FrOk D0 cx s a → (∀ e s' h', Q e s' h' → PostOk D0 E cx Qm e s' h') → c.wpIn (Fo none) fk P Qm a cx.w

theorem WpV.of (hE : EnvOk P E) {md : FuncId → Mode} {c : Code} {s : List V} {h : Heap} {Q : Ex → List V → Heap → Prop} (hp : plainC c = true) (hr : RunP E md c s h Q) : WpV P E c s h Q := by
  intro cx a fk Qm hR hh hF hP
  obtain ⟨e, s', g, hq, N, hN⟩ := hr.ok
  exact code_sound (ro := none) hE (callN_ok hE N) N c Qm cx s a e s' g (.inl hp) hR hF (by rw [hh]; exact hN N (Nat.le_refl _)) (hP e s' g hq)

theorem WpV.seq {x y : Code} {s : List V} {h : Heap} {Q : Ex → List V → Heap → Prop} (h1 : WpV P E x s h (seqK (fun s' h' => WpV P E y s' h' Q) Q)) : WpV P E (.seq x y) s h Q := by
  intro cx a fk Qm hR hh hF hP
  refine wpIn_seq (h1 cx a fk _ hR hh hF ?_)
  intro e s' h' hq c' a' hx hR' hh' hF'
  cases e with
  | normal => exact hq c' a' fk Qm hR' hh' hF' fun e s'' h'' q => (hP e s'' h'' q).ext hx
  | exit i => exact hP _ _ _ hq c' a' hx hR' hh' hF'
  | ret => exact hP _ _ _ hq c' a' hx hR' hh' hF'
  | panic v => exact hP _ _ _ hq c' a' hx hR' hh' hF'

theorem WpV.cond {md : FuncId → Mode} {cc : Operand} {x y : Code} {s : List V} {h : Heap} {Q : Ex → List V → Heap → Prop} {t : Bool} (hc : opd E s cc = .bool t) (hx : t = true → WpV P E x s h Q) (hy : t = false → WpV P E y s h Q) : WpV P E (.cond cc x y) s h Q := by
  intro cx a fk Qm hR hh hF hP
  have hv := opd_ok hR hF cc
  rw [hc] at hv
  refine wpIn_cond (t := t) hv.bool_inv ?_
  cases t with
  | true => exact hx rfl cx a fk Qm hR hh hF hP
  | false => exact hy rfl cx a fk Qm hR hh hF hP

theorem WpV.mono {c : Code} {s : List V} {h : Heap} {Q Q' : Ex → List V → Heap → Prop} (h1 : WpV P E c s h Q') (h2 : ∀ e s' h', Q' e s' h' → Q e s' h') : WpV P E c s h Q :=
  fun cx a fk Qm hR hh hF hP => h1 cx a fk Qm hR hh hF fun e s' h' q => hP e s' h' (h2 e s' h' q)

theorem RV.raw_inv {c : Cx} {r : Nat} {x : Value} (h : RV c (.raw r) x) : x = .pointer (some ⟨r, 0, none⟩) := by
  cases h with
  | g h => cases h
  | raw r => rfl

/-- An iterator over the plain block b's map. -/
structure ItOk (cx : Cx) (b r n : Nat) (seen : Array Nat) : Prop where
  it : cx.w.heap[r]? = some (.mapIter (some (cx.ρ b).1) n seen n)
  my : ¬ cx.my r
  ro : ¬ cx.ro r

theorem ItOk.mono {c c' : Cx} {b r n : Nat} {seen : Array Nat} (h : ItOk c b r n seen) (hx : Ext c c') (hb : isMap c.h b) (hb' : isMap c'.h b) : ItOk c' b r n seen := by
  have hlt : r < c.w.heap.size := (Array.getElem?_eq_some_iff.1 h.it).1
  have hbl : b < c.h.length := by obtain ⟨es, he⟩ := hb; exact (List.getElem?_eq_some_iff.1 he).1
  exact ⟨by rw [hx.frame r hlt h.my, (hx.mp b hbl hb').2]; exact h.it, fun k => (hx.mine r k).elim h.my (fun q => by omega), fun k => (hx.ro2 r k).elim h.ro (fun q => by omega)⟩

/-- A new block that is nobody's. -/
theorem grow_new {c : Cx} (hR : Rel E c) (o : Obj) : ∃ c', Ext c c' ∧ Rel E c' ∧ c'.h = c.h ∧ c'.w = { c.w with heap := c.w.heap.push o } ∧ c'.ρ = c.ρ ∧ ¬ c'.my c.w.heap.size ∧ ¬ c'.ro c.w.heap.size := by
  obtain ⟨q1, q2⟩ := hR.grow { c.w with heap := c.w.heap.push o } (fun r hr => by simp only; rw [Array.getElem?_push, if_neg (by omega)]) (by simp)
  have hE' : Ext c { c with w := { c.w with heap := c.w.heap.push o }, my := fun x => c.my x ∧ x ≠ c.w.heap.size } := ⟨q1.ro, q1.same, q1.len, q1.blk, q1.mp, q1.it, q1.size, q1.grow, fun r h => .inl h.1, q1.frame, q1.ro2, q1.rest⟩
  have hlt : ∀ {b}, live c.h b → (c.w.heap.push o)[(c.ρ b).1]? = c.w.heap[(c.ρ b).1]? := fun {b} hl => by have := hR.lt hl; rw [Array.getElem?_push, if_neg (by omega)]
  refine ⟨_, hE', ⟨fun b T cs h => (hR.cells b T cs h).mono hE' (hlt ⟨_, h, by simp⟩) rfl, fun b es h => (hR.maps b es h).mono hE' (hlt ⟨_, h, by simp⟩) rfl, fun b L h => (hR.iters b L h).mono hE' (hlt ⟨_, h, by simp⟩) rfl, q2.own, q2.inj, q2.rolt, q2.gl, fun b hb => ⟨hR.mine b hb, fun e => by have := hR.lt hb; simp only at e; omega⟩, q2.ali⟩, rfl, rfl, rfl, by simp, fun h => by have := hR.rolt _ h; omega⟩

/-- An iterator turns: nothing else does. -/
theorem turn_iter {c0 c : Cx} (hX : Ext c0 c) (hR0 : Rel E c0) (hR : Rel E c) {r : Nat} {a : Option Nat} {b d : Nat} {s : Array Nat} (hr : c.w.heap[r]? = some (.mapIter a b s d)) (h0 : c0.w.heap.size ≤ r) (hmy : ¬ c.my r) (hro : ¬ c.ro r) {w1 : World} (hw : w1.heap = c.w.heap) (hrest : w1.os = c.w.os ∧ w1.tape = c.w.tape ∧ w1.output = c.w.output) (x : Option Nat) (y z : Nat) (t : Array Nat) :
    Ext c0 { c with w := { w1 with heap := w1.heap.setIfInBounds r (.mapIter x y t z) } } ∧ Rel E { c with w := { w1 with heap := w1.heap.setIfInBounds r (.mapIter x y t z) } } ∧ ExtW c { c with w := { w1 with heap := w1.heap.setIfInBounds r (.mapIter x y t z) } } := by
  have hne : ∀ q, q ≠ r → (w1.heap.setIfInBounds r (.mapIter x y t z))[q]? = c.w.heap[q]? := fun q h => by rw [Array.getElem?_setIfInBounds_ne (Ne.symm h), hw]
  have hcell : ∀ {q C T fz}, c.w.heap[q]? = some (.cells C T fz) → q ≠ r := fun h e => by rw [e, hr] at h; cases h
  have hlv : ∀ {q}, live c.h q → (c.ρ q).1 ≠ r := fun hl e => hmy (by rw [← e]; exact hR.mine _ hl)
  have hW : ExtW c { c with w := { w1 with heap := w1.heap.setIfInBounds r (.mapIter x y t z) } } :=
    ⟨fun _ h => h, fun q h => hne q (fun e => hro (by rw [← e]; exact h)), Nat.le_refl _, fun _ _ n hn => ⟨n, hn, Nat.le_refl _, fun _ => rfl⟩, fun _ _ h => ⟨h, rfl⟩, fun _ _ h => ⟨h, rfl⟩, fun q C T fz h => ⟨C, fz, by simp only; rw [hne q (hcell h)]; exact h, rfl⟩⟩
  refine ⟨⟨hX.ro, fun q h => ?_, hX.len, hX.blk, hX.mp, hX.it, fun q C T fz h => ?_, ?_, hX.mine, fun q hq h => ?_, hX.ro2, ?_⟩, ⟨fun b T cs h => ?_, fun b es h => ?_, fun b L h => ?_, hR.own, hR.inj, fun q hq => ?_, fun g cs hg => (hR.gl g cs hg).mono hW.ro hW.same, hR.mine, hR.ali⟩, hW⟩
  · have := hR0.rolt q h
    simp only; rw [hne q (by omega)]; exact hX.same q h
  · obtain ⟨C', fz', h1, h2⟩ := hX.size q C T fz h
    exact ⟨C', fz', by simp only; rw [hne q (hcell h1)]; exact h1, h2⟩
  · have := hX.grow
    simp only [Array.size_setIfInBounds, hw]; exact this
  · simp only; rw [hne q (by omega)]; exact hX.frame q hq h
  · obtain ⟨g1, g2, g3⟩ := hX.rest
    exact ⟨hrest.1.trans g1, hrest.2.1.trans g2, hrest.2.2.trans g3⟩
  · obtain ⟨C, lo, hi, h1, h2, h3, h4, h5⟩ := hR.cells b T cs h
    refine ⟨C, lo, hi, by simp only; rw [hne _ (hlv ⟨_, h, by simp⟩)]; exact h1, h2, fun j v hv => ?_, h4, h5⟩
    obtain ⟨x, q1, q2⟩ := h3 j v hv
    exact ⟨x, q1, q2.monoW hW⟩
  · obtain ⟨xs, clock, h1, h2, h0, h3⟩ := hR.maps b es h
    refine ⟨xs, clock, by simp only; rw [hne _ (hlv ⟨_, h, by simp⟩)]; exact h1, h2, h0, fun i k v hv => ?_⟩
    obtain ⟨e, q1, q2, q3⟩ := h3 i k v hv
    exact ⟨e, q1, q2.monoW hW, q3.monoW hW⟩
  · obtain ⟨lp, h1, h2⟩ := hR.iters b L h
    exact ⟨lp, by simp only; rw [hne _ (hlv ⟨_, h, by simp⟩)]; exact h1, ⟨h2.st, h2.pend, h2.ps, h2.asg, h2.body, h2.tmps.monoW hW⟩⟩
  · simp only [Array.size_setIfInBounds, hw]; exact hR.rolt q hq

theorem FrOk.wk0 {c c' : Cx} (hx : ExtW c c') {s : List V} {a : Act} (h : FrOk D0 c s a) : FrOk D0 c' s a := by
  obtain ⟨⟨ts, h1, h2⟩, h3⟩ := h
  exact ⟨⟨ts, h1, h2.monoW hx⟩, h3⟩

theorem wp_one {o : Oper} {ops : Array Oper} {i fk : Nat} {rest : List Nat} {Q : Exit → Act → World → Prop} {a : Act} {w w' : World} {x : Value} (ho : ops[i]? = some o) (hg : o.guard = none) (hd : ∀ c, o.op ≠ .defer c) (hr : (execOp a.eval o).run P w = .ok (.value x) w') (hn : wpOpsIn (Fo none) fk P ops Q rest (a.put o.dst x) w') :
    wpOpsIn (Fo none) fk P ops Q (i :: rest) a w := by
  simp only [wpOpsIn, ho]
  have hw : Region.wanted o (yielded ops a.tmps) = true := by unfold Region.wanted; rw [hg]
  rw [hw, if_pos rfl]
  refine ⟨fun f _ => Fo.fn none f, ?_⟩
  rw [Oper.semAt_eq _ _ _ hd, hr, Oper.uponIn_value]
  exact hn
end
end Go.Sb

/- A loop over a map that the loop does not turn: the entries come in whatever order the tape says. -/

namespace Go.Sb
section
variable {P : Program} {E : Env}

theorem getT_same (s : List V) (t : Nat) (v : V) (h : t + 1 < s.length) : getT (setT s t v) t = v := by
  simp only [getT, setT, setL_get]
  rw [List.getD_eq_getElem?_getD, List.getElem?_set_self h]; rfl
theorem setT_len (s : List V) (t : Nat) (v : V) : (setT s t v).length = s.length := by simp only [setT, setL_get, List.length_set]

theorem rest_ops {ops : Array Oper} {o : Oper} (h : ops[0]? = some o) : List.range ops.size = 0 :: List.range' 1 (ops.size - 1) := by
  have h0 := (Array.getElem?_eq_some_iff.1 h).1
  obtain ⟨n, hn⟩ : ∃ n, ops.size = n + 1 := ⟨ops.size - 1, by omega⟩
  rw [hn, List.range_eq_range', List.range'_succ]; rfl

set_option maxHeartbeats 1000000 in
theorem WpV.range (hE : EnvOk P E) {md : FuncId → Mode} {i1 i2 i3 j j2 : Nat} {o1 rg nx ex en : Oper} {ops3 : Array Oper} {body : Code} {T kt el : TypeId} {d : TyD} {tm ti tn tc te : Tmp} {s : List V} {h hh : Heap} {b : Nat} {es : List (V × V)} {Q : Ex → List V → Heap → Prop}
    (hT : E.ty T = some d) (hu : d.u = .map kt el) (g1 : o1.guard = none) (d1 : o1.dst = some tm)
    (grg : rg.guard = none) (org : rg.op = .range T (.tmp tm)) (drg : rg.dst = some ti)
    (gnx : nx.guard = none) (onx : nx.op = .next (.tmp ti) false) (dnx : nx.dst = some tn)
    (gex : ex.guard = none) (oex : ex.op = .extract (.tmp tn) 0) (dex : ex.dst = some tc)
    (gen : en.guard = none) (oen : en.op = .entry (.tmp ti)) (den : en.dst = some te) (hen : ops3[0]? = some en)
    (hn1 : tn ≠ ti) (hn2 : tc ≠ ti) (hlm : tm + 1 < s.length)
    (he : Evt fun n => evOp E md (callN E n) o1.op s h = some (.val (.mp b) hh)) (hb : hh[b]? = some (.map es))
    (I : Nat → List Nat → List V → Heap → Prop) (hI0 : ∀ r, I r [] (setT (setT s tm (.mp b)) ti (.raw r)) hh)
    (hget : ∀ r seen s h, I r seen s h → getT s ti = .raw r ∧ h[b]? = some (.map es) ∧ tn + 1 < s.length ∧ tc + 1 < s.length)
    (hround : ∀ r seen s h i k v, I r seen s h → es[i]? = some (k, v) → i ∉ seen → ∃ s4 h4, (Evt fun n => evOps E md (callN E n) ops3.toList (ops3.toList.drop 1) (setT (setT (setT s tn (.tup [.bool true, k, v])) tc (.bool true)) te (.tup [k, v])) h = some (.normal, s4, h4)) ∧
      WpV P E body s4 h4 fun e s' h' => e = .normal ∧ I r (seen ++ [i]) s' h')
    (hend : ∀ r seen s h, I r seen s h → (∀ i, i < es.length → i ∈ seen) → Q .normal (setT (setT s tn (.tup [.bool false])) tc (.bool false)) h) :
    WpV P E (.seq (.region i1 #[o1, rg] false) (.block j (.loop (.seq (.region i2 #[nx, ex] false) (.seq (.cond (.tmp tc) .skip (.exit j)) (.block j2 (.seq (.region i3 ops3 false) body))))))) s h Q := by
  intro cx a fk Qm hR hh0 hF hP
  subst hh0
  obtain ⟨N, hN⟩ := he
  refine wpIn_seq (wpIn_region ?_)
  show wpOpsIn (Fo none) fk P #[o1, rg] _ [0, 1] a cx.w
  rw [wpOpsIn]
  simp only [show (#[o1, rg] : Array Oper)[0]? = some o1 from rfl]
  have hw1 : Region.wanted o1 (yielded #[o1, rg] a.tmps) = true := by unfold Region.wanted; rw [g1]
  rw [hw1, if_pos rfl]
  refine op_in (D := D0) hE hR (callN_ok hE N) hF (hN N (Nat.le_refl _)) ?_
  intro c1 x hx1 hR1 hh1 hv1
  have hF1 := (hF.mono hx1).put (D := D0) o1.dst hv1
  rw [d1] at hF1 ⊢
  have hb1 : c1.h[b]? = some (.map es) := by rw [hh1]; exact hb
  obtain ⟨xs0, cl0, m1, m2, m0, m3⟩ := hR1.maps b es hb1
  have hev0 : (a.put (some tm) x).eval (.tmp tm) = .map (some (c1.ρ b).1) := by
    have := opd_ok hR1 hF1 (.tmp tm)
    have e : opd E (putT s (some tm) (.mp b)) (.tmp tm) = .mp b := getT_same s tm (.mp b) hlm
    rw [e] at this
    exact this.mp_inv ⟨es, hb1⟩
  obtain ⟨ut, t1, t2⟩ := (hE.ty T d hT).und
  rw [hu] at t2; have t2 := of_map t2; subst t2
  have hcl : cl0 = es.length := by rw [m0.1, m2]
  subst hcl
  refine wp_one (o := rg) (x := .pointer (some ⟨c1.w.heap.size, 0, none⟩)) (w' := { c1.w with heap := c1.w.heap.push (.mapIter (some (c1.ρ b).1) es.length #[] es.length) }) rfl grg (by rw [org]; simp) ?_ ?_
  · have he : execOp (a.put (some tm) x).eval rg = (do pure (.value (← Instr.range T ((a.put (some tm) x).eval (.tmp tm))))) := by
      unfold execOp; rw [org]
    rw [he, hev0]
    have hgo : (getObj (c1.ρ b).1).run P c1.w = .ok (.map xs0 es.length) c1.w := getObj_run m1 (by simp)
    simp [Instr.range, run_underlying t1, hgo, newObj, Sem.run]
  obtain ⟨c2, x12, R2, e2h, e2w, e2ρ, my2, ro2⟩ := grow_new hR1 (.mapIter (some (c1.ρ b).1) es.length #[] es.length)
  have hF2 := (hF1.mono x12).put (D := D0) rg.dst (RV.raw c1.w.heap.size)
  rw [drg] at hF2 ⊢
  show (Code.block j _).wpIn (Fo none) fk P Qm _ _
  rw [← e2w]
  have hIt2 : ItOk c2 b c1.w.heap.size es.length #[] := ⟨by rw [e2w, e2ρ]; simp, my2, ro2⟩
  have hI2 := hI0 c1.w.heap.size
  rw [← hh1, ← e2h] at hI2
  refine wpIn_block ?_
  refine wpIn_loop_rounds' (fun m a' w' => ∃ (c : Cx) (s' : List V) (seen : Array Nat), Ext c1 c ∧ Rel E c ∧ c.w = w' ∧ FrOk D0 c s' a' ∧ I c1.w.heap.size seen.toList s' c.h ∧ ItOk c b c1.w.heap.size es.length seen ∧ seen.toList.Nodup ∧ (∀ i ∈ seen.toList, i < es.length) ∧ es.length + 1 ≤ m + seen.toList.length) ?_ ?_ (es.length + 1) _ c2.w
    ⟨c2, _, #[], x12, R2, rfl, hF2, hI2, hIt2, List.nodup_nil, fun i hi => by simp at hi, Nat.le_add_right _ _⟩
  rotate_left
  · rintro a' w' ⟨c, s', seen, _, _, _, _, _, _, hnd, hbd, hm⟩
    have : seen.toList.length ≤ es.length := by
      have := List.Nodup.length_le_of_subset hnd (l₂ := List.range es.length) (fun i hi => List.mem_range.2 (hbd i hi))
      simpa using this
    omega
  rintro m a' w' ⟨c, s', seen, hX, hRc, rfl, hFc, hI, hIt, hnd, hbd, hm⟩
  obtain ⟨hraw, hbm, hl1, hl2⟩ := hget _ _ _ _ hI
  obtain ⟨xs, cl, n1, n2, n0, n3⟩ := hRc.maps b es hbm
  have hcl : cl = es.length := by rw [n0.1, n2]
  subst hcl
  have hev : a'.eval (.tmp ti) = .pointer (some ⟨c1.w.heap.size, 0, none⟩) := by
    have := opd_ok hRc hFc (.tmp ti)
    have e : opd E s' (.tmp ti) = .raw c1.w.heap.size := hraw
    rw [e] at this
    exact this.raw_inv
  have hexec : execOp a'.eval nx = (do pure (.value (← Instr.next (a'.eval (.tmp ti)) false nx.type))) := by
    unfold execOp; rw [onx]
  refine wpIn_seq (wpIn_region ?_)
  show wpOpsIn (Fo none) fk P #[nx, ex] _ [0, 1] a' c.w
  rcases next_any (P := P) c.w nx.type hIt.it n1 n2.symm n0.2 with ⟨hall, hrun⟩ | ⟨i, e, hxi, hni, w1, hw1, hrest, hrun⟩
  · refine wp_one (o := nx) (x := .tuple #[.bool false]) (w' := c.w) rfl gnx (by rw [onx]; simp) (by rw [hexec, hev]; simp [hrun]) ?_
    have hF3 := hFc.put (D := D0) nx.dst (v := .tup [.bool false]) (x := .tuple #[.bool false]) (RV.tup_mk (RVs.cons (.g (.bool _)) (RVs.nil _)))
    rw [dnx] at hF3 ⊢
    refine ops_sound (D := D0) (ro := none) hE (callN_ok hE 0) (md := md) #[nx, ex] 1 1 c _ _ .normal (setT (setT s' tn (.tup [.bool false])) tc (.bool false)) c.h rfl hRc hF3 ?_ ?_
    · show evOps E md (callN E 0) [nx, ex] [ex] (putT s' (some tn) (.tup [.bool false])) c.h = _
      have hwv : wantedV [nx, ex] (putT s' (some tn) (.tup [.bool false])) ex = some true := by unfold wantedV; rw [gex]
      have hop : evOp E md (callN E 0) ex.op (putT s' (some tn) (.tup [.bool false])) c.h = some (.val (.bool false) c.h) := by
        rw [oex]
        show val (evExtract (getT (setT s' tn (.tup [.bool false])) tn) 0) c.h = _
        rw [getT_same s' tn _ hl1]; rfl
      rw [evOps, hwv, Option.bind_some, if_pos rfl, hop, Option.bind_some]
      simp only [evOps, dex]; rfl
    · intro c4 a4 hx4 hR4 hh4 hF4
      show (Code.seq _ _).wpIn (Fo none) fk P _ a4 c4.w
      have hcv : a4.eval (.tmp tc) = .bool false := by
        have := opd_ok hR4 hF4 (.tmp tc)
        have e : opd E (setT (setT s' tn (.tup [.bool false])) tc (.bool false)) (.tmp tc) = .bool false := getT_same _ tc _ (by rw [setT_len]; exact hl2)
        rw [e] at this
        exact this.bool_inv
      refine wpIn_seq (wpIn_cond_false hcv (wpIn_exit ?_))
      show Exit.inBlock j Qm (.exit j) a4 c4.w
      simp only [Exit.inBlock, if_true]
      exact hP .normal _ c.h (hend _ _ _ _ hI hall) c4 a4 (hx1.trans (hX.trans hx4)) hR4 hh4 hF4
  · obtain ⟨X2, R3, W2⟩ := turn_iter hX hR1 hRc hIt.it (Nat.le_refl _) hIt.my hIt.ro hw1 hrest (some (c.ρ b).1) es.length es.length (seen.push i)
    have hilt : i < es.length := by have := (Array.getElem?_eq_some_iff.1 hxi).1; omega
    obtain ⟨⟨k, v⟩, hkv⟩ : ∃ p, es[i]? = some p := ⟨_, List.getElem?_eq_getElem hilt⟩
    obtain ⟨e', q1, q2, q3⟩ := n3 i k v hkv
    rw [hxi] at q1; cases q1
    have hrlt : c1.w.heap.size < c.w.heap.size := (Array.getElem?_eq_some_iff.1 hIt.it).1
    have hIt3 : ItOk { c with w := { w1 with heap := w1.heap.setIfInBounds c1.w.heap.size (.mapIter (some (c.ρ b).1) es.length (seen.push i) es.length) } } b c1.w.heap.size es.length (seen.push i) :=
      ⟨by simp only; rw [hw1]; simp [hrlt], hIt.my, hIt.ro⟩
    have hF3 := (hFc.wk0 W2).put (D := D0) nx.dst (v := .tup [.bool true, k, v]) (x := .tuple #[.bool true, e.key, e.val]) (RV.tup_mk (RVs.cons (.g (.bool _)) (RVs.cons (q2.monoW W2) (RVs.cons (q3.monoW W2) (RVs.nil _)))))
    generalize hc3 : ({ c with w := { w1 with heap := w1.heap.setIfInBounds c1.w.heap.size (.mapIter (some (c.ρ b).1) es.length (seen.push i) es.length) } } : Cx) = c3 at X2 R3 W2 hIt3 hF3
    have e3w : c3.w = { w1 with heap := w1.heap.setIfInBounds c1.w.heap.size (.mapIter (some (c.ρ b).1) es.length (seen.push i) es.length) } := by rw [← hc3]
    have e3h : c3.h = c.h := by rw [← hc3]
    refine wp_one (o := nx) (x := .tuple #[.bool true, e.key, e.val]) (w' := c3.w) rfl gnx (by rw [onx]; simp) (by rw [hexec, hev, e3w]; simp [hrun]) ?_
    rw [dnx] at hF3 ⊢
    refine ops_sound (D := D0) (ro := none) hE (callN_ok hE 0) (md := md) #[nx, ex] 1 1 c3 _ _ .normal (setT (setT s' tn (.tup [.bool true, k, v])) tc (.bool true)) c3.h rfl R3 hF3 ?_ ?_
    · show evOps E md (callN E 0) [nx, ex] [ex] (putT s' (some tn) (.tup [.bool true, k, v])) c3.h = _
      have hwv : wantedV [nx, ex] (putT s' (some tn) (.tup [.bool true, k, v])) ex = some true := by unfold wantedV; rw [gex]
      have hop : evOp E md (callN E 0) ex.op (putT s' (some tn) (.tup [.bool true, k, v])) c3.h = some (.val (.bool true) c3.h) := by
        rw [oex]
        show val (evExtract (getT (setT s' tn (.tup [.bool true, k, v])) tn) 0) c3.h = _
        rw [getT_same s' tn _ hl1]; rfl
      rw [evOps, hwv, Option.bind_some, if_pos rfl, hop, Option.bind_some]
      simp only [evOps, dex]; rfl
    intro c4 a4 hx4 hR4 hh4 hF4
    show (Code.seq _ _).wpIn (Fo none) fk P _ a4 c4.w
    have hl3 : tc + 1 < (setT s' tn (.tup [.bool true, k, v])).length := by rw [setT_len]; exact hl2
    have hcv : a4.eval (.tmp tc) = .bool true := by
      have := opd_ok hR4 hF4 (.tmp tc)
      have e : opd E (setT (setT s' tn (.tup [.bool true, k, v])) tc (.bool true)) (.tmp tc) = .bool true := getT_same _ tc _ hl3
      rw [e] at this
      exact this.bool_inv
    refine wpIn_seq (wpIn_cond_true hcv (wpIn_skip ?_))
    show (Code.block j2 _).wpIn (Fo none) fk P _ a4 c4.w
    have hm4 : isMap c4.h b := by rw [hh4, e3h]; exact ⟨es, hbm⟩
    have hIt4 := hIt3.mono hx4 (by rw [e3h]; exact ⟨es, hbm⟩) hm4
    obtain ⟨xs4, cl4, p1, p2, p0, p3⟩ := hR4.maps b es (by rw [hh4, e3h]; exact hbm)
    have hcl : cl4 = es.length := by rw [p0.1, p2]
    subst hcl
    obtain ⟨e4, r1, r2, r3⟩ := p3 i k v hkv
    have hev4 : a4.eval (.tmp ti) = .pointer (some ⟨c1.w.heap.size, 0, none⟩) := by
      have := opd_ok hR4 hF4 (.tmp ti)
      have e : opd E (setT (setT s' tn (.tup [.bool true, k, v])) tc (.bool true)) (.tmp ti) = .raw c1.w.heap.size := by
        show getT _ ti = _
        rw [getT_set _ _ _ _ hn2, getT_set _ _ _ _ hn1]; exact hraw
      rw [e] at this
      exact this.raw_inv
    have hexec4 : execOp a4.eval en = (do pure (.value (← Instr.entry (a4.eval (.tmp ti))))) := by
      unfold execOp; rw [oen]
    refine wpIn_block (wpIn_seq (wpIn_region ?_))
    rw [rest_ops hen]
    refine wp_one (o := en) (x := .tuple #[e4.key, e4.val]) (w' := c4.w) hen gen (by rw [oen]; simp) (by rw [hexec4, hev4]; simp [entry_any (P := P) c4.w hIt4.it p1 p0.2 r1]) ?_
    have hF5 := hF4.put (D := D0) en.dst (v := .tup [k, v]) (x := .tuple #[e4.key, e4.val]) (RV.tup_mk (RVs.cons r2 (RVs.cons r3 (RVs.nil _))))
    rw [den] at hF5 ⊢
    have hI' := hI
    rw [← e3h, ← hh4] at hI'
    obtain ⟨s5, h5, ⟨N5, hev5⟩, hbody⟩ := hround _ _ _ _ i k v hI' hkv hni
    have h0 := (Array.getElem?_eq_some_iff.1 hen).1
    refine ops_sound (D := D0) (ro := none) hE (callN_ok hE N5) (md := md) ops3 (ops3.size - 1) 1 c4 _ _ .normal s5 h5 (by omega) hR4 hF5 (hev5 N5 (Nat.le_refl _)) ?_
    intro c5 a5 hx5 hR5 hh5 hF6
    show body.wpIn (Fo none) fk P _ a5 c5.w
    refine hbody c5 a5 fk _ hR5 hh5 hF6 ?_
    rintro e6 s6 h6 ⟨rfl, hI6⟩
    intro c6 a6 hx6 hR6 hh6 hF7
    show ∃ c s' seen, _
    obtain ⟨_, hbm6, _, _⟩ := hget _ _ _ _ hI6
    refine ⟨c6, s6, seen.push i, X2.trans (hx4.trans (hx5.trans hx6)), hR6, rfl, hF7, by rw [hh6, Array.toList_push]; exact hI6, hIt4.mono (hx5.trans hx6) hm4 (by rw [hh6]; exact ⟨es, hbm6⟩), ?_, ?_, ?_⟩
    · rw [Array.toList_push, List.nodup_append]
      exact ⟨hnd, by simp, fun x hx y hy => by rw [List.mem_singleton.1 hy]; exact fun q => hni (by rw [← q]; exact hx)⟩
    · intro y hy
      rw [Array.toList_push] at hy
      rcases List.mem_append.1 hy with hy | hy
      · exact hbd y hy
      · rw [List.mem_singleton.1 hy]; exact hilt
    · rw [Array.toList_push, List.length_append, List.length_singleton]; omega
end
end Go.Sb

/- A contract of a function whose body is run by WpV. -/

namespace Go.Sb
section
variable {P : Program} {E : Env}

theorem lib_of_wp (hE : EnvOk P E) {f : FuncId} {d : FnD} (hfn : FnOk P f d) {p : List V → Option V}
    (hp : ∀ vs v, p vs = some v → vs.length ≤ d.nt ∧ WpV P E d.body (initT d.nt vs) [] fun e s' h' => (e = .normal ∨ e = .ret) ∧ ∃ u, evResults E d.res s' h' = some u ∧ fz E h' depthF u = some v) : LibOk P E f p := by
  intro ro w vs xs v h1 h2 h3 h4 h5
  obtain ⟨hlen, hwp⟩ := hp vs v h5
  have nl : ∀ b, ¬ live (Cx.mk (fun _ => (0, 0)) [] ro w (fun _ => False)).h b := fun b ⟨k, hk, _⟩ => by simp at hk
  have hR : Rel E (Cx.mk (fun _ => (0, 0)) [] ro w (fun _ => False)) := ⟨fun b T cs hb => by simp at hb, fun b es hb => by simp at hb, fun b L hb => by simp at hb, fun b hb => absurd hb (nl b), fun b b' hb => absurd hb (nl b), h1, h2, fun b hb => absurd hb (nl b), fun b T cs d hb => by simp at hb⟩
  obtain ⟨F, hf, hb, hnt, hres, hname⟩ := hfn.fn
  refine (callsIn_wide (n := 0)).1 (callsIn_of_wp_marks hf hb trivial ?_ rfl)
  have hargs : RVs (Cx.mk (fun _ => (0, 0)) [] ro w (fun _ => False)) vs xs := ⟨h3, fun i u x hu hx => .g (h4 i u x hu hx)⟩
  have hF0 : FrOk D0 (Cx.mk (fun _ => (0, 0)) [] ro w (fun _ => False)) (initT d.nt vs) { tmps := (⟨xs⟩ : Array Value) ++ Array.replicate (F.ntmps - (⟨xs⟩ : Array Value).size) undef, defers := [] } := by
    refine ⟨⟨_, rfl, ?_⟩, rfl⟩
    have hrep : RVs (Cx.mk (fun _ => (0, 0)) [] ro w (fun _ => False)) (List.replicate (d.nt - vs.length) und) (List.replicate (d.nt - vs.length) undef) := by
      refine ⟨by simp, fun i v x hv hx => ?_⟩
      rw [List.getElem?_replicate] at hv hx
      split at hv
      · rename_i hi; rw [if_pos hi] at hx; cases hv; cases hx; exact RV.undM _
      · cases hv
    have := hargs.append hrep
    simpa [hnt, hargs.1] using this
  refine hwp _ _ 0 _ hR rfl hF0 ?_
  rintro e s' h' ⟨he, u, hu, hfz⟩ c' a' hx hR' hh hF'
  obtain ⟨⟨ts, hts, htv⟩, hd⟩ := hF'
  have hd : a'.defers = [] := hd
  have fin : LeavesInM Fence.wide 0 P F a'.tmps (fun e w' => (w'.os = w.os ∧ w'.tape = w.tape ∧ w'.output = w.output) ∧ w.heap.size ≤ w'.heap.size ∧ (∀ r, r < w.heap.size → w'.heap[r]? = w.heap[r]?) ∧ ∃ x, e = .returned x ∧ RG (fun r => ro r ∨ (w.heap.size ≤ r ∧ r < w'.heap.size)) w' v x) a'.defers .returning c'.w := by
    rw [hd]
    refine leaves_marks (P := P) (E := E) (by simp) [] c' hx hR' htv List.nodup_nil (fun r hr => by cases hr) ?_
    intro c2 hx2 hR2 hh2 hs2 _
    obtain ⟨x, k1, k2⟩ := results_ok (P := P) (fn := F) (D := ⟨fun _ _ => True, fun _ _ => trivial⟩) (a := a') (s := s') hE hR2 ⟨⟨ts, hts, hs2⟩, trivial⟩ (by rw [hres, hh2, hh]; exact hu)
    refine ⟨x, k1, hx2.rest, hx2.grow, fun r hr => hx2.frame r hr (fun q => q), x, rfl, ?_⟩
    have hrg := fz_rg hR2 depthF u x v k2 (by rw [hh2, hh]; exact hfz)
    refine hrg.mono (fun r hr => ?_) (fun _ _ => rfl)
    obtain ⟨s1, s2⟩ := hr
    rcases s2 with s2 | s2
    · rcases hx2.ro2 r s2 with s3 | s3
      · exact .inl s3
      · exact .inr ⟨s3, s1⟩
    · rcases hx2.mine r s2 with s3 | s3
      · exact absurd s3 (fun h => h)
      · exact .inr ⟨s3, s1⟩
  rcases he with rfl | rfl
  · exact fin
  · exact fin
end
end Go.Sb
