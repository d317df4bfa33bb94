/- What the machine's steps on memory do to the relation. -/
import Derived.Test.YtekmafoicobphaaGreatDoorSbRel
import Derived.Laws.Sem
import Derived.Laws.Cells
import Derived.Laws.Strings
set_option linter.unusedVariables false
set_option linter.unusedSimpArgs false
namespace Go.Sb
theorem ytj {c : Cx} {v : V} {x : Value} (h : RV c v x) (hc : v.isCell = true) : x.oneCell' = true := by
 cases h with
 | g h => cases h <;> first | rfl | (simp [V.isCell] at hc)
 | ptr _ _ _ _ hp _ _ _ => obtain ⟨a, rfl⟩ := hp; rfl
 | sl _ _ _ _ _ _ _ hp _ _ _ => obtain ⟨a, m, rfl, _⟩ := hp; rfl
 | mp _ _ hp _ _ => obtain ⟨a, rfl⟩ := hp; rfl
 | it _ _ hp _ _ => obtain ⟨a, rfl⟩ := hp; rfl
 | fn => rfl
 | bm => rfl
 | ifc => rfl
 | agg => simp [V.isCell] at hc
 | tup => simp [V.isCell] at hc
 | junk => simp [V.isCell] at hc
 | raw => simp [V.isCell] at hc
theorem RVs.one {c : Cx} {vs : List V} {xs : List Value} (h : RVs c vs xs) (hc : vs.all V.isCell = true) : ∀ x ∈ xs, x.oneCell' = true := by
 intro x hx
 obtain ⟨i, hi, rfl⟩ := List.getElem_of_mem hx
 have hv : i < vs.length := by rw [h.1]; exact hi
 have := h.2 i vs[i] xs[i] (List.getElem?_eq_getElem hv) (List.getElem?_eq_getElem hi)
 exact ytj this (List.all_eq_true.1 hc _ (List.getElem_mem hv))
def spl (cur : Array Value) (o : Nat) (vs : List Value) : Array Value := (cur.toList.take o ++ vs ++ cur.toList.drop (o + vs.length)).toArray
theorem yoa (cur : Array Value) (o : Nat) (vs : List Value) (h : o + vs.length ≤ cur.size) : (spl cur o vs).size = cur.size := by
 simp [spl]; omega
theorem ylk (cur : Array Value) (o : Nat) (vs : List Value) (h : o + vs.length ≤ cur.size) (j : Nat) : (spl cur o vs)[j]? = if o ≤ j ∧ j < o + vs.length then vs[j - o]? else cur[j]? := by
 simp only [spl, List.getElem?_toArray]
 by_cases h1 : j < o
 ·rw [List.append_assoc, List.getElem?_append_left (by simp; omega), if_neg (by omega), List.getElem?_take, if_pos h1]; simp
 ·by_cases h2 : j < o + vs.length
  ·rw [if_pos ⟨by omega, h2⟩, List.append_assoc, List.getElem?_append_right (by simp; omega), List.getElem?_append_left (by simp; omega)]
   congr 1; simp; omega
  ·rw [if_neg (by omega), List.getElem?_append_right (by simp; omega), List.getElem?_drop]
   simp only [List.length_append, List.length_take, Array.length_toList]
   rw [show o + vs.length + (j - (min o cur.size + vs.length)) = j by omega]; simp
def setB (w : World) (g : Nat) (o : Obj) : World := { w with heap := w.heap.setIfInBounds g o }
theorem yda (w : World) (g : Nat) (o : Obj) (r : Nat) : (setB w g o).heap[r]? = if g = r then (if r < w.heap.size then some o else none) else w.heap[r]? := by
 simp only [setB]
 by_cases h : g = r
 ·subst h; rw [if_pos rfl]
  by_cases h2 : g < w.heap.size
  ·rw [if_pos h2]; simp [h2]
  ·rw [if_neg h2]; simp [h2]
 ·rw [if_neg h]; simp [Array.getElem?_setIfInBounds_ne h]
theorem yfn (w : World) (g : Nat) (o : Obj) : (setB w g o).heap.size = w.heap.size := by simp [setB]
theorem yob (P : Program) (g o : Nat) (t : TypeId) (lo hi : Nat) : ∀ (vs : List Value) (i : Nat) (cur : Array Value) (w : World), w.heap[g]? = some (.cells cur t (lo, hi)) →
  (∀ j, o + i ≤ j → j < o + i + vs.length → ¬ (lo ≤ j ∧ j < hi)) → o + i + vs.length ≤ cur.size → (∀ v ∈ vs, v.oneCell' = true) →
  (storeCells ⟨g, o, none⟩ vs i).run P w = .ok () (setB w g (.cells (spl cur (o + i) vs) t (lo, hi)))
 | [], i, cur, w, hg, _, hl, _ => by
  have : setB w g (.cells (spl cur (o + i) []) t (lo, hi)) = w := by
   have e : spl cur (o + i) [] = cur := by simp [spl]
   rw [e]
   cases w with | mk heap tape drawn os output =>
   simp only [setB] at hg ⊢
   congr 1
   apply Array.ext_getElem?
   intro r
   by_cases h : g = r
   ·subst h; obtain ⟨h1, h2⟩ := Array.getElem?_eq_some_iff.1 hg; simp [h1, h2]
   ·simp [Array.getElem?_setIfInBounds_ne h]
  rw [this]; rfl
 | v :: rest, i, cur, w, hg, hfz, hl, h1 => by
  have hi' : o + i < cur.size := by simp at hl; omega
  have hgs : g < w.heap.size := (Array.getElem?_eq_some_iff.1 hg).1
  have hcell : w.cell? ⟨g, o + i, none⟩ = some cur[o + i] := by simp [World.cell?, hg, hi']
  have hfro : w.frozen? ⟨g, o + i, none⟩ = false := by
   have := hfz (o + i) (Nat.le_refl _) (by simp)
   simp only [World.frozen?, hg, Bool.and_eq_false_iff, decide_eq_false_iff_not]
   by_cases q : lo ≤ o + i
   ·right; exact fun k => this ⟨q, k⟩
   ·left; exact q
  have hset : w.setCell ⟨g, o + i, none⟩ v = setB w g (.cells (cur.setIfInBounds (o + i) v) t (lo, hi)) := by
   unfold World.setCell setB
   congr 1
   apply Array.ext_getElem?
   intro r
   by_cases h : g = r
   ·subst h
    obtain ⟨k1, k2⟩ := Array.getElem?_eq_some_iff.1 hg
    simp [Array.getElem?_modify, k1, Array.getElem_modify, k2]
   ·simp [Array.getElem?_modify, h, Array.getElem?_setIfInBounds_ne h]
  have hst : (store ((⟨g, o, none⟩ : Addr).add i) v).run P w = .ok () (setB w g (.cells (cur.setIfInBounds (o + i) v) t (lo, hi))) := by
   rw [Addr.add_mk, run_store P w _ v _ (h1 v (by simp)), hcell]
   simp [hfro, hset]
  have ih := yob P g o t lo hi rest (i + 1) (cur.setIfInBounds (o + i) v) (setB w g (.cells (cur.setIfInBounds (o + i) v) t (lo, hi)))
   (by rw [yda, if_pos rfl, if_pos hgs]) (fun j a b => hfz j (by omega) (by simp; omega)) (by simp at hl ⊢; omega) (fun x hx => h1 x (by simp [hx]))
  simp only [storeCells, Sem.run_bind, hst, Result.andThen_ok, ih]
  congr 1
  unfold setB
  simp only
  congr 1
  apply Array.ext_getElem?
  intro r
  by_cases h : g = r
  ·subst h
   simp only [Array.getElem?_setIfInBounds, hgs, Array.size_setIfInBounds, if_true]
   congr 2
   apply Array.ext_getElem?
   intro j
   rw [ylk _ _ _ (by simp at hl ⊢; omega), ylk _ _ _ (by simpa using hl)]
   by_cases e : j = o + i
   ·subst e; rw [if_neg (by omega), if_pos ⟨Nat.le_refl _, by simp⟩]; simp [hi']
   ·by_cases f : o + i ≤ j ∧ j < o + i + (v :: rest).length
    ·rw [if_pos f, if_pos (by simp at f; omega)]
     rw [show j - (o + i) = (j - (o + (i + 1))) + 1 by omega]; simp
    ·rw [if_neg f, if_neg (by simp at f; omega)]
     rw [Array.getElem?_setIfInBounds_ne (by omega)]
  ·simp [Array.getElem?_setIfInBounds_ne h]
def updρ (ρ : Nat → Nat × Nat) (b : Nat) (p : Nat × Nat) : Nat → Nat × Nat := fun x => if x = b then p else ρ x
theorem yba (ρ : Nat → Nat × Nat) (b : Nat) (p : Nat × Nat) : updρ ρ b p b = p := by simp [updρ]
theorem ydp (ρ : Nat → Nat × Nat) (b : Nat) (p : Nat × Nat) {x : Nat} (h : x ≠ b) : updρ ρ b p x = ρ x := by simp [updρ, h]
theorem hsz_some {h : Heap} {b n : Nat} (hh : hsz h b = some n) : ∃ T cs, h[b]? = some (.cells T cs) ∧ cs.length = n := by
 unfold hsz at hh
 split at hh
 ·rename_i T cs hb; simp at hh; exact ⟨T, cs, hb, hh⟩
 ·cases hh
theorem yci {h : Heap} {b : Nat} {T : TypeId} {cs : List V} (hb : h[b]? = some (.cells T cs)) : hsz h b = some cs.length := by simp [hsz, hb]
theorem ycj {h : Heap} {b sz : Nat} {x : TypeId × List V} (hh : yaz h b sz = some x) : h[b]? = some (.cells x.1 x.2) ∧ x.2.length = sz := by
 unfold yaz at hh
 split at hh
 ·rename_i T cs hb
  split at hh
  ·rename_i hl; simp at hh; subst hh; exact ⟨hb, hl⟩
  ·cases hh
 ·cases hh
theorem Rel.grow {E : Env} {c : Cx} (hR : Rel E c) (w' : World) (h1 : ∀ r, r < c.w.heap.size → w'.heap[r]? = c.w.heap[r]?) (h2 : c.w.heap.size ≤ w'.heap.size) (h3 : w'.os = c.w.os ∧ w'.tape = c.w.tape ∧ w'.output = c.w.output := by exact ⟨rfl, rfl, rfl⟩) :
  Ext c { c with w := w' } ∧ Rel E { c with w := w' } := by
 have hE : Ext c { c with w := w' } := ⟨fun _ h => h, fun r h => h1 r (hR.rolt r h), Nat.le_refl _, fun _ _ n hn => ⟨n, hn, Nat.le_refl _, fun _ => rfl⟩, fun _ _ h => ⟨h, rfl⟩, fun _ _ h => ⟨h, rfl⟩,
  fun r C T fz h => ⟨C, fz, by rw [h1 r (Array.getElem?_eq_some_iff.1 h).1]; exact h, rfl⟩, h2, fun _ h => .inl h, fun r hr _ => h1 r hr, fun _ h => .inl h, h3⟩
 refine ⟨hE, ?_⟩
 refine ⟨fun b T cs hb => ?_, fun b es hb => ?_, fun b L hb => ?_, hR.own, hR.inj, fun r h => Nat.lt_of_lt_of_le (hR.rolt r h) h2, fun g cs hg => (hR.gl g cs hg).mono hE.ro hE.same, hR.mine, hR.ali⟩
 ·exact (hR.cells b T cs hb).mono hE (h1 _ (hR.lt ⟨_, hb, by simp⟩)) rfl
 ·exact (hR.maps b es hb).mono hE (h1 _ (hR.lt ⟨_, hb, by simp⟩)) rfl
 ·exact (hR.iters b L hb).mono hE (h1 _ (hR.lt ⟨_, hb, by simp⟩)) rfl
def pushC (c : Cx) (blk : Blk) (o : Obj) : Cx := { c with ρ := updρ c.ρ c.h.length (c.w.heap.size, 0), h := push c.h blk, w := { c.w with heap := c.w.heap.push o }, my := fun r => c.my r ∨ r = c.w.heap.size }
theorem ydb (h : Heap) (blk : Blk) (b : Nat) : (push h blk)[b]? = if b = h.length then some blk else h[b]? := by
 unfold push
 by_cases e : b = h.length
 ·subst e; simp
 ·rw [if_neg e]
  by_cases e2 : b < h.length
  ·rw [List.getElem?_append_left e2]
  ·rw [List.getElem?_append_right (by omega), List.getElem?_eq_none (by simp; omega), List.getElem?_eq_none (by omega)]
theorem yje {E : Env} {c : Cx} (hR : Rel E c) (blk : Blk) (o : Obj) : Ext c (pushC c blk o) := by
 have hg : ∀ b, b < c.h.length → (push c.h blk)[b]? = c.h[b]? := fun b hb => by rw [ydb, if_neg (by omega)]
 have hρ : ∀ b, b < c.h.length → (pushC c blk o).ρ b = c.ρ b := fun b hb => ydp _ _ _ (by omega)
 refine ⟨fun _ h => h, fun r h => ?_, by simp [pushC, push], fun b hb n hn => ?_, fun b hb hm => ?_, fun b hb hm => ?_, fun r C T fz h => ?_, by simp [pushC], fun r h => h.imp id (fun e => by omega), fun r hr _ => by simp only [pushC]; rw [Array.getElem?_push, if_neg (by omega)], fun _ h => .inl h, ⟨rfl, rfl, rfl⟩⟩
 ·have := hR.rolt r h
  simp only [pushC]; rw [Array.getElem?_push, if_neg (by omega)]
 ·refine ⟨n, ?_, Nat.le_refl _, fun _ => hρ b hb⟩
  simp only [pushC, hsz] at hn ⊢; rw [hg b hb] at hn; exact hn
 ·refine ⟨?_, hρ b hb⟩
  obtain ⟨es, he⟩ := hm; simp only [pushC] at he; rw [hg b hb] at he; exact ⟨es, he⟩
 ·refine ⟨?_, hρ b hb⟩
  obtain ⟨s, he⟩ := hm; simp only [pushC] at he; rw [hg b hb] at he; exact ⟨s, he⟩
 ·have := (Array.getElem?_eq_some_iff.1 h).1
  exact ⟨C, fz, by simp only [pushC]; rw [Array.getElem?_push, if_neg (by omega)]; exact h, rfl⟩
theorem yll {E : Env} {c : Cx} (hR : Rel E c) (blk : Blk) (o : Obj)
  (h0c : ∀ T cs, blk = .cells T cs → CellsOk (pushC c blk o) c.h.length T cs) (h0m : ∀ es, blk = .map es → MapOk (pushC c blk o) c.h.length es)
  (h0i : ∀ L, blk = .siter L → IterOk (pushC c blk o) c.h.length L) : Rel E (pushC c blk o) := by
 have hb0 : (pushC c blk o).h[c.h.length]? = some blk := by simp only [pushC]; rw [ydb, if_pos rfl]
 refine hR.touch (yje hR blk o) c.h.length rfl (fun b hb => ?_) (fun b hb => ydp _ _ _ hb) (fun b _ hl => ?_) (by simp [pushC]) (fun _ h => .inl h) (fun _ => .inr (by simp only [pushC, yba])) (fun T cs d _ _ => by simp only [pushC, yba, Nat.zero_mod]) (fun T cs h => ?_) (fun es h => ?_) (fun s h => ?_) (fun _ => ?_)
 ·simp only [pushC]; rw [ydb, if_neg hb]
 ·have := hR.lt hl
  simp only [pushC]; rw [Array.getElem?_push, if_neg (by omega)]
 ·rw [hb0] at h; exact h0c T cs (by simpa using h)
 ·rw [hb0] at h; exact h0m es (by simpa using h)
 ·rw [hb0] at h; exact h0i s (by simpa using h)
 ·have e : ((pushC c blk o).ρ c.h.length).1 = c.w.heap.size := by simp only [pushC, yba]
  rw [e]
  exact ⟨fun h => by have := hR.rolt _ h; omega, fun b _ hl => by have := hR.lt hl; omega⟩
theorem ygk {E : Env} {c : Cx} (hR : Rel E c) (T : TypeId) (cs : List V) (xs : Array Value) (lo hi : Nat) (hl : cs.length ≤ xs.size) (hx : RVs c cs (xs.toList.take cs.length)) (hf : xs.size ≤ lo ∨ lo = hi) (hone : cs.all V.isCell = true) :
  Ext c (pushC c (.cells T cs) (.cells xs T (lo, hi))) ∧ Rel E (pushC c (.cells T cs) (.cells xs T (lo, hi))) := by
 have hE := yje hR (.cells T cs) (.cells xs T (lo, hi))
 refine ⟨hE, yll hR _ _ (fun T' cs' h => ?_) (fun es h => by cases h) (fun s h => by cases h)⟩
 cases h
 refine ⟨xs, lo, hi, ?_, ?_, fun j v hv => ?_, fun j _ hj => ?_, hone, hf.symm⟩
 ·simp only [pushC, yba]; simp
 ·simp only [pushC, yba]; omega
 ·simp only [pushC, yba, Nat.zero_add]
  obtain ⟨x, h1, h2⟩ := hx.get hv
  rw [List.getElem?_take] at h1
  split at h1
  ·exact ⟨x, by simpa using h1, h2.mono hE⟩
  ·cases h1
 ·omega
theorem push_ptr {c : Cx} (T : TypeId) (cs : List V) (o : Obj) : RV (pushC c (.cells T cs) o) (.ptr c.h.length 0 cs.length) (.pointer (some ⟨c.w.heap.size, 0, none⟩)) := by
 have hb0 : (pushC c (.cells T cs) o).h[c.h.length]? = some (.cells T cs) := by simp only [pushC]; rw [ydb, if_pos rfl]
 refine .ptr _ _ _ _ ⟨_, rfl⟩ (by simp [pushC, push]) (fun n hn => by rw [yci hb0] at hn; simp at hn; omega) (fun _ => ?_)
 simp only [pushC, yba]
theorem yho {c : Cx} (T : TypeId) (cs : List V) (xs : Array Value) (fz : Nat × Nat) (e len cap cap' : Nat) (h1 : cap ≤ cap') (h2 : cap' * e ≤ xs.size) :
  RV (pushC c (.cells T cs) (.cells xs T fz)) (.sl c.h.length 0 e len cap cs.length) (.slice (some ⟨c.w.heap.size, 0, none⟩) len cap') := by
 have hb0 : (pushC c (.cells T cs) (.cells xs T fz)).h[c.h.length]? = some (.cells T cs) := by simp only [pushC]; rw [ydb, if_pos rfl]
 refine .sl _ _ _ _ _ _ _ ⟨_, _, rfl, h1⟩ (by simp [pushC, push]) (fun n hn => by rw [yci hb0] at hn; simp at hn; omega) (fun _ => ?_)
 refine ⟨cap', xs, T, fz, ?_, h1, ?_, ?_⟩
 ·simp only [pushC, yba]
 ·simp only [pushC, yba]; simp
 ·simp only [pushC, yba]; omega
def ybz (c : Cx) (b : Nat) (T : TypeId) (cs : List V) (o : Nat) (vs : List V) (C : Array Value) (fz : Nat × Nat) (xs : List Value) : Cx :=
 { c with h := c.h.set b (.cells T (splice cs o vs)), w := setB c.w (c.ρ b).1 (.cells (spl C ((c.ρ b).2 + o) xs) T fz) }
theorem yjf (cs : List V) (o : Nat) (vs : List V) (h : o ≤ cs.length) : (splice cs o vs).length = max cs.length (o + vs.length) := by
 simp [splice]; omega
theorem yoc (cs : List V) (o : Nat) (vs : List V) (h : o ≤ cs.length) (j : Nat) : (splice cs o vs)[j]? = if o ≤ j ∧ j < o + vs.length then vs[j - o]? else cs[j]? := by
 simp only [splice]
 by_cases h1 : j < o
 ·rw [List.append_assoc, List.getElem?_append_left (by simp; omega), if_neg (by omega), List.getElem?_take, if_pos h1]
 ·by_cases h2 : j < o + vs.length
  ·rw [if_pos ⟨by omega, h2⟩, List.append_assoc, List.getElem?_append_right (by simp; omega), List.getElem?_append_left (by simp; omega)]
   congr 1; simp; omega
  ·rw [if_neg (by omega), List.getElem?_append_right (by simp; omega), List.getElem?_drop]
   simp only [List.length_append, List.length_take]
   rw [show o + vs.length + (j - (min o cs.length + vs.length)) = j by omega]
theorem ygl {vs : List V} (h : vs.all V.isCell = true) (n : Nat) : (vs.take n).all V.isCell = true := by
 rw [List.all_eq_true] at h ⊢; exact fun v hv => h v (List.mem_of_mem_take hv)
theorem yjg {vs : List V} (h : vs.all V.isCell = true) (n : Nat) : (vs.drop n).all V.isCell = true := by
 rw [List.all_eq_true] at h ⊢; exact fun v hv => h v (List.mem_of_mem_drop hv)
theorem ytk {cs vs : List V} (h1 : cs.all V.isCell = true) (h2 : vs.all V.isCell = true) {o : Nat} : (splice cs o vs).all V.isCell = true := by
 simp only [splice, List.all_append, Bool.and_eq_true]; exact ⟨⟨ygl h1 _, h2⟩, yjg h1 _⟩
theorem Rel.write {E : Env} {c : Cx} (hR : Rel E c) {b : Nat} {T : TypeId} {cs : List V} (hb : c.h[b]? = some (.cells T cs)) {C : Array Value} {lo hi : Nat} (hC : c.w.heap[(c.ρ b).1]? = some (.cells C T (lo, hi)))
  (o : Nat) {vs : List V} {xs : List Value} (hv : RVs c vs xs) (ho : o ≤ cs.length) (hl : (c.ρ b).2 + o + vs.length ≤ C.size) (hone : vs.all V.isCell = true) :
  Ext c (ybz c b T cs o vs C (lo, hi) xs) ∧ Rel E (ybz c b T cs o vs C (lo, hi) xs) := by
 have hbl : b < c.h.length := (List.getElem?_eq_some_iff.1 hb).1
 have hlive : live c.h b := ⟨_, hb, by simp⟩
 have hlt := hR.lt hlive
 have hset : ∀ b', (c.h.set b (.cells T (splice cs o vs)))[b']? = if b' = b then some (.cells T (splice cs o vs)) else c.h[b']? := fun b' => by
  by_cases e : b' = b
  ·subst e; rw [if_pos rfl]; simp [hbl]
  ·rw [if_neg e, List.getElem?_set_ne (by omega)]
 have hE : Ext c (ybz c b T cs o vs C (lo, hi) xs) := by
  refine ⟨fun _ h => h, fun r h => ?_, by simp [ybz], fun b' hb' n hn => ?_, fun b' hb' hm => ⟨?_, rfl⟩, fun b' hb' hm => ⟨?_, rfl⟩, fun r C' T' fz h => ?_, by simp [ybz, yfn], fun _ h => .inl h, fun r _ hn => by simp only [ybz]; rw [yda, if_neg (fun e : (c.ρ b).1 = r => hn (by rw [← e]; exact hR.mine b hlive))], fun _ h => .inl h, ⟨rfl, rfl, rfl⟩⟩
  ·simp only [ybz]; rw [yda, if_neg (fun e => hR.own b hlive (by rw [e]; exact h))]
  ·simp only [ybz, hsz] at hn ⊢
   rw [hset] at hn
   by_cases e : b' = b
   ·subst e; rw [if_pos rfl] at hn; simp at hn
    exact ⟨cs.length, by rw [hb], by rw [← hn, yjf _ _ _ ho]; omega, fun _ => trivial⟩
   ·rw [if_neg e] at hn; exact ⟨n, hn, Nat.le_refl _, fun _ => trivial⟩
  ·obtain ⟨es, he⟩ := hm
   simp only [ybz] at he; rw [hset] at he
   by_cases e : b' = b
   ·subst e; simp at he
   ·rw [if_neg e] at he; exact ⟨es, he⟩
  ·obtain ⟨s, he⟩ := hm
   simp only [ybz] at he; rw [hset] at he
   by_cases e : b' = b
   ·subst e; simp at he
   ·rw [if_neg e] at he; exact ⟨s, he⟩
  ·simp only [ybz]
   by_cases e : (c.ρ b).1 = r
   ·subst e; rw [hC] at h; cases h
    exact ⟨_, (lo, hi), by rw [yda, if_pos rfl, if_pos hlt], yoa _ _ _ (by rw [← hv.1]; omega)⟩
   ·exact ⟨C', fz, by rw [yda, if_neg e]; exact h, rfl⟩
 refine ⟨hE, hR.touch hE b rfl (fun b' e => ?_) (fun _ _ => rfl) (fun b' e hl' => ?_) (by simp [ybz, yfn]) (fun _ h => h) (fun _ => hR.mine b hlive) (fun T' cs' d h hd => by simp only [ybz] at h ⊢; rw [hset, if_pos rfl] at h; cases h; exact hR.ali b _ _ d hb hd) (fun T' cs' h => ?_) (fun es h => ?_) (fun s h => ?_) (fun h => ?_)⟩
 ·simp only [ybz]; rw [hset, if_neg e]
 ·simp only [ybz]; rw [yda, if_neg (fun q => e (hR.inj b' b hl' hlive q.symm))]
 ·simp only [ybz] at h; rw [hset, if_pos rfl] at h; cases h
  obtain ⟨C0, lo0, hi0, g1, g2, g3, g4, g5⟩ := hR.cells b T cs hb
  rw [hC] at g1; cases g1
  have hsz := yoa C ((c.ρ b).2 + o) xs (by rw [← hv.1]; omega)
  refine ⟨spl C ((c.ρ b).2 + o) xs, lo, hi, ?_, ?_, fun j v hj => ?_, fun j h1 h2 => g4 j h1 (by rw [hsz] at h2; exact h2), ytk g5.1 hone, by rw [hsz]; exact g5.2⟩
  ·simp only [ybz]; rw [yda, if_pos rfl, if_pos hlt]
  ·rw [hsz, yjf _ _ _ ho]; simp only [ybz]; omega
  ·rw [yoc _ _ _ ho] at hj
   simp only [ybz]
   rw [ylk _ _ _ (by rw [← hv.1]; omega)]
   by_cases e : o ≤ j ∧ j < o + vs.length
   ·rw [if_pos e] at hj
    obtain ⟨x, k1, k2⟩ := hv.get hj
    rw [if_pos (by rw [← hv.1]; omega)]
    exact ⟨x, by rw [show (c.ρ b).2 + j - ((c.ρ b).2 + o) = j - o by omega]; exact k1, k2.mono hE⟩
   ·rw [if_neg e] at hj
    rw [if_neg (by rw [← hv.1]; omega)]
    obtain ⟨x, k1, k2⟩ := g3 j v hj
    exact ⟨x, k1, k2.mono hE⟩
 ·simp only [ybz] at h; rw [hset, if_pos rfl] at h; cases h
 ·simp only [ybz] at h; rw [hset, if_pos rfl] at h; cases h
 ·exact ⟨hR.own b hlive, fun b' e hl' q => e (hR.inj b' b hl' hlive q)⟩
end Go.Sb

/- More of the steps on memory: a row that moves, a block that is given up, a map's entries; what a slice holds. -/

namespace Go.Sb
theorem ydq (h : Heap) (b : Nat) (k : Blk) (hb : b < h.length) (b' : Nat) : (h.set b k)[b']? = if b' = b then some k else h[b']? := by
 by_cases e : b' = b
 ·subst e; rw [if_pos rfl]; simp [hb]
 ·rw [if_neg e, List.getElem?_set_ne (by omega)]
theorem Rel.kill {E : Env} {c : Cx} (hR : Rel E c) (b : Nat) (hbl : b < c.h.length) : Ext c { c with h := c.h.set b .dead } ∧ Rel E { c with h := c.h.set b .dead } := by
 have hset := ydq c.h b .dead hbl
 have hE : Ext c { c with h := c.h.set b .dead } := by
  refine ⟨fun _ h => h, fun r h => rfl, by simp, fun b' hb' n hn => ?_, fun b' hb' hm => ⟨?_, rfl⟩, fun b' hb' hm => ⟨?_, rfl⟩, fun r C T fz h => ⟨C, fz, h, rfl⟩, Nat.le_refl _, fun _ h => .inl h, fun _ _ _ => rfl, fun _ h => .inl h, ⟨rfl, rfl, rfl⟩⟩
  ·simp only [hsz] at hn ⊢
   rw [hset] at hn
   by_cases e : b' = b
   ·rw [if_pos e] at hn; simp at hn
   ·rw [if_neg e] at hn; exact ⟨n, hn, Nat.le_refl _, fun _ => trivial⟩
  ·obtain ⟨es, he⟩ := hm
   simp only at he; rw [hset] at he
   by_cases e : b' = b
   ·rw [if_pos e] at he; simp at he
   ·rw [if_neg e] at he; exact ⟨es, he⟩
  ·obtain ⟨s, he⟩ := hm
   simp only at he; rw [hset] at he
   by_cases e : b' = b
   ·rw [if_pos e] at he; simp at he
   ·rw [if_neg e] at he; exact ⟨s, he⟩
 refine ⟨hE, hR.touch hE b rfl (fun b' e => ?_) (fun _ _ => rfl) (fun _ _ _ => rfl) (Nat.le_refl _) (fun _ h => h) (fun ⟨k, hk, hne⟩ => by simp only at hk; rw [hset, if_pos rfl] at hk; simp at hk; exact absurd hk.symm hne) (fun T' cs' d h _ => by simp only at h; rw [hset, if_pos rfl] at h; cases h) (fun T' cs' h => ?_) (fun es h => ?_) (fun s h => ?_) (fun h => ?_)⟩
 ·simp only; rw [hset, if_neg e]
 ·simp only at h; rw [hset, if_pos rfl] at h; cases h
 ·simp only at h; rw [hset, if_pos rfl] at h; cases h
 ·simp only at h; rw [hset, if_pos rfl] at h; cases h
 ·obtain ⟨k, hk, hne⟩ := h
  simp only at hk; rw [hset, if_pos rfl] at hk; simp at hk; exact absurd hk.symm hne
def moveC (c : Cx) (b : Nat) (T : TypeId) (cs : List V) (xs : Array Value) : Cx :=
 { c with ρ := updρ c.ρ b (c.w.heap.size, 0), h := c.h.set b (.cells T cs), w := { c.w with heap := c.w.heap.push (.cells xs T (0, 0)) }, my := fun r => c.my r ∨ r = c.w.heap.size }
theorem Rel.move {E : Env} {c : Cx} (hR : Rel E c) {b : Nat} {T0 T : TypeId} {cs0 cs : List V} (hb : c.h[b]? = some (.cells T0 cs0)) (hlt : cs0.length < cs.length) (xs : Array Value) (hl : cs.length ≤ xs.size) (hx : RVs c cs (xs.toList.take cs.length)) (hone : cs.all V.isCell = true) :
  Ext c (moveC c b T cs xs) ∧ Rel E (moveC c b T cs xs) := by
 have hbl : b < c.h.length := (List.getElem?_eq_some_iff.1 hb).1
 have hset := ydq c.h b (.cells T cs) hbl
 have hE : Ext c (moveC c b T cs xs) := by
  refine ⟨fun _ h => h, fun r h => ?_, by simp [moveC], fun b' hb' n hn => ?_, fun b' hb' hm => ?_, fun b' hb' hm => ?_, fun r C T fz h => ?_, by simp [moveC], fun r h => h.imp id (fun e => by omega), fun r hr _ => by simp only [moveC]; rw [Array.getElem?_push, if_neg (by omega)], fun _ h => .inl h, ⟨rfl, rfl, rfl⟩⟩
  ·have := hR.rolt r h; simp only [moveC]; rw [Array.getElem?_push, if_neg (by omega)]
  ·simp only [moveC, hsz] at hn ⊢
   rw [hset] at hn
   by_cases e : b' = b
   ·subst e; rw [if_pos rfl] at hn; simp at hn
    exact ⟨cs0.length, by rw [hb], by omega, fun q => by omega⟩
   ·rw [if_neg e] at hn; exact ⟨n, hn, Nat.le_refl _, fun _ => ydp _ _ _ e⟩
  ·obtain ⟨es, he⟩ := hm
   simp only [moveC] at he ⊢; rw [hset] at he
   by_cases e : b' = b
   ·rw [if_pos e] at he; simp at he
   ·rw [if_neg e] at he; exact ⟨⟨es, he⟩, ydp _ _ _ e⟩
  ·obtain ⟨s, he⟩ := hm
   simp only [moveC] at he ⊢; rw [hset] at he
   by_cases e : b' = b
   ·rw [if_pos e] at he; simp at he
   ·rw [if_neg e] at he; exact ⟨⟨s, he⟩, ydp _ _ _ e⟩
  ·have := (Array.getElem?_eq_some_iff.1 h).1
   exact ⟨C, fz, by simp only [moveC]; rw [Array.getElem?_push, if_neg (by omega)]; exact h, rfl⟩
 refine ⟨hE, hR.touch hE b rfl (fun b' e => ?_) (fun b' e => ydp _ _ _ e) (fun b' e hl' => ?_) (by simp [moveC]) (fun _ h => .inl h) (fun _ => .inr (by simp only [moveC, yba])) (fun T' cs' d _ _ => by simp only [moveC, yba, Nat.zero_mod]) (fun T' cs' h => ?_) (fun es h => ?_) (fun s h => ?_) (fun h => ?_)⟩
 ·simp only [moveC]; rw [hset, if_neg e]
 ·have := hR.lt hl'; simp only [moveC]; rw [Array.getElem?_push, if_neg (by omega)]
 ·simp only [moveC] at h; rw [hset, if_pos rfl] at h; cases h
  refine ⟨xs, 0, 0, ?_, ?_, fun j v hv => ?_, fun j _ hj => by omega, hone, .inl rfl⟩
  ·simp only [moveC, yba]; simp
  ·simp only [moveC, yba]; omega
  ·simp only [moveC, yba, Nat.zero_add]
   obtain ⟨x, h1, h2⟩ := hx.get hv
   rw [List.getElem?_take] at h1
   split at h1
   ·exact ⟨x, by simpa using h1, h2.mono hE⟩
   ·cases h1
 ·simp only [moveC] at h; rw [hset, if_pos rfl] at h; cases h
 ·simp only [moveC] at h; rw [hset, if_pos rfl] at h; cases h
 ·have e : ((moveC c b T cs xs).ρ b).1 = c.w.heap.size := by simp only [moveC, yba]
  rw [e]
  exact ⟨fun h => by have := hR.rolt _ h; omega, fun b' _ hl => by have := hR.lt hl; omega⟩
def ybn (c : Cx) (r d : Nat) (T : TypeId) (cs : List V) : Cx := { c with ρ := updρ c.ρ c.h.length (r, d), h := push c.h (.cells T cs) }
theorem Rel.adopt {E : Env} {c : Cx} (hR : Rel E c) {r d lo hi : Nat} {T : TypeId} {C : Array Value} (hr : c.w.heap[r]? = some (.cells C T (lo, hi))) (hro : ¬ c.ro r) (hmy : c.my r) (hfree : ∀ b, live c.h b → (c.ρ b).1 ≠ r)
  (cs : List V) (hl : d + cs.length ≤ C.size) (hx : ∀ (j : Nat) (v : V), cs[j]? = some v → ∃ x, C[d + j]? = some x ∧ RV c v x) (hf : ∀ j, d ≤ j → j < C.size → ¬ (lo ≤ j ∧ j < hi)) (hone : cs.all V.isCell = true ∧ FzE lo hi C.size) (hali : ∀ y, E.ty T = some y → d % y.size = 0) :
  Ext c (ybn c r d T cs) ∧ Rel E (ybn c r d T cs) := by
 have hg : ∀ b, b ≠ c.h.length → (push c.h (.cells T cs))[b]? = c.h[b]? := fun b hb => by rw [ydb, if_neg hb]
 have hE : Ext c (ybn c r d T cs) := by
  refine ⟨fun _ h => h, fun q h => rfl, by simp [ybn, push], fun b' hb' n hn => ?_, fun b' hb' hm => ?_, fun b' hb' hm => ?_, fun q C' T' fz h => ⟨C', fz, h, rfl⟩, Nat.le_refl _, fun _ h => .inl h, fun _ _ _ => rfl, fun _ h => .inl h, ⟨rfl, rfl, rfl⟩⟩
  ·refine ⟨n, ?_, Nat.le_refl _, fun _ => ydp _ _ _ (by omega)⟩
   simp only [ybn, Sb.hsz] at hn ⊢; rw [hg _ (by omega)] at hn; exact hn
  ·refine ⟨?_, ydp _ _ _ (by omega)⟩
   obtain ⟨es, he⟩ := hm; simp only [ybn] at he; rw [hg _ (by omega)] at he; exact ⟨es, he⟩
  ·refine ⟨?_, ydp _ _ _ (by omega)⟩
   obtain ⟨s, he⟩ := hm; simp only [ybn] at he; rw [hg _ (by omega)] at he; exact ⟨s, he⟩
 have hb0 : (ybn c r d T cs).h[c.h.length]? = some (.cells T cs) := by simp only [ybn]; rw [ydb, if_pos rfl]
 refine ⟨hE, hR.touch hE c.h.length rfl (fun b' e => ?_) (fun b' e => ydp _ _ _ e) (fun b' e hl' => rfl) (Nat.le_refl _) (fun _ h => h) (fun _ => by simp only [ybn, yba]; exact hmy) (fun T' cs' y h hy => by rw [hb0] at h; cases h; simp only [ybn, yba]; exact hali y hy) (fun T' cs' h => ?_) (fun es h => ?_) (fun s h => ?_) (fun h => ?_)⟩
 ·simp only [ybn]; exact hg _ e
 ·rw [hb0] at h; cases h
  refine ⟨C, lo, hi, ?_, ?_, fun j v hv => ?_, fun j h1 h2 => ?_, hone⟩
  ·simp only [ybn, yba]; exact hr
  ·simp only [ybn, yba]; exact hl
  ·simp only [ybn, yba]
   obtain ⟨x, k1, k2⟩ := hx j v hv
   exact ⟨x, k1, k2.mono hE⟩
  ·simp only [ybn, yba] at h1; exact hf j h1 h2
 ·rw [hb0] at h; cases h
 ·rw [hb0] at h; cases h
 ·have e : ((ybn c r d T cs).ρ c.h.length).1 = r := by simp only [ybn, yba]
  rw [e]; exact ⟨hro, fun b' _ hl => hfree b' hl⟩
def objC (c : Cx) (b : Nat) (k : Blk) (o : Obj) : Cx := { c with h := c.h.set b k, w := setB c.w (c.ρ b).1 o }
theorem Rel.obj {E : Env} {c : Cx} (hR : Rel E c) {b : Nat} {k0 k : Blk} {o0 o : Obj} (hb : c.h[b]? = some k0) (hlive : k0 ≠ .dead) (hw0 : c.w.heap[(c.ρ b).1]? = some o0) (hn0 : ∀ C T fz, o0 ≠ .cells C T fz) (hn1 : ∀ T cs, k ≠ .cells T cs)
  (hmm : (∃ es, k = .map es) → isMap c.h b) (hii : (∃ L, k = .siter L) → yez c.h b)
  (h0m : ∀ es, k = .map es → ∃ (xs : Array MapEntry) (clock : Nat), o = .map xs clock ∧ xs.size = es.length ∧ (clock = xs.size ∧ ∀ (i : Nat) (e : MapEntry), xs[i]? = some e → e.born = i) ∧ ∀ (i : Nat) (kk v : V), es[i]? = some (kk, v) → ∃ e, xs[i]? = some e ∧ RV c kk e.key ∧ RV c v e.val)
  (h0i : ∀ L, k = .siter L → ∃ lp, o = .loop lp ∧ LoopOk c L lp) :
  Ext c (objC c b k o) ∧ Rel E (objC c b k o) := by
 have hbl : b < c.h.length := (List.getElem?_eq_some_iff.1 hb).1
 have hl : live c.h b := ⟨k0, hb, hlive⟩
 have hlt := hR.lt hl
 have hset := ydq c.h b k hbl
 have hE : Ext c (objC c b k o) := by
  refine ⟨fun _ h => h, fun r h => ?_, by simp [objC], fun b' hb' n hn => ?_, fun b' hb' hm => ⟨?_, rfl⟩, fun b' hb' hm => ⟨?_, rfl⟩, fun r C T fz h => ?_, by simp [objC, yfn], fun _ h => .inl h, fun r _ hn => by simp only [objC]; rw [yda, if_neg (fun e : (c.ρ b).1 = r => hn (by rw [← e]; exact hR.mine b hl))], fun _ h => .inl h, ⟨rfl, rfl, rfl⟩⟩
  ·simp only [objC]; rw [yda, if_neg (fun e => hR.own b hl (by rw [e]; exact h))]
  ·simp only [objC, hsz] at hn ⊢
   rw [hset] at hn
   by_cases e : b' = b
   ·rw [if_pos e] at hn
    cases k with
    | cells T cs => exact absurd rfl (hn1 T cs)
    | _ => simp at hn
   ·rw [if_neg e] at hn; exact ⟨n, hn, Nat.le_refl _, fun _ => trivial⟩
  ·obtain ⟨es, he⟩ := hm
   simp only [objC] at he; rw [hset] at he
   by_cases e : b' = b
   ·rw [if_pos e] at he; rw [e]; exact hmm ⟨es, by simpa using he⟩
   ·rw [if_neg e] at he; exact ⟨es, he⟩
  ·obtain ⟨s, he⟩ := hm
   simp only [objC] at he; rw [hset] at he
   by_cases e : b' = b
   ·rw [if_pos e] at he; rw [e]; exact hii ⟨s, by simpa using he⟩
   ·rw [if_neg e] at he; exact ⟨s, he⟩
  ·refine ⟨C, fz, ?_, rfl⟩
   simp only [objC]
   rw [yda, if_neg (fun e => by subst e; rw [hw0] at h; simp at h; exact hn0 _ _ _ h)]
   exact h
 refine ⟨hE, hR.touch hE b rfl (fun b' e => ?_) (fun _ _ => rfl) (fun b' e hl' => ?_) (by simp [objC, yfn]) (fun _ h => h) (fun _ => hR.mine b hl) (fun T' cs' d h _ => by simp only [objC] at h; rw [hset, if_pos rfl] at h; simp at h; exact absurd h (hn1 _ _)) (fun T' cs' h => ?_) (fun es h => ?_) (fun s h => ?_) (fun h => ?_)⟩
 ·simp only [objC]; rw [hset, if_neg e]
 ·simp only [objC]; rw [yda, if_neg (fun q => e (hR.inj b' b hl' hl q.symm))]
 ·simp only [objC] at h; rw [hset, if_pos rfl] at h; simp at h; exact absurd h (hn1 _ _)
 ·simp only [objC] at h; rw [hset, if_pos rfl] at h; simp at h
  obtain ⟨xs, clock, ho, h1, h0, h2⟩ := h0m es h
  subst ho
  refine ⟨xs, clock, ?_, h1, h0, fun i kk v hv => ?_⟩
  ·simp only [objC]; rw [yda, if_pos rfl, if_pos hlt]
  ·obtain ⟨e, q1, q2, q3⟩ := h2 i kk v hv
   exact ⟨e, q1, q2.mono hE, q3.mono hE⟩
 ·simp only [objC] at h; rw [hset, if_pos rfl] at h; simp at h
  obtain ⟨lp, ho, hlp⟩ := h0i s h
  subst ho
  exact ⟨lp, by simp only [objC]; rw [yda, if_pos rfl, if_pos hlt], hlp.mono hE⟩
 ·exact ⟨hR.own b hl, fun b' e hl' q => e (hR.inj b' b hl' hl q)⟩
/-! What a slice holds -/
theorem yod {α β : Type} (f : α → List β) (e : Nat) (he : 0 < e) : ∀ (es : List α) (h : ∀ (i : Nat) (v : α), es[i]? = some v → (f v).length = e) (q : Nat), (es.flatMap f)[q]? = (es[q / e]?).bind fun v => (f v)[q % e]?
 | [], _, q => by simp
 | v :: es, h, q => by
  have hv := h 0 v rfl
  have ih := yod f e he es (fun i v hv => h (i + 1) v (by simpa using hv))
  rw [List.flatMap_cons]
  by_cases hq : q < e
  ·rw [List.getElem?_append_left (by omega), Nat.div_eq_of_lt hq, Nat.mod_eq_of_lt hq]; simp
  ·rw [List.getElem?_append_right (by omega), ih, hv]
   have h1 : q / e = (q - e) / e + 1 := by rw [← Nat.sub_add_cancel (show e ≤ q by omega)]; simp [Nat.add_div_right _ he]
   have h2 : q % e = (q - e) % e := by rw [← Nat.sub_add_cancel (show e ≤ q by omega)]; simp
   rw [h1, h2]; simp
theorem yoe {α β : Type} (f : α → List β) (e : Nat) : ∀ (es : List α) (h : ∀ (i : Nat) (v : α), es[i]? = some v → (f v).length = e), (es.flatMap f).length = es.length * e
 | [], _ => by simp
 | v :: es, h => by
  have hv := h 0 v rfl
  have ih := yoe f e es (fun i v hv => h (i + 1) v (by simpa using hv))
  rw [List.flatMap_cons, List.length_append, ih, hv, List.length_cons, Nat.succ_mul]; omega
theorem yof (l : List UInt8) (i j : Nat) : (ByteArray.mk ⟨l⟩).extract i j = ⟨⟨(l.take j).drop i⟩⟩ := by
 have h : ((ByteArray.mk ⟨l⟩).extract i j).data = ⟨(l.take j).drop i⟩ := by
  rw [ByteArray.data_extract]
  apply Array.ext'
  simp [Array.toList_extract, List.extract_eq_take_drop, List.drop_take]
 cases he : (ByteArray.mk ⟨l⟩).extract i j with
 | mk d => rw [he] at h; simp only at h; rw [h]
def bv (l : List UInt8) : List V := l.map fun b => .int .u8 b.toNat
def bx (l : List UInt8) : List Value := l.map fun b => .int .u8 b.toNat
theorem RVs.bytes (c : Cx) (l : List UInt8) : RVs c (bv l) (bx l) := by
 refine ⟨by simp [bv, bx], fun i v x hv hx => ?_⟩
 simp only [bv, bx, List.getElem?_map, Option.map_eq_some_iff] at hv hx
 obtain ⟨b, hb, rfl⟩ := hv
 obtain ⟨b', hb', rfl⟩ := hx
 rw [hb] at hb'; cases hb'
 exact .g (.int _ _)
theorem ylm {P : Program} (w : World) (a : Addr) (ys : List Value) (h : ∀ (j : Nat) (y : Value), ys[j]? = some y → w.cell? (a.add j) = some y) (m : Nat) (hm : m ≤ ys.length) :
  (loadCells a m).run P w = .ok (ys.take m).toArray w := by
 have := run_loadCells_list (P := P) w a (ys.take m) (fun j y hj => by
  rw [List.getElem?_take] at hj
  split at hj
  ·exact h j y hj
  ·cases hj)
 rwa [List.length_take, Nat.min_eq_left hm] at this
theorem CellsOk.row {c : Cx} {b : Nat} {T : TypeId} {cs : List V} (h : CellsOk c b T cs) : ∃ (C : Array Value) (lo hi : Nat), c.w.heap[(c.ρ b).1]? = some (.cells C T (lo, hi)) ∧ (c.ρ b).2 + cs.length ≤ C.size ∧
  RVs c cs ((C.toList.drop (c.ρ b).2).take cs.length) ∧ (∀ j, (c.ρ b).2 ≤ j → j < C.size → ¬ (lo ≤ j ∧ j < hi)) ∧ cs.all V.isCell = true := by
 obtain ⟨C, lo, hi, h1, h2, h3, h4, h5⟩ := h
 refine ⟨C, lo, hi, h1, h2, ⟨by simp; omega, fun i v x hv hx => ?_⟩, h4, h5.1⟩
 obtain ⟨y, hy, hr⟩ := h3 i v hv
 rw [List.getElem?_take] at hx
 split at hx
 ·rw [List.getElem?_drop] at hx
  have : C[(c.ρ b).2 + i]? = some x := by simpa using hx
  rw [hy] at this; cases this; exact hr
 ·cases hx
theorem yjh {E : Env} {c : Cx} {P : Program} (hR : Rel E c) {e n : Nat} {v : V} {x : Value} {cs : List V} (he : 0 < e) (hc : contents c.h e v = some (n, cs)) (hv : RV c v x) :
  cs.length = n * e ∧ cs.all V.isCell = true ∧ (∀ w' : World, (Builtin.lenOf x).run P w' = .ok n w') ∧ ∃ ys : List Value, RVs c cs ys ∧ ∀ w' : World, w'.heap = c.w.heap → ∀ m, m ≤ n → (Builtin.firstCells e m x).run P w' = .ok (ys.take (m * e)).toArray w' := by
 have hcell : ∀ (w' : World), w'.heap = c.w.heap → ∀ a, w'.cell? a = c.w.cell? a := fun w' hw a => by simp only [World.cell?, hw]
 cases v <;> simp only [contents] at hc
 case nils =>
  cases hc; rw [hv.nils_inv]
  exact ⟨by simp, rfl, fun _ => rfl, [], RVs.nil c, fun w' _ m hm => by simp [Builtin.firstCells]⟩
 case emp =>
  cases hc; obtain ⟨a, rfl⟩ := hv.emp_inv
  refine ⟨by simp, rfl, fun _ => rfl, [], RVs.nil c, fun w' _ m hm => ?_⟩
  have : m = 0 := by omega
  subst this
  simp [Builtin.firstCells, loadCells, loadCellsFrom]
 case str l =>
  split at hc
  ·rename_i h1; subst h1
   cases hc; rw [hv.str_inv]
   refine ⟨by simp, by simp [V.isCell], fun _ => by simp [Builtin.lenOf, ByteArray.size], bx l, RVs.bytes c l, fun w' _ m hm => ?_⟩
   simp only [Builtin.firstCells, yof, Nat.mul_one]
   simp [bx]
  ·cases hc
 case lst z es =>
  split at hc
  ·rename_i h1; subst h1
   cases hc
   obtain ⟨a, cap, f, rfl, hlen, q1, q2, q3, q4, q5⟩ := hv.lst_inv
   have hL := yoe V.cells z es hlen
   have hcl : ∀ q, q < es.length * z → c.w.cell? (a.add q) = some (f (q / z) (q % z)) := fun q hq => by
    have hi : q / z < es.length := by rw [Nat.div_lt_iff_lt_mul he]; exact hq
    have := q1 (q / z) (q % z) hi (Nat.mod_lt _ he)
    rw [Nat.mul_comm, Nat.div_add_mod] at this; exact this
   refine ⟨hL, ?_, fun _ => by simp [Builtin.lenOf], (List.range (es.length * z)).map fun q => f (q / z) (q % z), ⟨by simp [hL], fun q v y hq hy => ?_⟩, fun w' hw m hm => ?_⟩
   ·rw [List.all_eq_true]
    intro u hu
    obtain ⟨v, hv1, hv2⟩ := List.mem_flatMap.1 hu
    obtain ⟨i, hi, rfl⟩ := List.getElem_of_mem hv1
    exact List.all_eq_true.1 (q5 i _ (List.getElem?_eq_getElem hi)) u hv2
   ·rw [yod V.cells z he es hlen] at hq
    rw [List.getElem?_map] at hy
    obtain ⟨u, hu, hv'⟩ := Option.bind_eq_some_iff.1 hq
    obtain ⟨k, hk, rfl⟩ := Option.map_eq_some_iff.1 hy
    have : k = q := by
     rw [List.getElem?_range (by have := (List.getElem?_eq_some_iff.1 hk).1; simpa using this)] at hk; simpa using hk.symm
    subst this
    exact .g (q2 _ _ u v hu hv')
   ·simp only [Builtin.firstCells]
    refine ylm w' a _ (fun j y hj => ?_) (m * z) (by simp; exact Nat.mul_le_mul_right z hm)
    rw [List.getElem?_map] at hj
    obtain ⟨k, hk, rfl⟩ := Option.map_eq_some_iff.1 hj
    have hlt : j < es.length * z := by have := (List.getElem?_eq_some_iff.1 hk).1; simpa using this
    rw [List.getElem?_range hlt] at hk; cases hk
    rw [hcell w' hw]; exact hcl j hlt
  ·cases hc
 case sl b o z len cap sz =>
  split at hc
  ·rename_i hz; subst hz
   obtain ⟨p, hp, hc⟩ := Option.bind_eq_some_iff.1 hc
   split at hc
   ·rename_i hle
    cases hc
    obtain ⟨hb, hbl⟩ := ycj hp
    have hhs : hsz c.h b = some sz := by rw [yci hb, hbl]
    obtain ⟨cap', C1, T1, fz1, rfl, q1, q2, q3⟩ := hv.sl_inv hhs
    obtain ⟨C, lo, hi, g1, g2, g3, g4, g5⟩ := (hR.cells b _ _ hb).row
    have hL : ((p.2.drop o).take (n * z)).length = n * z := by simp; omega
    refine ⟨hL, ygl (yjg g5 _) _, fun _ => by simp [Builtin.lenOf], (((C.toList.drop (c.ρ b).2).take p.2.length).drop o).take (n * z), (g3.drop o).take (n * z), fun w' hw m hm => ?_⟩
    have hml : m * z ≤ n * z := Nat.mul_le_mul_right z hm
    simp only [Builtin.firstCells]
    refine ylm w' _ _ (fun j y hj => ?_) (m * z) (by simp; omega)
    rw [hcell w' hw, Addr.add_mk]
    rw [List.getElem?_take] at hj
    split at hj
    ·rw [List.getElem?_drop, List.getElem?_take] at hj
     split at hj
     ·rw [List.getElem?_drop] at hj
      simp only [World.cell?, g1]
      have : C[(c.ρ b).2 + (o + j)]? = some y := by simpa using hj
      simpa [Nat.add_assoc] using this
     ·cases hj
    ·cases hj
   ·cases hc
  ·cases hc
 all_goals cases hc
end Go.Sb
