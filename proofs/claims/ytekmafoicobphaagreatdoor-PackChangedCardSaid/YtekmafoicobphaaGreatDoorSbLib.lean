/- Calls: what the evaluator answers for a call holds of the machine's. -/
import Derived.Test.YtekmafoicobphaaGreatDoorSbGuard
set_option linter.unusedVariables false
set_option linter.unusedSimpArgs false
namespace Go.Sb
section
variable {P : Program} {E : Env}
theorem ygu {α β : Type} {f : α → Option β} : ∀ {l : List α} {r : List β}, l.mapM f = some r → r.length = l.length ∧ ∀ (i : Nat) (v : β), r[i]? = some v → ∃ u, l[i]? = some u ∧ f u = some v
 | [], r, h => by simp at h; subst h; exact ⟨rfl, fun i v hv => by simp at hv⟩
 | a :: l, r, h => by
  simp only [List.mapM_cons, Option.bind_eq_bind, Option.bind_eq_some_iff] at h
  obtain ⟨b, hb, bs, hbs, h⟩ := h
  cases h
  obtain ⟨h1, h2⟩ := ygu hbs
  refine ⟨by simp [h1], fun i v hv => ?_⟩
  cases i with
  | zero => simp at hv; subst hv; exact ⟨a, rfl, hb⟩
  | succ i => simp at hv; simpa using h2 i v hv
theorem ypp {h : Heap} {n : Nat} {v g : V} (hc : v.isCell = true) (hf : fz E h n v = some g) : g.isCell = true := by
 cases n with
 | zero => simp [fz] at hf
 | succ n =>
  cases v <;> simp only [fz] at hf <;> first | (cases hf; done) | (cases hf; exact hc) | (simp [V.isCell] at hc; done) | skip
  case ptr b o sz => obtain ⟨q, _, hf⟩ := Option.bind_eq_some_iff.1 hf; obtain ⟨cs, _, rfl⟩ := Option.map_eq_some_iff.1 hf; rfl
  case sl b o e len cap sz =>
   obtain ⟨q, _, hf⟩ := Option.bind_eq_some_iff.1 hf
   obtain ⟨d, _, hf⟩ := Option.bind_eq_some_iff.1 hf
   split at hf
   ·obtain ⟨cs, _, rfl⟩ := Option.map_eq_some_iff.1 hf; rfl
   ·cases hf
  case fn f cs => obtain ⟨cs, _, rfl⟩ := Option.map_eq_some_iff.1 hf; rfl
  case ifc t x => obtain ⟨cs, _, rfl⟩ := Option.map_eq_some_iff.1 hf; rfl
def Cx.all (c : Cx) : Nat → Prop := fun r => r < c.w.heap.size ∧ (c.ro r ∨ c.my r)
theorem ypq {v : V} (h : v.isCell = true) : v.cells = [v] := by cases v <;> first | rfl | simp [V.isCell] at h
theorem fz_rg {c : Cx} (hR : Rel E c) : ∀ (n : Nat) (v : V) (x : Value) (g : V), RV c v x → fz E c.h n v = some g → RG c.all c.w g x
 | 0, _, _, _, _, hf => by simp [fz] at hf
 | n + 1, v, x, g, hv, hf => by
  have base : ∀ u, RG c.ro c.w u x → RG c.all c.w u x := fun u h => h.mono (fun r hr => ⟨hR.rolt r hr, .inl hr⟩) (fun _ _ => rfl)
  have inv : ∀ u, RV c u x → (∀ f cs, u ≠ .fn f cs) → (∀ t y, u ≠ .ifc t y) → (∀ cs, u ≠ .agg cs) → (∀ cs, u ≠ .tup cs) → (∀ a b s, u ≠ .ptr a b s) → (∀ a b s e f k, u ≠ .sl a b s e f k) → (∀ b, u ≠ .mp b) → (∀ b, u ≠ .it b) → u ≠ .junk → (∀ f cs, u ≠ .bm f cs) → (∀ r, u ≠ .raw r) → RG c.ro c.w u x := by
   intro u h h1 h2 h3 h4 h5 h6 h7 h8 h9 h10 h11
   cases h with
   | g h => exact h
   | ptr => exact absurd rfl (h5 _ _ _)
   | sl => exact absurd rfl (h6 _ _ _ _ _ _)
   | mp => exact absurd rfl (h7 _)
   | it => exact absurd rfl (h8 _)
   | fn => exact absurd rfl (h1 _ _)
   | ifc => exact absurd rfl (h2 _ _)
   | agg => exact absurd rfl (h3 _)
   | tup => exact absurd rfl (h4 _)
   | junk => exact absurd rfl h9
   | bm => exact absurd rfl (h10 _ _)
   | raw => exact absurd rfl (h11 _)
  have row : ∀ (cs gs : List V) (xs : List Value), RVs c cs xs → cs.mapM (fz E c.h n) = some gs → gs.length = xs.length ∧ ∀ (i : Nat) (v : V) (x : Value), gs[i]? = some v → xs[i]? = some x → RG c.all c.w v x := by
   intro cs gs xs hcs hm
   obtain ⟨h1, h2⟩ := ygu hm
   refine ⟨by rw [h1, hcs.1], fun i v x hi hx => ?_⟩
   obtain ⟨u, hu, hfu⟩ := h2 i v hi
   exact fz_rg hR n u x v (hcs.2 i u x hu hx) hfu
  have blk : ∀ {b sz : Nat} {q : TypeId × List V}, yaz c.h b sz = some q → c.all (c.ρ b).1 := by
   intro b sz q hq
   have hl : live c.h b := ⟨_, (ycj hq).1, by simp⟩
   exact ⟨hR.lt hl, .inr (hR.mine b hl)⟩
  cases v <;> simp only [fz] at hf
  case mp => cases hf
  case it => cases hf
  case junk => cases hf
  case raw => cases hf
  case ptr b o sz =>
   obtain ⟨q, hq, hf⟩ := Option.bind_eq_some_iff.1 hf
   obtain ⟨gs, hgs, rfl⟩ := Option.map_eq_some_iff.1 hf
   obtain ⟨hb, hbl⟩ := ycj hq
   have e := hv.ptr_inv (by rw [yci hb, hbl])
   obtain ⟨ys, h1, h2⟩ := yjj hR hq o
   obtain ⟨k1, k2⟩ := row _ _ _ h1 hgs
   rw [e]
   refine .rop gs _ (fun j => ys.getD j undef) (fun j hj => ?_) (fun j u hu => ?_) (fun _ => blk hq)
   ·rw [k1] at hj
    exact h2 j _ (by rw [List.getD_eq_getElem?_getD, List.getElem?_eq_getElem hj]; rfl)
   ·have hj : j < ys.length := by rw [← k1]; exact (List.getElem?_eq_some_iff.1 hu).1
    exact k2 j u _ hu (by rw [List.getD_eq_getElem?_getD, List.getElem?_eq_getElem hj]; rfl)
  case sl b o e len cap sz =>
   obtain ⟨q, hq, hf⟩ := Option.bind_eq_some_iff.1 hf
   obtain ⟨d, hd, hf⟩ := Option.bind_eq_some_iff.1 hf
   split at hf
   ·rename_i hcond
    obtain ⟨hde, he, hle, hlc⟩ := hcond
    obtain ⟨es, hes, rfl⟩ := Option.map_eq_some_iff.1 hf
    obtain ⟨hb, hbl⟩ := ycj hq
    obtain ⟨cap', C1, T1, fz1, e1, q1, q2, q3⟩ := hv.sl_inv (by rw [yci hb, hbl])
    obtain ⟨ys, h1, h2⟩ := yjj hR hq o
    obtain ⟨C, lo, hi, g1, g2, g3, g4, g5⟩ := (hR.cells b _ _ hb).row
    rw [g1] at q2; cases q2
    have hyl : ys.length = q.2.length - o := by rw [← h1.1]; simp
    have hidx : ∀ i j, i < len → j < e → i * e + j < ys.length := fun i j hi hj => by
     have : (i + 1) * e ≤ len * e := Nat.mul_le_mul_right _ hi
     rw [Nat.add_mul, Nat.one_mul] at this
     omega
    have key : es.length = len ∧ (∀ (i : Nat) (v : V), es[i]? = some v → v.cells.length = e ∧ v.cells.all V.isCell = true) ∧ (∀ (i j : Nat) (v u : V), es[i]? = some v → v.cells[j]? = some u → RG c.all c.w u (ys.getD (i * e + j) undef)) := by
     split at hes
     ·obtain ⟨k1, k2⟩ := ygu hes
      simp only [List.length_range] at k1
      have get : ∀ (i : Nat) (v : V), es[i]? = some v → i < len ∧ ∃ cs gs, cs = (q.2.drop (o + i * e)).take e ∧ cs.mapM (fz E c.h n) = some gs ∧ v = .agg gs := by
       intro i v hi
       obtain ⟨u, hu, hfu⟩ := k2 i v hi
       have hlt : i < len := by have := (List.getElem?_eq_some_iff.1 hi).1; omega
       rw [List.getElem?_range hlt] at hu; cases hu
       obtain ⟨gs, hgs, rfl⟩ := Option.map_eq_some_iff.1 hfu
       exact ⟨hlt, _, gs, rfl, hgs, rfl⟩
      refine ⟨k1, fun i v hi => ?_, fun i j v u hi hj => ?_⟩
      ·obtain ⟨hlt, cs, gs, rfl, hgs, rfl⟩ := get i v hi
       obtain ⟨m1, m2⟩ := ygu hgs
       have := hidx i (e - 1) hlt (by omega)
       refine ⟨by simp only [V.cells, m1, List.length_take, List.length_drop]; omega, ?_⟩
       rw [List.all_eq_true]
       intro y hy
       obtain ⟨i2, hi2, rfl⟩ := List.getElem_of_mem hy
       obtain ⟨u, hu, hfu⟩ := m2 i2 _ (List.getElem?_eq_getElem hi2)
       refine ypp ?_ hfu
       have := ygl (yjg g5 (o + i * e)) e
       exact List.all_eq_true.1 this _ (List.mem_of_getElem? hu)
      ·obtain ⟨hlt, cs, gs, rfl, hgs, rfl⟩ := get i v hi
       have hsub : RVs c ((q.2.drop (o + i * e)).take e) ((ys.drop (i * e)).take e) := by
        rw [← List.drop_drop]
        exact (h1.drop (i * e)).take e
       obtain ⟨m1, m2⟩ := row _ _ _ hsub hgs
       have hje : j < e := by
        have := (List.getElem?_eq_some_iff.1 hj).1
        simp only [V.cells] at this
        rw [m1] at this; simp at this; omega
       have hlt2 := hidx i j hlt hje
       refine m2 j u _ hj ?_
       rw [List.getElem?_take, if_pos hje, List.getElem?_drop, List.getD_eq_getElem?_getD, List.getElem?_eq_getElem hlt2]; rfl
     ·split at hes
      ·rename_i he1
       subst he1
       obtain ⟨k1, k2⟩ := ygu hes
       have hcell : ∀ (i : Nat) (v : V), es[i]? = some v → v.isCell = true := fun i v hi => by
        obtain ⟨u, hu, hfu⟩ := k2 i v hi
        exact ypp (List.all_eq_true.1 (ygl (yjg g5 o) len) u (List.mem_of_getElem? hu)) hfu
       refine ⟨by rw [k1]; simp; omega, fun i v hi => ?_, fun i j v u hi hj => ?_⟩
       ·have := hcell i v hi
        rw [ypq this]; simp [this]
       ·rw [ypq (hcell i v hi)] at hj
        have hj0 : j = 0 := by have := (List.getElem?_eq_some_iff.1 hj).1; simpa using this
        subst hj0
        cases hj
        obtain ⟨m1, m2⟩ := row _ _ _ (h1.take len) hes
        have hil : i < len := by have := (List.getElem?_eq_some_iff.1 hi).1; rw [m1] at this; simp at this; omega
        have hlt2 := hidx i 0 hil (by omega)
        refine m2 i _ _ hi ?_
        have hlt3 : i < ys.length := by simpa using hlt2
        rw [List.getElem?_take, if_pos hil, List.getD_eq_getElem?_getD, Nat.mul_one, Nat.add_zero, List.getElem?_eq_getElem hlt3]; rfl
      ·cases hes
    obtain ⟨k1, k2, k3⟩ := key
    rw [e1]
    have := RG.lst (ro := c.all) (w := c.w) es ⟨(c.ρ b).1, (c.ρ b).2 + o, none⟩ cap' e (fun i j => ys.getD (i * e + j) undef) (fun i v hi => (k2 i v hi).1) (fun i j hi hj => ?_) (fun i j v u hi hj => k3 i j v u hi hj) (fun _ => blk hq) (by omega) (fun i v hi => (k2 i v hi).2)
    ·rw [k1] at this; exact this
    ·have := hidx i j (by omega) hj
     exact h2 _ _ (by rw [List.getD_eq_getElem?_getD, List.getElem?_eq_getElem this]; rfl)
   ·cases hf
  case fn f cs =>
   obtain ⟨gs, hgs, rfl⟩ := Option.map_eq_some_iff.1 hf
   obtain ⟨xs, rfl, hxs⟩ := hv.fn_inv
   obtain ⟨k1, k2⟩ := row _ _ _ hxs hgs
   exact .fn f gs xs (by simpa using k1) fun i v x hi hx => k2 i v x hi (by simpa using hx)
  case ifc t y =>
   obtain ⟨g', hg', rfl⟩ := Option.map_eq_some_iff.1 hf
   obtain ⟨y', rfl, hy⟩ := hv.ifc_inv (fun e => by subst e; cases n <;> simp [fz] at hg')
   exact .ifc t g' y' (fz_rg hR n y y' g' hy hg')
  case agg cs =>
   obtain ⟨gs, hgs, rfl⟩ := Option.map_eq_some_iff.1 hf
   obtain ⟨xs, rfl, hxs⟩ := hv.agg_inv
   obtain ⟨k1, k2⟩ := row _ _ _ hxs hgs
   exact .agg gs xs (by simpa using k1) fun i v x hi hx => k2 i v x hi (by simpa using hx)
  case tup cs =>
   obtain ⟨gs, hgs, rfl⟩ := Option.map_eq_some_iff.1 hf
   obtain ⟨xs, rfl, hxs⟩ := hv.tup_inv
   obtain ⟨k1, k2⟩ := row _ _ _ hxs hgs
   exact .tup gs xs (by simpa using k1) fun i v x hi hx => k2 i v x hi (by simpa using hx)
  all_goals first | (cases hf; done) | (simp only [Option.some.injEq] at hf; subst hf; exact base _ (inv _ hv (by simp) (by simp) (by simp) (by simp) (by simp) (by simp) (by simp) (by simp) (by simp) (by simp) (by simp)))
theorem yjy {cs : List V} (h : V.norefs cs = true) {i : Nat} {v : V} (hv : cs[i]? = some v) : v.noref = true := by
 induction cs generalizing i with
 | nil => simp at hv
 | cons c cs ih =>
  simp only [V.norefs, Bool.and_eq_true] at h
  cases i with
  | zero => simp at hv; subst hv; exact h.1
  | succ i => exact ih h.2 (by simpa using hv)
theorem ypr {cs : List V} (h : V.flats cs = true) {i : Nat} {v : V} (hv : cs[i]? = some v) : v.flat = true := by
 induction cs generalizing i with
 | nil => simp at hv
 | cons c cs ih =>
  simp only [V.flats, Bool.and_eq_true] at h
  cases i with
  | zero => simp at hv; subst hv; exact h.1
  | succ i => exact ih h.2 (by simpa using hv)
theorem yps {c : Cx} {v : V} {x : Value} (h : RV c v x) : v.noref = true → RG c.ro c.w v x := by
 induction h with
 | g h => intro _; exact h
 | ptr => intro h; simp [V.noref] at h
 | sl => intro h; simp [V.noref] at h
 | mp => intro h; simp [V.noref] at h
 | it => intro h; simp [V.noref] at h
 | bm => intro h; simp [V.noref] at h
 | junk => intro h; simp [V.noref] at h
 | raw => intro h; simp [V.noref] at h
 | fn f cs xs hl k ih => intro h; simp only [V.noref] at h; exact .fn f cs xs hl fun i v x hv hx => ih i v x hv hx (yjy h hv)
 | ifc t v x k ih => intro h; simp only [V.noref] at h; exact .ifc t v x (ih h)
 | agg cs xs hl k ih => intro h; simp only [V.noref] at h; exact .agg cs xs hl fun i v x hv hx => ih i v x hv hx (yjy h hv)
 | tup cs xs hl k ih => intro h; simp only [V.noref] at h; exact .tup cs xs hl fun i v x hv hx => ih i v x hv hx (yjy h hv)
theorem flat_rg {ro ro' : Nat → Prop} {w w' : World} {v : V} {x : Value} (h : RG ro w v x) : v.flat = true → RG ro' w' v x := by
 induction h with
 | bool b => intro _; exact .bool b
 | int k n => intro _; exact .int k n
 | ub k n => intro _; exact .ub k n
 | str l => intro _; exact .str l
 | nilp => intro _; exact .nilp
 | nils => intro _; exact .nils
 | nilm => intro _; exact .nilm
 | nilf => intro _; exact .nilf
 | nili => intro _; exact .nili
 | emp a => intro h; simp [V.flat] at h
 | rop => intro h; simp [V.flat] at h
 | lst => intro h; simp [V.flat] at h
 | fn => intro h; simp [V.flat] at h
 | ifc t v x k ih => intro h; simp only [V.flat] at h; exact .ifc t v x (ih h)
 | ifo t u x => intro _; exact .ifo t u x
 | agg cs xs hl k ih => intro h; simp only [V.flat] at h; exact .agg cs xs hl fun i v x hv hx => ih i v x hv hx (ypr h hv)
 | tup cs xs hl k ih => intro h; simp only [V.flat] at h; exact .tup cs xs hl fun i v x hv hx => ih i v x hv hx (ypr h hv)
theorem yhs {f : V → Option V} (hf : ∀ v g, v.noref = true → f v = some g → g = v) : ∀ (l r : List V), V.norefs l = true → l.mapM f = some r → r = l
 | [], r, _, h => by simp at h; exact h
 | a :: l, r, hn, h => by
  simp only [V.norefs, Bool.and_eq_true] at hn
  simp only [List.mapM_cons, Option.bind_eq_bind, Option.bind_eq_some_iff] at h
  obtain ⟨b, hb, bs, hbs, h⟩ := h
  cases h
  rw [hf a b hn.1 hb, yhs hf l bs hn.2 hbs]
theorem yht {h : Heap} : ∀ (n : Nat) (v g : V), v.noref = true → fz E h n v = some g → g = v
 | 0, _, _, _, hf => by simp [fz] at hf
 | n + 1, v, g, hn, hf => by
  cases v <;> simp only [fz] at hf <;> simp only [V.noref] at hn
  case ptr => cases hn
  case sl => cases hn
  case mp => cases hn
  case it => cases hn
  case bm => cases hn
  case junk => cases hn
  case raw => cases hn
  case fn f cs => obtain ⟨gs, hgs, rfl⟩ := Option.map_eq_some_iff.1 hf; rw [yhs (yht n) cs gs hn hgs]
  case agg cs => obtain ⟨gs, hgs, rfl⟩ := Option.map_eq_some_iff.1 hf; rw [yhs (yht n) cs gs hn hgs]
  case tup cs => obtain ⟨gs, hgs, rfl⟩ := Option.map_eq_some_iff.1 hf; rw [yhs (yht n) cs gs hn hgs]
  case ifc t y => obtain ⟨g', hg', rfl⟩ := Option.map_eq_some_iff.1 hf; rw [yht n y g' hn hg']
  all_goals (simp only [Option.some.injEq] at hf; exact hf.symm)
def Cx.fresh (c : Cx) (R : Nat → Prop) : Cx := { ρ := c.ρ, h := [], ro := R, w := c.w, my := fun _ => False }
theorem Rel.fresh {c : Cx} (hR : Rel E c) {R : Nat → Prop} (h1 : ∀ r, c.ro r → R r) (h2 : ∀ r, R r → r < c.w.heap.size) : Rel E (c.fresh R) := by
 have nl : ∀ b, ¬ live (c.fresh R).h b := fun b ⟨k, hk, _⟩ => by simp [Cx.fresh] at hk
 exact ⟨fun b T cs hb => by simp [Cx.fresh] at hb, fun b es hb => by simp [Cx.fresh] at hb, fun b L hb => by simp [Cx.fresh] at hb, fun b hb => absurd hb (nl b), fun b b' hb => absurd hb (nl b), h2, fun g cs hg => (hR.gl g cs hg).mono h1 (fun _ _ => rfl), fun b hb => absurd hb (nl b), fun b T cs d hb => by simp [Cx.fresh] at hb⟩
def Cx.back (c : Cx) (w' : World) : Cx := { c with ro := fun r => c.ro r ∨ (c.w.heap.size ≤ r ∧ r < w'.heap.size), w := w' }
theorem Rel.back {c : Cx} (hR : Rel E c) {w' : World} (h0 : w'.os = c.w.os ∧ w'.tape = c.w.tape ∧ w'.output = c.w.output) (h1 : c.w.heap.size ≤ w'.heap.size) (h2 : ∀ r, r < c.w.heap.size → w'.heap[r]? = c.w.heap[r]?) : Ext c (c.back w') ∧ Rel E (c.back w') := by
 have hE : Ext c (c.back w') := ⟨fun _ h => .inl h, fun r h => h2 r (hR.rolt r h), Nat.le_refl _, fun _ _ n hn => ⟨n, hn, Nat.le_refl _, fun _ => rfl⟩, fun _ _ h => ⟨h, rfl⟩, fun _ _ h => ⟨h, rfl⟩,
  fun r C T fz h => ⟨C, fz, by simp only [Cx.back]; rw [h2 r (Array.getElem?_eq_some_iff.1 h).1]; exact h, rfl⟩, h1, fun _ h => .inl h, fun r hr _ => h2 r hr, fun r h => h.imp id (·.1), h0⟩
 refine ⟨hE, fun b T cs hb => ?_, fun b es hb => ?_, fun b L hb => ?_, fun b hb h => ?_, hR.inj, fun r h => ?_, fun g cs hg => (hR.gl g cs hg).mono hE.ro hE.same, hR.mine, hR.ali⟩
 ·exact (hR.cells b T cs hb).mono hE (h2 _ (hR.lt ⟨_, hb, by simp⟩)) rfl
 ·exact (hR.maps b es hb).mono hE (h2 _ (hR.lt ⟨_, hb, by simp⟩)) rfl
 ·exact (hR.iters b L hb).mono hE (h2 _ (hR.lt ⟨_, hb, by simp⟩)) rfl
 ·rcases h with h | h
  ·exact hR.own b hb h
  ·have := hR.lt hb
   simp only [Cx.back] at h; omega
 ·rcases h with h | h
  ·have := hR.rolt r h; simp only [Cx.back]; omega
  ·exact h.2
theorem ypt {c : Cx} (hR : Rel E c) {R : Nat → Prop} {w' : World} (h0 : w'.os = c.w.os ∧ w'.tape = c.w.tape ∧ w'.output = c.w.output) (h1 : c.w.heap.size ≤ w'.heap.size) (h2 : ∀ r, r < c.w.heap.size → w'.heap[r]? = c.w.heap[r]?) {v : V} {x : Value}
  (hv : RG (fun r => R r ∨ (c.w.heap.size ≤ r ∧ r < w'.heap.size)) w' v x) (hc : R = c.ro ∨ v.flat = true) : ∃ c', Ext c c' ∧ Rel E c' ∧ c'.w = w' ∧ c'.h = c.h ∧ RV c' v x := by
 obtain ⟨k1, k2⟩ := hR.back h0 h1 h2
 refine ⟨c.back w', k1, k2, rfl, rfl, .g ?_⟩
 rcases hc with rfl | hc
 ·exact hv
 ·exact flat_rg hv hc
theorem ypu (hE : EnvOk P E) : ∀ n, ycc P E (callN E n)
 | 0 => by intro m f args h r hr; simp [callN] at hr
 | n + 1 => by
  have ih := ypu hE n
  intro m f args h r hr
  cases m with
  | shared =>
   simp only [callN] at hr
   exact ⟨(fun h => by cases h), fun _ => ypo hE ih hr, (fun h => by cases h)⟩
  | round =>
   simp only [callN] at hr
   exact ⟨(fun h => by cases h), fun h => absurd rfl h, fun _ => yvm hE ih hr⟩
  | own =>
   simp only [callN] at hr
   obtain ⟨a, ha, hr⟩ := Option.bind_eq_some_iff.1 hr
   obtain ⟨l1, l2⟩ := ygu ha
   -- the blocks that the callee may read
   have argsOk : ∀ (c : Cx) (xs : List Value), Rel E c → c.h = h → RVs c args xs → ∃ R : Nat → Prop, (∀ r, c.ro r → R r) ∧ (∀ r, R r → r < c.w.heap.size) ∧ (V.norefs args = true → R = c.ro) ∧
     (a.length = xs.length ∧ ∀ (i : Nat) (u : V) (x : Value), a[i]? = some u → xs[i]? = some x → RG R c.w u x) := by
    rintro c xs hR rfl hargs
    by_cases hn : V.norefs args = true
    ·have := yhs (yht ycb) args a hn ha
     subst this
     exact ⟨c.ro, fun _ h => h, hR.rolt, fun _ => rfl, hargs.1, fun i u x hu hx => yps (hargs.2 i u x hu hx) (yjy hn hu)⟩
    ·refine ⟨c.all, fun r h => ⟨hR.rolt r h, .inl h⟩, fun r h => h.1, fun h => absurd h hn, by rw [l1]; exact hargs.1, fun i u x hu hx => ?_⟩
     obtain ⟨y, hy, hfy⟩ := l2 i u hu
     exact fz_rg hR ycb y x u (hargs.2 i y x hy hx) hfy
   split at hr
   ·rename_i p hp
    obtain ⟨hlib, F, k1, k2, k3⟩ := hE.lib f p hp
    refine ⟨fun _ v g hv => ?_, fun _ => ⟨⟨F, k1, k2, k3⟩, ?_⟩, (fun h => by cases h)⟩
    ·subst hv
     obtain ⟨u, hu, hr⟩ := Option.bind_eq_some_iff.1 hr
     split at hr
     ·cases hr; rfl
     ·cases hr
    intro c xs hR hh hargs
    obtain ⟨R, r1, r2, r3, r4, r5⟩ := argsOk c xs hR hh hargs
    obtain ⟨v, hv, hr⟩ := Option.bind_eq_some_iff.1 hr
    split at hr
    ·rename_i hcond
     cases hr
     refine (hlib R c.w a xs v r2 (fun g cs hg => (hR.gl g cs hg).mono r1 (fun _ _ => rfl)) r4 r5 hv).mono fun e w' hres => ?_
     obtain ⟨g0, g1, g2, x, rfl, g3⟩ := hres
     obtain ⟨c', q1, q2, q3, q4, q5⟩ := ypt hR g0 g1 g2 g3 (by
      rcases Bool.or_eq_true_iff.1 hcond with h | h
      ·exact .inl (r3 h)
      ·exact .inr h)
     exact ⟨c', q1, q2, q3, by rw [q4, hh], x, rfl, q5⟩
    ·cases hr
   ·obtain ⟨q, hq, hr⟩ := Option.bind_eq_some_iff.1 hr
    obtain ⟨hF, hcall⟩ := ypo hE ih hq
    refine ⟨fun _ v g hv => ?_, fun _ => ⟨hF, ?_⟩, (fun h => by cases h)⟩
    ·subst hv
     cases q with
     | val v' h' =>
      simp only [yea] at hr
      obtain ⟨u, hu, hr⟩ := Option.bind_eq_some_iff.1 hr
      split at hr
      ·cases hr; rfl
      ·cases hr
     | pan v' h' =>
      simp only [yea] at hr
      obtain ⟨u, hu, hr⟩ := Option.bind_eq_some_iff.1 hr
      split at hr
      ·cases hr
      ·cases hr
    intro c xs hR hh hargs
    obtain ⟨R, r1, r2, r3, r4, r5⟩ := argsOk c xs hR hh hargs
    have hcall := hcall (c.fresh R) xs (hR.fresh r1 r2) rfl ⟨r4, fun i u x hu hx => .g (r5 i u x hu hx)⟩
    have fin : ∀ (c1 : Cx) (v g : V) (x : Value), Ext (c.fresh R) c1 → Rel E c1 → RV c1 v x → fz E c1.h ycb v = some g → (V.norefs args || g.flat) = true → ∃ c', Ext c c' ∧ Rel E c' ∧ c'.w = c1.w ∧ c'.h = c.h ∧ RV c' g x := by
     intro c1 v g x hx hR1 hv hg hcond
     have hrg := fz_rg hR1 _ _ _ _ hv hg
     refine ypt hR hx.rest hx.grow (fun r hr => hx.frame r hr (fun h => h)) (R := R) (hrg.mono (fun r hr => ?_) (fun _ _ => rfl)) (by
      rcases Bool.or_eq_true_iff.1 hcond with h | h
      ·exact .inl (r3 h)
      ·exact .inr h)
     obtain ⟨s1, s2⟩ := hr
     rcases s2 with s2 | s2
     ·rcases hx.ro2 r s2 with s3 | s3
      ·exact .inl s3
      ·exact .inr ⟨s3, s1⟩
     ·rcases hx.mine r s2 with s3 | s3
      ·exact absurd s3 (fun h => h)
      ·exact .inr ⟨s3, s1⟩
    refine hcall.mono fun e w' hret => ?_
    obtain ⟨c1, hx, hR1, rfl, hret⟩ := hret
    cases q with
    | val v h' =>
     obtain ⟨rfl, x, rfl, hv⟩ := hret
     simp only [yea] at hr
     obtain ⟨g, hg, hr⟩ := Option.bind_eq_some_iff.1 hr
     split at hr
     ·rename_i hcond
      cases hr
      obtain ⟨c', q1, q2, q3, q4, q5⟩ := fin c1 v g x hx hR1 hv hg hcond
      exact ⟨c', q1, q2, q3, by rw [q4, hh], x, rfl, q5⟩
     ·cases hr
    | pan v h' =>
     obtain ⟨rfl, x, rfl, hv⟩ := hret
     simp only [yea] at hr
     obtain ⟨g, hg, hr⟩ := Option.bind_eq_some_iff.1 hr
     split at hr
     ·rename_i hcond
      cases hr
      obtain ⟨c', q1, q2, q3, q4, q5⟩ := fin c1 v g x hx hR1 hv hg hcond
      exact ⟨c', q1, q2, q3, by rw [q4, hh], x, rfl, q5⟩
     ·cases hr
end
end Go.Sb

/- What the evaluator answers, ars a law of the machine: for a function called from anywhere. -/

namespace Go.Sb
theorem ypv {P : Program} {E : Env} (hE : EnvOk P E) {f : FuncId} {vs : List V} {v : V} {n : Nat} (h : callN E n .own f vs [] = some (.val v [])) (hv : v.noref = true) {ro : Nat → Prop} {w : World} {xs : List Value}
  (h1 : ∀ r, ro r → r < w.heap.size) (h2 : ∀ g cs, E.gl g = some cs → GlOk ro w g cs) (h3 : vs.length = xs.length) (h4 : ∀ (i : Nat) (u : V) (x : Value), vs[i]? = some u → xs[i]? = some x → RG ro w u x) :
  Calls P f ⟨xs⟩ w fun e w' => (w'.os = w.os ∧ w'.tape = w.tape ∧ w'.output = w.output) ∧ w.heap.size ≤ w'.heap.size ∧ (∀ r, r < w.heap.size → w'.heap[r]? = w.heap[r]?) ∧ ∃ x, e = .returned x ∧ RG (fun r => ro r ∨ (w.heap.size ≤ r ∧ r < w'.heap.size)) w' v x := by
 have nl : ∀ b, ¬ live (Cx.mk (fun _ => (0, 0)) [] ro w (fun _ => False)).h b := fun b ⟨k, hk, _⟩ => by simp at hk
 have hR : Rel E (Cx.mk (fun _ => (0, 0)) [] ro w (fun _ => False)) := ⟨fun b T cs hb => by simp at hb, fun b es hb => by simp at hb, fun b L hb => by simp at hb, fun b hb => absurd hb (nl b), fun b b' hb => absurd hb (nl b), h1, h2, fun b hb => absurd hb (nl b), fun b T cs d hb => by simp at hb⟩
 refine (((ypu hE n .own f vs [] _ h).2.1 (by simp)).2 (Cx.mk (fun _ => (0, 0)) [] ro w (fun _ => False)) xs hR rfl ⟨h3, fun i u x hu hx => .g (h4 i u x hu hx)⟩).mono fun e w' hr => ?_
 obtain ⟨c', hX, hR', hw, hr⟩ := hr
 obtain ⟨hh, x, rfl, hx⟩ := hr
 subst hw
 exact ⟨hX.rest, hX.grow, fun r hr => hX.frame r hr (fun q => q), x, rfl, (yps hx hv).mono (fun r hr => (hX.ro2 r hr).imp id fun q => ⟨q, hR'.rolt r hr⟩) (fun _ _ => rfl)⟩
def Env.told (E : Env) (f : FuncId) (p : List V → Option V) : Env := { E with lib := fun g => if g = f then some p else E.lib g }
theorem EnvOk.told {P : Program} {E : Env} (hE : EnvOk P E) {f : FuncId} {p : List V → Option V} (hp : ∀ vs v, p vs = some v → v.noref = true ∧ ∃ n, callN E n .own f vs [] = some (.val v []))
  (hF : ∃ F, P.funcs[f]? = some F ∧ F.body.isSome = true ∧ (F.name == "runtime.NumGoroutine") = false) : EnvOk P (E.told f p) := by
 refine ⟨hE.ty, hE.fn, hE.ext, fun g q hg => ?_, hE.eqs, hE.mixed, hE.gd⟩
 simp only [Env.told] at hg
 split at hg
 ·rename_i e; subst e; cases hg
  refine ⟨fun ro w vs xs v k1 k2 k3 k4 k5 => ?_, hF⟩
  obtain ⟨hv, n, hn⟩ := hp vs v k5
  exact ypv hE hn hv k1 k2 k3 k4
 ·exact hE.lib g q hg
theorem EnvOk.addLib {P : Program} {E : Env} (hE : EnvOk P E) {f : FuncId} {p : List V → Option V} (hp : LibOk P E f p) (hF : ∃ F, P.funcs[f]? = some F ∧ F.body.isSome = true ∧ (F.name == "runtime.NumGoroutine") = false) : EnvOk P (E.told f p) := by
 refine ⟨hE.ty, hE.fn, hE.ext, fun g q hg => ?_, hE.eqs, hE.mixed, hE.gd⟩
 simp only [Env.told] at hg
 split at hg
 ·rename_i e; subst e; cases hg
  exact ⟨hp, hF⟩
 ·exact hE.lib g q hg
end Go.Sb
