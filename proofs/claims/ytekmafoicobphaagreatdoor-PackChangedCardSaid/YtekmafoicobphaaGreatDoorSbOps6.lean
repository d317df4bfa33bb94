/- Operations: index, cut, length, arithmetic, comparison. -/
import Derived.Test.YtekmafoicobphaaGreatDoorSbOps3
import Derived.Laws.World
set_option linter.unusedVariables false
set_option linter.unusedSimpArgs false
namespace Go.Sb
section
variable {P : Program} {E : Env} {c : Cx}
theorem yty (hE : EnvOk P E) (hR : Rel E c) {t : TypeId} {p i v : V} {x xi : Value} (hp : RV c p x) (hi : RV c i xi) (h : yhk E t p i = some v) : Does P E c (Instr.index t x xi) v c.h := by
 replace h := Option.bind_eq_some_iff.1 h; obtain ⟨d, hd, h⟩ := h
 obtain ⟨u, h1, h2⟩ := (hE.ty t d hd).und
 split at h
 ·rename_i n e cs k i hu
  rw [hu] at h2; have := yfo h2; subst this
  replace h := Option.bind_eq_some_iff.1 h; obtain ⟨y, hy, h⟩ := h
  split at h
  ·rename_i hc
   rw [hi.int_inv]
   obtain ⟨xs, rfl, hxs⟩ := hp.agg_inv
   obtain ⟨y', k1, k2⟩ := yjn hE hxs h
   refine Does.same hR (x := y') ?_ k2
   simp [Instr.index, yaj h1, asIntOf, hc, (hE.ty e y hy).run_size, k1]
  ·cases h
 ·rename_i s k i hu
  rw [hu] at h2; have := yec h2; subst this
  split at h
  ·rename_i hc
   obtain ⟨b, hb, rfl⟩ := Option.map_eq_some_iff.1 h
   rw [hi.int_inv, hp.str_inv]
   refine Does.same hR (x := .int .u8 b.toNat) ?_ (.g (.int _ _))
   have hlt : i.toNat < s.length := (List.getElem?_eq_some_iff.1 hb).1
   have e : (ByteArray.mk ⟨s⟩)[i.toNat]? = some b := by
    have h1 : i.toNat < (ByteArray.mk ⟨s⟩).size := by simpa [ByteArray.size] using hlt
    rw [getElem?_pos (ByteArray.mk ⟨s⟩) i.toNat h1]
    have := (List.getElem?_eq_some_iff.1 hb).2
    show some ((ByteArray.mk ⟨s⟩).data[i.toNat]) = some b
    simpa using this
   simp [Instr.index, yaj h1, asIntOf, hc, e]
  ·cases h
 ·cases h
theorem yeo {x : V} {xi : Value} {dflt n y : Nat} (hx : RV c x xi) (h : bnd (some x) dflt = some n) (hn : n ≤ y) (code : BoundsCode) (w : World) : (Instr.sliceBound xi y code).run P w = .ok n w := by
 cases x <;> simp only [bnd] at h
 case int k i =>
  split at h
  ·rename_i h0
   cases h
   rw [hx.int_inv]
   have : i ≤ (y : Int) := by omega
   simp [Instr.sliceBound, asIntOf, h0, this]
  ·cases h
 all_goals cases h
def yed (c : Cx) (v : Option V) (x : Option Value) : Prop := match v, x with
 | none, none => True
 | some v, some x => RV c v x
 | _, _ => False
theorem ygp {lo hi : Option V} {xlo xhi : Option Value} {isSlice : Bool} {len cap l h : Nat} (hlo : yed c lo xlo) (hhi : yed c hi xhi) (e1 : bnd hi len = some h) (e2 : bnd lo 0 = some l) (h1 : l ≤ h) (h2 : h ≤ cap) (w : World) :
  (Instr.sliceBounds isSlice len cap xlo xhi none).run P w = .ok (l, h, cap) w := by
 cases lo <;> cases xlo <;> simp only [yed] at hlo <;> cases hi <;> cases xhi <;> simp only [yed] at hhi
 ·simp only [bnd, Option.some.injEq] at e1 e2; subst e1; subst e2
  simp [Instr.sliceBounds]
 ·simp only [bnd, Option.some.injEq] at e2; subst e2
  simp [Instr.sliceBounds, yeo hhi e1 h2]
 ·simp only [bnd, Option.some.injEq] at e1; subst e1
  simp [Instr.sliceBounds, yeo hlo e2 h1]
 ·simp [Instr.sliceBounds, yeo hhi e1 h2, yeo hlo e2 h1]
theorem yjo {lo hi : Option V} {xlo xhi : Option Value} {mx : V} {xm : Value} {isSlice : Bool} {len cap l h m : Nat} (hlo : yed c lo xlo) (hhi : yed c hi xhi) (hm : RV c mx xm) (e0 : bnd (some mx) 0 = some m) (e1 : bnd hi 0 = some h) (e2 : bnd lo 0 = some l) (hs : hi.isSome = true) (h1 : l ≤ h) (h2 : h ≤ m) (h3 : m ≤ cap) (w : World) :
  (Instr.sliceBounds isSlice len cap xlo xhi (some xm)).run P w = .ok (l, h, m) w := by
 cases hi with
 | none => cases hs
 | some hv =>
  cases xhi with
  | none => exact hhi.elim
  | some xh =>
   cases lo <;> cases xlo <;> simp only [yed] at hlo
   ·simp only [bnd, Option.some.injEq] at e2; subst e2
    simp [Instr.sliceBounds, yeo hm e0 h3, yeo hhi e1 h2]
   ·simp [Instr.sliceBounds, yeo hm e0 h3, yeo hhi e1 h2, yeo hlo e2 h1]
theorem ytz (hE : EnvOk P E) (hR : Rel E c) {t : TypeId} {p v : V} {x : Value} {lo hi mx : Option V} {xlo xhi xmx : Option Value} (hp : RV c p x) (hlo : yed c lo xlo) (hhi : yed c hi xhi) (hmx : yed c mx xmx)
  (h : yem E t p lo hi mx = some v) : Does P E c (Instr.sliceAt t x xlo xhi xmx) v c.h := by
 replace h := Option.bind_eq_some_iff.1 h; obtain ⟨d, hd, h⟩ := h
 obtain ⟨u, h1, h2⟩ := (hE.ty t d hd).und
 split at h
 ·-- a string
  rename_i s hu
  cases xmx with
  | some _ => exact hmx.elim
  | none =>
  rw [hu] at h2; have := yec h2; subst this
  replace h := Option.bind_eq_some_iff.1 h; obtain ⟨hh, e1, h⟩ := h
  replace h := Option.bind_eq_some_iff.1 h; obtain ⟨l, e2, h⟩ := h
  split at h
  ·rename_i hc
   cases h
   rw [hp.str_inv]
   refine Does.same hR (x := .string ⟨⟨(s.take hh).drop l⟩⟩) ?_ (.g (.str _))
   have hsz : (ByteArray.mk ⟨s⟩).size = s.length := by simp [ByteArray.size]
   have := ygp (P := P) (isSlice := false) (len := s.length) (cap := s.length) hlo hhi e1 e2 hc.1 hc.2 c.w
   simp [Instr.sliceAt, Instr.slice, yaj h1, hsz, this, yof]
  ·cases h
 ·-- a row
  rename_i e0 b o e len cap sz hu
  cases xmx with
  | some _ => exact hmx.elim
  | none =>
  rw [hu] at h2; have := ybj h2; subst this
  replace h := Option.bind_eq_some_iff.1 h; obtain ⟨y, hy, h⟩ := h
  replace h := Option.bind_eq_some_iff.1 h; obtain ⟨hh, e1, h⟩ := h
  replace h := Option.bind_eq_some_iff.1 h; obtain ⟨l, e2, h⟩ := h
  split at h
  ·rename_i hc
   obtain ⟨c1, c2, c3, c4⟩ := hc
   cases h
   cases hp with
   | g hp => cases hp
   | sl _ _ _ _ _ _ _ hsh hb hs hx =>
    obtain ⟨a, m, rfl, hcm⟩ := hsh
    have := ygp (P := P) (isSlice := true) (len := len) (cap := m) hlo hhi e1 e2 c1 (by omega) c.w
    refine Does.same hR (x := .slice (some (a.add (l * e))) (hh - l) (m - l)) ?_ (.sl _ _ _ _ _ _ _ ⟨_, _, rfl, by omega⟩ hb hs fun hv => ?_)
    ·have hne : m ≠ l := by omega
     simp [Instr.sliceAt, Instr.slice, yaj h1, this, (hE.ty e0 y hy).run_size, c4, hne]
    ·obtain ⟨cap', C, T, fz, q0, q1, q2, q3⟩ := hx hv
     cases q0
     refine ⟨m - l, C, T, fz, by rw [Addr.add_mk, Nat.add_assoc], by omega, q2, ?_⟩
     have : (m - l) * e + l * e = m * e := by rw [← Nat.add_mul]; congr 1; omega
     omega
  ·cases h
 ·rename_i e0 b o e len cap sz m hu
  cases xmx with
  | none => exact hmx.elim
  | some xm =>
  rw [hu] at h2; have := ybj h2; subst this
  replace h := Option.bind_eq_some_iff.1 h; obtain ⟨y, hy, h⟩ := h
  replace h := Option.bind_eq_some_iff.1 h; obtain ⟨m', q0, h⟩ := h
  replace h := Option.bind_eq_some_iff.1 h; obtain ⟨hh, e1, h⟩ := h
  replace h := Option.bind_eq_some_iff.1 h; obtain ⟨l, e2, h⟩ := h
  split at h
  ·rename_i hc
   obtain ⟨c1, c2, c3, c4⟩ := hc
   cases h
   cases hp with
   | g hp => cases hp
   | sl _ _ _ _ _ _ _ hsh hb hs hx =>
    obtain ⟨a, mm, rfl, hcm⟩ := hsh
    have := yjo (P := P) (isSlice := true) (len := len) (cap := mm) hlo hhi hmx q0 e1 e2 c1 (by omega) (by omega) (by omega) c.w
    refine Does.same hR (x := .slice (some a) 0 0) ?_ (.g (.emp _))
    subst c2; subst c3
    simp [Instr.sliceAt, Instr.slice, yaj h1, this, (hE.ty e0 y hy).run_size]
  ·cases h
 ·rename_i e0 e es hu
  cases xmx with
  | some _ => exact hmx.elim
  | none =>
  rw [hu] at h2; have := ybj h2; subst this
  replace h := Option.bind_eq_some_iff.1 h; obtain ⟨y, hy, h⟩ := h
  replace h := Option.bind_eq_some_iff.1 h; obtain ⟨hh, e1, h⟩ := h
  replace h := Option.bind_eq_some_iff.1 h; obtain ⟨l, e2, h⟩ := h
  split at h
  ·rename_i hc
   obtain ⟨c1, c2, c4⟩ := hc
   subst c4
   cases h
   obtain ⟨a, cap, f, rfl, p0, p1, p2, p3, p4, p5⟩ := hp.lst_inv
   have := ygp (P := P) (isSlice := true) (len := es.length) (cap := cap) hlo hhi e1 e2 c1 (by omega) c.w
   have hg : ∀ (i : Nat) (v : V), ((es.take hh).drop l)[i]? = some v → es[l + i]? = some v := fun i v hv => by
    rw [List.getElem?_drop, List.getElem?_take] at hv
    split at hv
    ·exact hv
    ·cases hv
   have hlen : ((es.take hh).drop l).length = hh - l := by simp; omega
   have hres : RG c.ro c.w (.lst y.size ((es.take hh).drop l)) (.slice (some (if cap = l then a else a.add (l * y.size))) ((es.take hh).drop l).length (cap - l)) := by
    refine .lst _ _ _ _ (fun i j => f (l + i) j) (fun i v hv => p0 _ v (hg i v hv)) (fun i j hi hj => ?_) (fun i j v u hv hu => p2 _ j v u (hg i v hv) hu) (fun hne => ?_) (by rw [hlen]; omega) (fun i v hv => p5 _ v (hg i v hv))
    ·rw [hlen] at hi
     rw [if_neg (by omega), Addr.add_add, show l * y.size + (i * y.size + j) = (l + i) * y.size + j by rw [Nat.add_mul]; omega]
     exact p1 (l + i) j (by omega) hj
    ·have : es ≠ [] := by intro e; subst e; simp at hne
     split
     ·exact p3 this
     ·rw [Addr.block_add]; exact p3 this
   rw [hlen] at hres
   refine Does.same hR (x := .slice (some (if cap = l then a else a.add (l * y.size))) (hh - l) (cap - l)) ?_ (.g hres)
   simp only [Instr.sliceAt, Sem.run_bind, yaj h1, Result.andThen_ok, Instr.slice, this, (hE.ty e0 y hy).run_size, Sem.run_pure]
   by_cases hcl : cap = l
   ·rw [if_pos hcl, if_pos hcl]
   ·rw [if_neg hcl, if_neg hcl]; rfl
  ·cases h
 ·rename_i e0 e es m hu
  cases xmx with
  | none => exact hmx.elim
  | some xm =>
  rw [hu] at h2; have := ybj h2; subst this
  replace h := Option.bind_eq_some_iff.1 h; obtain ⟨y, hy, h⟩ := h
  replace h := Option.bind_eq_some_iff.1 h; obtain ⟨m', q0, h⟩ := h
  replace h := Option.bind_eq_some_iff.1 h; obtain ⟨hh, e1, h⟩ := h
  replace h := Option.bind_eq_some_iff.1 h; obtain ⟨l, e2, h⟩ := h
  split at h
  ·rename_i hc
   obtain ⟨c1, c2, c3, c4⟩ := hc
   cases h
   obtain ⟨a, cap, f, rfl, p0, p1, p2, p3, p4, p5⟩ := hp.lst_inv
   have := yjo (P := P) (isSlice := true) (len := es.length) (cap := cap) hlo hhi hmx q0 e1 e2 c1 (by omega) (by omega) (by omega) c.w
   refine Does.same hR (x := .slice (some a) 0 0) ?_ (.g (.emp _))
   subst c2; subst c3
   simp [Instr.sliceAt, Instr.slice, yaj h1, this, (hE.ty e0 y hy).run_size]
  ·cases h
 ·rename_i e0 hu
  cases xmx with
  | some _ => exact hmx.elim
  | none =>
  rw [hu] at h2; have := ybj h2; subst this
  replace h := Option.bind_eq_some_iff.1 h; obtain ⟨y, hy, h⟩ := h
  replace h := Option.bind_eq_some_iff.1 h; obtain ⟨hh, e1, h⟩ := h
  replace h := Option.bind_eq_some_iff.1 h; obtain ⟨l, e2, h⟩ := h
  split at h
  ·rename_i hc
   cases h
   obtain ⟨c1, c2⟩ := hc; subst c1; subst c2
   rw [hp.nils_inv]
   have := ygp (P := P) (isSlice := true) (len := 0) (cap := 0) hlo hhi e1 e2 (Nat.le_refl _) (Nat.le_refl _) c.w
   exact Does.same hR (x := .slice none 0 0) (by simp [Instr.sliceAt, Instr.slice, yaj h1, this, (hE.ty e0 y hy).run_size]) (.g .nils)
  ·cases h
 ·rename_i e0 m hu
  cases xmx with
  | none => exact hmx.elim
  | some xm =>
  rw [hu] at h2; have := ybj h2; subst this
  replace h := Option.bind_eq_some_iff.1 h; obtain ⟨y, hy, h⟩ := h
  replace h := Option.bind_eq_some_iff.1 h; obtain ⟨m', q0, h⟩ := h
  replace h := Option.bind_eq_some_iff.1 h; obtain ⟨hh, e1, h⟩ := h
  replace h := Option.bind_eq_some_iff.1 h; obtain ⟨l, e2, h⟩ := h
  split at h
  ·rename_i hc
   cases h
   obtain ⟨c0, c1, c2, c3⟩ := hc; subst c1; subst c2; subst c3
   rw [hp.nils_inv]
   have := yjo (P := P) (isSlice := true) (len := 0) (cap := 0) hlo hhi hmx q0 e1 e2 c0 (Nat.le_refl _) (Nat.le_refl _) (Nat.le_refl _) c.w
   exact Does.same hR (x := .slice none 0 0) (by simp [Instr.sliceAt, Instr.slice, yaj h1, this, (hE.ty e0 y hy).run_size]) (.g .nils)
  ·cases h
 ·rename_i e0 hu
  cases xmx with
  | some _ => exact hmx.elim
  | none =>
  rw [hu] at h2; have := ybj h2; subst this
  replace h := Option.bind_eq_some_iff.1 h; obtain ⟨y, hy, h⟩ := h
  replace h := Option.bind_eq_some_iff.1 h; obtain ⟨hh, e1, h⟩ := h
  replace h := Option.bind_eq_some_iff.1 h; obtain ⟨l, e2, h⟩ := h
  split at h
  ·rename_i hc
   cases h
   obtain ⟨c1, c2⟩ := hc; subst c1; subst c2
   obtain ⟨a, rfl⟩ := hp.emp_inv
   have := ygp (P := P) (isSlice := true) (len := 0) (cap := 0) hlo hhi e1 e2 (Nat.le_refl _) (Nat.le_refl _) c.w
   exact Does.same hR (x := .slice (some a) 0 0) (by simp [Instr.sliceAt, Instr.slice, yaj h1, this, (hE.ty e0 y hy).run_size]) (.g (.emp _))
  ·cases h
 ·rename_i e0 m hu
  cases xmx with
  | none => exact hmx.elim
  | some xm =>
  rw [hu] at h2; have := ybj h2; subst this
  replace h := Option.bind_eq_some_iff.1 h; obtain ⟨y, hy, h⟩ := h
  replace h := Option.bind_eq_some_iff.1 h; obtain ⟨m', q0, h⟩ := h
  replace h := Option.bind_eq_some_iff.1 h; obtain ⟨hh, e1, h⟩ := h
  replace h := Option.bind_eq_some_iff.1 h; obtain ⟨l, e2, h⟩ := h
  split at h
  ·rename_i hc
   cases h
   obtain ⟨c0, c1, c2, c3⟩ := hc; subst c1; subst c2; subst c3
   obtain ⟨a, rfl⟩ := hp.emp_inv
   have := yjo (P := P) (isSlice := true) (len := 0) (cap := 0) hlo hhi hmx q0 e1 e2 c0 (Nat.le_refl _) (Nat.le_refl _) (Nat.le_refl _) c.w
   exact Does.same hR (x := .slice (some a) 0 0) (by simp [Instr.sliceAt, Instr.slice, yaj h1, this, (hE.ty e0 y hy).run_size]) (.g (.emp _))
  ·cases h
 ·rename_i n e0 b o sz hu
  cases xmx with
  | some _ => exact hmx.elim
  | none =>
  rw [hu] at h2; have := yfo h2; subst this
  replace h := Option.bind_eq_some_iff.1 h; obtain ⟨y, hy, h⟩ := h
  replace h := Option.bind_eq_some_iff.1 h; obtain ⟨hh, e1, h⟩ := h
  replace h := Option.bind_eq_some_iff.1 h; obtain ⟨l, e2, h⟩ := h
  split at h
  ·rename_i hc
   cases h
   obtain ⟨c1, c2, c3, c4, c5⟩ := hc
   obtain ⟨hb, hs, a, rfl⟩ := hp.ptr_parts
   have := ygp (P := P) (isSlice := false) (len := n) (cap := n) hlo hhi e1 e2 c1 c2 c.w
   refine Does.same hR (x := .slice (some (a.add (l * y.size))) (hh - l) (n - l)) ?_ (.sl _ _ _ _ _ _ _ ⟨_, _, rfl, Nat.le_refl _⟩ hb hs fun hv => ?_)
   ·have hne : n ≠ l := by omega
    simp [Instr.sliceAt, Instr.sureAddr, yaj h1, this, (hE.ty e0 y hy).run_size, hne]
   ·obtain ⟨T, cs, hbc, hcl⟩ := hsz_some hv
    obtain ⟨C, lo', hi', g1, g2, g3, g4, _⟩ := hR.cells b T cs hbc
    have e := hp.ptr_inv hv
    cases e
    refine ⟨n - l, C, T, _, by rw [Addr.add_mk, Nat.add_assoc], Nat.le_refl _, g1, ?_⟩
    have : (n - l) * y.size + l * y.size = n * y.size := by rw [← Nat.add_mul]; congr 1; omega
    omega
  ·cases h
 ·cases h
end
end Go.Sb

/- Operations: append, copy, clear, lengths. -/

namespace Go.Sb
section
variable {P : Program} {E : Env} {c : Cx}
theorem yua (need cap : Nat) (h : cap < need) : Builtin.nextslicecap need cap ≤ 2 * need + 1024 := by
 have hg : ∀ (r c : Nat), c ≤ 2 * need + 1024 → Builtin.growBy need r c ≤ 2 * need + 1024 := by
  intro r
  induction r with
  | zero => intro c hc; simpa [Builtin.growBy] using hc
  | succ r ih =>
   intro c hc
   simp only [Builtin.growBy]
   split
   ·exact hc
   ·exact ih _ (by omega)
 unfold Builtin.nextslicecap
 split
 ·omega
 ·split
  ·omega
  ·exact hg _ _ (by omega)
theorem yub (need old : Nat) (elem : TypeId) (w : World) (hn : need ≤ 2 ^ 62) : ∃ n, need ≤ n ∧ (choose (.appendCap need old elem)).run P w = .ok n { w with drawn := w.drawn + 1 } := by
 refine ⟨need + (w.tape w.drawn (.appendCap need old elem)) % (2 ^ 63 - need), Nat.le_add_right _ _, ?_⟩
 simp [Question.forced, Question.cut]
theorem yuc (z : Array Value) (n : Nat) : (Builtin.zeroCells z n).size = n * z.size := by simp [Builtin.zeroCells]
theorem yoi (hE : EnvOk P E) {sT xT el : TypeId} {y : TyD} {ux : TypeDesc} (h1 : P.underlying sT = some (.slice el)) (hx : P.underlying xT = some ux) (hux : ux = .string ∨ ∃ e, ux = .slice e) (hy : E.ty el = some y) (h0 : 0 < y.size)
  {base : Option Addr} {sLen sCap n : Nat} {x : Value} (ty : TypeId) (hl : (Builtin.lenOf x).run P c.w = .ok n c.w) (hgt : sCap < sLen + n) (hroom : roomy y.bytes (sLen + n) = true)
  (olds news : List Value) (ho : ∀ w' : World, w'.heap = c.w.heap → (Builtin.firstCells y.size sLen (.slice base sLen sCap)).run P w' = .ok olds.toArray w') (hn : ∀ w' : World, w'.heap = c.w.heap → (Builtin.firstCells y.size n x).run P w' = .ok news.toArray w')
  (hol : olds.length = sLen * y.size) (hnl : news.length = n * y.size) :
  ∃ (newCap : Nat) (rest : Array Value), sLen + n ≤ newCap ∧ ((olds.toArray ++ news.toArray ++ rest).size = newCap * y.size) ∧
   (Builtin.append_ #[sT, xT] ty #[.slice base sLen sCap, x]).run P c.w = .ok (.slice (some ⟨c.w.heap.size, 0, none⟩) (sLen + n) newCap) { c.w with heap := c.w.heap.push (.cells (olds.toArray ++ news.toArray ++ rest) el (0, 0)), drawn := c.w.drawn + 1 } := by
 have hTe := hE.ty el y hy
 obtain ⟨i, i1, i2, i3, i4⟩ := hTe.info
 simp only [roomy, Bool.and_eq_true, decide_eq_true_eq] at hroom
 obtain ⟨r1, r2⟩ := hroom
 have hcap := yua (sLen + n) sCap hgt
 have hb : Builtin.nextslicecap (sLen + n) sCap * i.bytes ≤ 2 ^ 48 := by
  rw [i3]
  have := Nat.mul_le_mul_right y.bytes hcap
  omega
 obtain ⟨newCap, hle, hch⟩ := yub (P := P) (sLen + n) sCap el c.w (by omega)
 have hzc : y.zeroV.cells.size = y.size := by
  rw [hTe.zero_cells]; simp
  exact hTe.zs
 refine ⟨newCap, Builtin.zeroCells y.zeroV.cells (newCap - (sLen + n)), hle, ?_, ?_⟩
 ·simp only [Array.size_append, List.size_toArray, hol, hnl, yuc, hzc]
  rw [← Nat.add_mul, ← Nat.add_mul]; congr 1; omega
 ·have key : ∀ w' : World, w'.heap = c.w.heap → (Builtin.firstCells y.size sLen (.slice base sLen sCap)).run P w' = .ok olds.toArray w' ∧ (Builtin.firstCells y.size n x).run P w' = .ok news.toArray w' := fun w' h => ⟨ho w' h, hn w' h⟩
  obtain ⟨k1, k2⟩ := key { c.w with drawn := c.w.drawn + 1 } rfl
  rcases hux with rfl | ⟨e, rfl⟩
  all_goals
   simp only [Builtin.append_, List.getElem?_toArray, List.getElem?_cons_zero, List.getElem?_cons_succ, Sem.run_bind, yaj h1, Result.andThen_ok, hTe.run_size, yaj hx, Sem.run_pure]
   simp only [Bool.false_eq_true, if_false, Bool.not_false, if_true, false_or]
   simp only [Sem.run_bind, hl, Result.andThen_ok]
   rw [if_neg (by omega)]
   simp only [Sem.run_bind, ygm i1, Result.andThen_ok]
   rw [if_neg (by simp only [IntKind.max, IntKind.signed, IntKind.bits]; simp; omega)]
   simp only [Sem.run_bind, ygm i1, Result.andThen_ok]
   rw [if_neg (by omega)]
   simp only [Sem.run_bind, hch, Result.andThen_ok, ygm i1, run_askRoom, k1, k2, hTe.run_zero, newRow, run_newObj, Sem.run_pure]
theorem yoj (hE : EnvOk P E) {sT xT el : TypeId} {y : TyD} {ux : TypeDesc} (h1 : P.underlying sT = some (.slice el)) (hx : P.underlying xT = some ux) (hux : ux = .string ∨ ∃ e, ux = .slice e) (hy : E.ty el = some y)
  {base : Option Addr} {sLen sCap n : Nat} {x : Value} (ty : TypeId) {w w' : World} (hl : (Builtin.lenOf x).run P w = .ok n w) (hle : sLen + n ≤ sCap)
  (news : List Value) (hn : (Builtin.firstCells y.size n x).run P w = .ok news.toArray w) (hst : ∀ a, base = some a → (storeCells (a.add (sLen * y.size)) news).run P w = .ok () w') (hno : base = none → w' = w) :
  (Builtin.append_ #[sT, xT] ty #[.slice base sLen sCap, x]).run P w = .ok (.slice base (sLen + n) sCap) w' := by
 have hTe := hE.ty el y hy
 rcases hux with rfl | ⟨e, rfl⟩
 all_goals
  simp only [Builtin.append_, List.getElem?_toArray, List.getElem?_cons_zero, List.getElem?_cons_succ, Sem.run_bind, yaj h1, Result.andThen_ok, hTe.run_size, yaj hx, Sem.run_pure]
  simp only [Bool.false_eq_true, if_false, Bool.not_false, if_true, false_or]
  simp only [Sem.run_bind, hl, Result.andThen_ok]
  rw [if_pos hle]
  simp only [Sem.run_bind, hn, Result.andThen_ok]
  cases base with
  | none => rw [hno rfl]; simp
  | some a => simp only [Sem.run_bind, hst a rfl, Result.andThen_ok, Sem.run_pure]
theorem yok (hE : EnvOk P E) (hR : Rel E c) {sT xT ty : TypeId} {dx : TyD} {s u v : V} {xs xu : Value} {h' : Heap} (hxT : E.ty xT = some dx) (hux : dx.u = .str ∨ ∃ e, dx.u = .slice e) (hs : RV c s xs) (hu : RV c u xu)
  (h : ycz E sT s u c.h = some (v, h')) : Does P E c (Builtin.append_ #[sT, xT] ty #[xs, xu]) v h' := by
 have hx : ∃ ux, P.underlying xT = some ux ∧ (ux = .string ∨ ∃ e, ux = .slice e) := by
  obtain ⟨ux, q1, q2⟩ := (hE.ty xT dx hxT).und
  rcases hux with e | ⟨e, e'⟩
  ·rw [e] at q2; exact ⟨ux, q1, .inl (yec q2)⟩
  ·rw [e'] at q2; exact ⟨ux, q1, .inr ⟨_, ybj q2⟩⟩
 obtain ⟨ux, hx, hux⟩ := hx
 replace h := Option.bind_eq_some_iff.1 h; obtain ⟨d, hd, h⟩ := h
 obtain ⟨ut, h1, h2⟩ := (hE.ty sT d hd).und
 split at h
 ·rename_i el hdu
  rw [hdu] at h2; have := ybj h2; subst this
  replace h := Option.bind_eq_some_iff.1 h; obtain ⟨y, hy, h⟩ := h
  have hTe := hE.ty el y hy
  split at h
  ·cases h
  ·rename_i h0
   replace h := Option.bind_eq_some_iff.1 h; obtain ⟨new, hnew, h⟩ := h
   obtain ⟨n, cs⟩ := new
   obtain ⟨n1, n2, n3, ys, n4, n5⟩ := yjh (P := P) hR (Nat.pos_of_ne_zero h0) hnew hu
   have hyl : ys.length = n * y.size := by rw [← n4.1, n1]
   have hfirst : ∀ w' : World, w'.heap = c.w.heap → (Builtin.firstCells y.size n xu).run P w' = .ok ys.toArray w' := fun w' hw => by
    have := n5 w' hw n (Nat.le_refl _)
    rwa [List.take_of_length_le (by omega)] at this
   simp only at h
   have hnil : n = 0 → ys = [] := fun e => by subst e; simp at hyl; exact hyl
   -- an empty source, a slice with nothing behind
   have same : n = 0 → ∀ (base : Option Addr) (l k : Nat), l ≤ k → xs = .slice base l k → RV c v xs → h' = c.h → Does P E c (Builtin.append_ #[sT, xT] ty #[xs, xu]) v h' := by
    rintro e base l k hlk rfl hv rfl
    subst e
    refine Does.same hR ?_ hv
    have := yoj (P := P) hE (w := c.w) (w' := c.w) h1 hx hux hy ty (n3 c.w) (by simpa using hlk) ys (hfirst c.w rfl) (base := base) (sLen := l) (sCap := k) (fun a _ => by rw [hnil rfl]; rfl) (fun _ => rfl)
    simpa using this
   have fresh : n ≠ 0 → ∀ (base : Option Addr), xs = .slice base 0 0 → roomy y.bytes n = true → v = .sl c.h.length 0 y.size n n (n * y.size) → h' = push c.h (.cells el cs) → Does P E c (Builtin.append_ #[sT, xT] ty #[xs, xu]) v h' := by
    rintro e base rfl hro rfl rfl
    obtain ⟨newCap, rest, q1, q2, q3⟩ := yoi (P := P) (c := c) hE h1 hx hux hy (Nat.pos_of_ne_zero h0) (base := base) (sLen := 0) (sCap := 0) ty (n3 c.w) (by omega) (by simpa using hro) [] ys
     (fun w' _ => by cases base <;> simp [Builtin.firstCells, loadCells, loadCellsFrom]) hfirst (by simp) hyl
    simp only [Nat.zero_add] at q1 q2 q3
    have hR1 := hR.grow { c.w with drawn := c.w.drawn + 1 } (fun r _ => rfl) (Nat.le_refl _)
    obtain ⟨k1, k2⟩ := ygk hR1.2 el cs (#[] ++ ys.toArray ++ rest) 0 0 (by simp; omega) (by
     have : (#[] ++ ys.toArray ++ rest).toList.take cs.length = ys := by simp [n1, ← hyl]
     rw [this]; exact n4.mono hR1.1) (Or.inr rfl) n2
    refine ⟨_, pushC { c with w := { c.w with drawn := c.w.drawn + 1 } } (.cells el cs) (.cells (#[] ++ ys.toArray ++ rest) el (0, 0)), q3, hR1.1.trans k1, k2, rfl, ?_⟩
    have := yho (c := { c with w := { c.w with drawn := c.w.drawn + 1 } }) el cs (#[] ++ ys.toArray ++ rest) (0, 0) y.size n n newCap q1 (by rw [q2]; exact Nat.le_refl _)
    rw [n1] at this; exact this
   split at h
   ·have e := hs.nils_inv
    split at h
    ·rename_i hn; cases h; exact same hn none 0 0 (Nat.le_refl _) e (by rw [e]; exact .g .nils) rfl
    ·rename_i hn
     split at h
     ·rename_i hro; cases h; exact fresh hn none e hro rfl rfl
     ·cases h
   ·obtain ⟨a, e⟩ := hs.emp_inv
    split at h
    ·rename_i hn; cases h; exact same hn (some a) 0 0 (Nat.le_refl _) e (by rw [e]; exact .g (.emp _)) rfl
    ·rename_i hn
     split at h
     ·rename_i hro; cases h; exact fresh hn (some a) e hro rfl rfl
     ·cases h
   ·obtain ⟨a, cap, f, e, _, _, _, _, q4, _⟩ := hs.lst_inv
    split at h
    ·rename_i hn; cases h; exact same hn (some a) _ cap q4 e (by rw [e] at hs ⊢; exact hs) rfl
    ·cases h
   ·rename_i b o e len cap sz
    split at h
    ·cases h
    ·rename_i he
     have he : e = y.size := Decidable.not_not.1 he
     subst he
     replace h := Option.bind_eq_some_iff.1 h; obtain ⟨old, hold, h⟩ := h
     split at h
     ·cases h
     ·rename_i hc3
      simp only [not_or, Decidable.not_not, Nat.not_lt, gt_iff_lt] at hc3
      obtain ⟨t1, t2, t3, t4⟩ := hc3
      obtain ⟨hb, hbl⟩ := ycj hold
      have hhs : hsz c.h b = some sz := by rw [yci hb, hbl]
      have hblt : b < c.h.length := (List.getElem?_eq_some_iff.1 hb).1
      have hlive : live c.h b := ⟨_, hb, by simp⟩
      obtain ⟨cap', C1, T1, fz1, rfl, p1, p2, p3⟩ := hs.sl_inv hhs
      obtain ⟨C, lo, hi, g1, g2, g3, g4, g5⟩ := (hR.cells b _ _ hb).row
      rw [g1] at p2; cases p2
      have hlz : len * y.size ≤ cap * y.size := Nat.mul_le_mul_right _ t3
      have hcz : cap * y.size ≤ cap' * y.size := Nat.mul_le_mul_right _ p1
      have hnz : ∀ k, len + n ≤ k → len * y.size + n * y.size ≤ k * y.size := fun k hk => by rw [← Nat.add_mul]; exact Nat.mul_le_mul_right _ hk
      -- in place, whatever of it the plain row names
      have inplace : len + n ≤ cap' → ∃ c', (Builtin.append_ #[sT, xT] ty #[.slice (some ⟨(c.ρ b).1, (c.ρ b).2 + o, none⟩) len cap', xu]).run P c.w = .ok (.slice (some ⟨(c.ρ b).1, (c.ρ b).2 + o, none⟩) (len + n) cap') c'.w ∧
        Ext c c' ∧ Rel E c' ∧ c'.h = c.h.set b (.cells old.1 (splice old.2 (o + len * y.size) cs)) ∧ c'.ρ = c.ρ ∧ c'.ro = c.ro := by
       intro hk
       have := hnz cap' hk
       obtain ⟨c', k1, k2, k3, k4, k5, k6⟩ := yjl (P := P) hR hold (o + len * y.size) n4 n2 (by rw [hbl]; omega) (fun C2 T2 fz2 hC2 => by rw [g1] at hC2; cases hC2; omega)
       refine ⟨c', ?_, k2, k3, k4, k5, k6⟩
       exact yoj (P := P) hE h1 hx hux hy ty (n3 c.w) hk ys (hfirst c.w rfl) (fun a ha => by cases ha; rw [Addr.add_mk, Nat.add_assoc]; exact k1) (fun hno => by cases hno)
      split at h
      ·rename_i hfit
       cases h
       obtain ⟨c', k1, k2, k3, k4, k5, k6⟩ := inplace (by omega)
       have := hnz cap hfit
       have hsz' : hsz c'.h b = some sz := by rw [k4]; simp only [hsz]; rw [ydq _ _ _ hblt, if_pos rfl]; simp only [yjf _ _ _ (show o + len * y.size ≤ old.2.length by omega)]; congr 1; omega
       refine ⟨_, c', k1, k2, k3, by rw [k4, t1], .sl _ _ _ _ _ _ _ ⟨_, _, rfl, p1⟩ (by rw [k4]; simpa using hblt) (fun m hm => by rw [hsz'] at hm; simp at hm; omega) fun _ => ?_⟩
       obtain ⟨C', fz', r1, r2⟩ := k2.size _ _ _ _ g1
       exact ⟨cap', C', _, fz', by rw [k5], p1, by rw [k5]; exact r1, by rw [k5]; omega⟩
      ·rename_i hfit
       split at h
       ·rename_i hro
        have hlarge : cap + 1 ≤ len + n := by omega
        have hgt : cap * y.size + y.size ≤ (len + n) * y.size := by have := Nat.mul_le_mul_right y.size hlarge; rwa [Nat.add_mul, Nat.one_mul] at this
        have hmulz : (len + n) * y.size = len * y.size + n * y.size := Nat.add_mul _ _ _
        have hself : contents c.h y.size (.sl b o y.size len cap sz) = some (len, (old.2.drop o).take (len * y.size)) := by
         simp only [contents, if_true, hold, Option.bind_some]; rw [if_pos (by rw [hbl]; omega)]
        obtain ⟨m1, m2, m3, zs, m4, m5⟩ := yjh (P := P) hR (Nat.pos_of_ne_zero h0) hself hs
        have hzl : zs.length = len * y.size := by rw [← m4.1, m1]
        have newrow : ¬ (len + n ≤ cap') → ∃ (newCap : Nat) (rest : Array Value), len + n ≤ newCap ∧ ((zs.toArray ++ ys.toArray ++ rest).size = newCap * y.size) ∧
          (Builtin.append_ #[sT, xT] ty #[.slice (some ⟨(c.ρ b).1, (c.ρ b).2 + o, none⟩) len cap', xu]).run P c.w = .ok (.slice (some ⟨c.w.heap.size, 0, none⟩) (len + n) newCap) { c.w with heap := c.w.heap.push (.cells (zs.toArray ++ ys.toArray ++ rest) el (0, 0)), drawn := c.w.drawn + 1 } := fun hk =>
         yoi (P := P) (c := c) hE h1 hx hux hy (Nat.pos_of_ne_zero h0) ty (n3 c.w) (by omega) hro zs ys
          (fun w' hw => by have := m5 w' hw len (Nat.le_refl _); rwa [List.take_of_length_le (by omega)] at this) hfirst hzl hyl
        have hrow : ∀ (rest : Array Value), (zs.toArray ++ ys.toArray ++ rest).toList.take (((old.2.drop o).take (len * y.size)) ++ cs).length = zs ++ ys := fun rest => by
         have : (zs ++ ys).length = (((old.2.drop o).take (len * y.size)) ++ cs).length := by rw [List.length_append, List.length_append, m1, n1, hzl, hyl]
         rw [← this]
         have e5 : (zs.toArray ++ ys.toArray ++ rest).toList = (zs ++ ys) ++ rest.toList := by simp
         rw [e5, List.take_left]
        have hRd := hR.grow { c.w with drawn := c.w.drawn + 1 } (fun r _ => rfl) (Nat.le_refl _)
        split at h
        ·rename_i hg
         obtain ⟨o0, hcz⟩ := hg
         subst o0
         cases h
         have hnewlen : (old.2.take (len * y.size) ++ cs).length = (len + n) * y.size := by rw [List.length_append, List.length_take, n1, hbl]; omega
         by_cases hk : len + n ≤ cap'
         ·obtain ⟨c', k1, k2, k3, k4, k5, k6⟩ := inplace hk
          have hspl : splice old.2 (0 + len * y.size) cs = old.2.take (len * y.size) ++ cs := by
           simp only [splice, Nat.zero_add]
           rw [List.drop_eq_nil_of_le (by rw [hbl, n1]; omega), List.append_nil]
          rw [hspl] at k4
          have hsz' : hsz c'.h b = some ((len + n) * y.size) := by rw [k4]; simp only [hsz]; rw [ydq _ _ _ hblt, if_pos rfl]; simp only; rw [hnewlen]
          refine ⟨_, c', k1, k2, k3, by rw [k4, t1], .sl _ _ _ _ _ _ _ ⟨_, _, rfl, hk⟩ (by rw [k4]; simpa using hblt) (fun m hm => by rw [hsz'] at hm; simp at hm; omega) fun _ => ?_⟩
          obtain ⟨C', fz', r1, r2⟩ := k2.size _ _ _ _ g1
          exact ⟨cap', C', _, fz', by rw [k5], hk, by rw [k5]; exact r1, by rw [k5]; omega⟩
         ·obtain ⟨newCap, rest, q1, q2, q3⟩ := newrow hk
          have hrow' := hrow rest
          simp only [List.drop_zero] at hrow' m4
          have hlt2 : old.2.length < (old.2.take (len * y.size) ++ cs).length := by
           rw [hnewlen, hbl]
           have : 0 < y.size := Nat.pos_of_ne_zero h0
           omega
          obtain ⟨k1, k2⟩ := hRd.2.move (T := el) (cs := old.2.take (len * y.size) ++ cs) hb hlt2 (zs.toArray ++ ys.toArray ++ rest) (by rw [hnewlen, q2]; exact Nat.mul_le_mul_right _ q1)
           (by rw [hrow']; exact (m4.append n4).mono hRd.1) (by rw [List.all_append, n2, Bool.and_true]; exact ygl g5 _)
          refine ⟨_, moveC { c with w := { c.w with drawn := c.w.drawn + 1 } } b el (old.2.take (len * y.size) ++ cs) (zs.toArray ++ ys.toArray ++ rest), q3, hRd.1.trans k1, k2, rfl, .sl _ _ _ _ _ _ _ ⟨_, _, rfl, q1⟩ (by simpa [moveC] using hblt) (fun m hm => ?_) fun _ => ?_⟩
          ·simp only [moveC, hsz] at hm; rw [ydq _ _ _ hblt, if_pos rfl] at hm; simp only [Option.some.injEq] at hm; omega
          ·refine ⟨newCap, _, _, (0, 0), by simp only [moveC, yba], q1, by simp only [moveC, yba]; exact Array.getElem?_push_size, by simp only [moveC, yba]; rw [q2]; simp⟩
        ·rename_i hg
         cases h
         by_cases hk : len + n ≤ cap'
         ·obtain ⟨c', k1, k2, k3, k4, k5, k6⟩ := inplace hk
          have hblt' : b < c'.h.length := by rw [k4]; simpa using hblt
          have hb' : c'.h[b]? = some (.cells old.1 (splice old.2 (o + len * y.size) cs)) := by rw [k4, ydq _ _ _ hblt, if_pos rfl]
          obtain ⟨D, lo', hi', d1, d2, d3, d4, d5⟩ := k3.cells b _ _ hb'
          obtain ⟨C', fz', r1, r2⟩ := k2.size _ _ _ _ g1
          rw [k5] at d1 d2 d3 d4
          rw [r1] at d1; cases d1
          obtain ⟨j1, j2⟩ := k3.kill b hblt'
          have hlen2 : (old.2.drop o).length = sz - o := by rw [List.length_drop, hbl]
          have hcslen : ((old.2.drop o).take (len * y.size) ++ cs).length = (len + n) * y.size := by rw [List.length_append, m1, n1]; omega
          have hlive' : live c'.h b := ⟨_, hb', by simp⟩
          obtain ⟨a1, a2⟩ := j2.adopt (r := (c.ρ b).1) (d := (c.ρ b).2 + o) (C := D) (T := old.1) (lo := lo') (hi := hi') r1 (by rw [k6]; exact hR.own b hlive) (by have := k3.mine b hlive'; rw [k5] at this; exact this)
           (fun b2 hl2 => by
            obtain ⟨kk, hk2, hne⟩ := hl2
            simp only at hk2
            rw [ydq _ _ _ hblt'] at hk2
            by_cases e2 : b2 = b
            ·rw [if_pos e2] at hk2; simp at hk2; exact absurd hk2.symm hne
            ·rw [if_neg e2] at hk2
             intro he
             exact e2 (k3.inj b2 b ⟨kk, hk2, hne⟩ hlive' (by simp only at he; rw [he, k5])))
           ((old.2.drop o).take (len * y.size) ++ cs) (by rw [hcslen]; have := hnz cap' hk; omega) (fun j v hv => by
            have : (splice old.2 (o + len * y.size) cs)[o + j]? = some v := by
             rw [yoc _ _ _ (by rw [hbl]; omega)]
             by_cases e3 : j < len * y.size
             ·rw [if_neg (by omega)]
              rw [List.getElem?_append_left (by rw [m1]; exact e3), List.getElem?_take, if_pos e3, List.getElem?_drop] at hv
              exact hv
             ·rw [List.getElem?_append_right (by rw [m1]; omega), m1] at hv
              have : j - len * y.size < cs.length := (List.getElem?_eq_some_iff.1 hv).1
              rw [if_pos (by omega), show o + j - (o + len * y.size) = j - len * y.size by omega]
              exact hv
            obtain ⟨x, u1, u2⟩ := d3 (o + j) v this
            exact ⟨x, by rw [Nat.add_assoc]; exact u1, u2.mono j1⟩) (fun j e1 e2 => d4 j (by omega) e2) ⟨by rw [List.all_append, n2, Bool.and_true]; exact m2, d5.2⟩ (fun z hz => by
            rw [t1] at hz; rw [hy] at hz; cases hz
            have := hR.ali b _ _ y hb (by rw [t1]; exact hy)
            rw [Nat.add_mod, this, t4]; simp)
          have hh : (ybn { c' with h := c'.h.set b .dead } (c.ρ b).1 ((c.ρ b).2 + o) old.1 ((old.2.drop o).take (len * y.size) ++ cs)).h = push (c.h.set b .dead) (.cells el ((old.2.drop o).take (len * y.size) ++ cs)) := by
           simp only [ybn, k4, List.set_set, t1]
          refine ⟨_, ybn { c' with h := c'.h.set b .dead } (c.ρ b).1 ((c.ρ b).2 + o) old.1 ((old.2.drop o).take (len * y.size) ++ cs), k1, (k2.trans j1).trans a1, a2, hh, .sl _ _ _ _ _ _ _ ⟨_, _, rfl, hk⟩ (by rw [hh]; simp [push]) (fun m hm => ?_) fun _ => ?_⟩
          ·rw [hh] at hm; simp only [hsz] at hm; rw [ydb, if_pos (by simp)] at hm; simp only [Option.some.injEq] at hm; omega
          ·have hlen3 : c.h.length = ({ c' with h := c'.h.set b .dead } : Cx).h.length := by simp [k4]
           refine ⟨cap', D, _, (lo', hi'), by simp only [ybn]; rw [hlen3, yba]; rfl, hk, by simp only [ybn]; rw [hlen3, yba]; exact r1, by simp only [ybn]; rw [hlen3, yba]; simp only; omega⟩
         ·obtain ⟨newCap, rest, q1, q2, q3⟩ := newrow hk
          obtain ⟨j1, j2⟩ := hRd.2.kill b hblt
          have hcslen : ((old.2.drop o).take (len * y.size) ++ cs).length = (len + n) * y.size := by rw [List.length_append, m1, n1]; omega
          obtain ⟨k1, k2⟩ := ygk j2 el ((old.2.drop o).take (len * y.size) ++ cs) (zs.toArray ++ ys.toArray ++ rest) 0 0 (by rw [hcslen, q2]; exact Nat.mul_le_mul_right _ q1)
           (by rw [hrow rest]; exact ((m4.append n4).mono hRd.1).mono j1) (Or.inr rfl) (by rw [List.all_append, n2, Bool.and_true]; exact m2)
          refine ⟨_, pushC { c with w := { c.w with drawn := c.w.drawn + 1 }, h := c.h.set b .dead } (.cells el ((old.2.drop o).take (len * y.size) ++ cs)) (.cells (zs.toArray ++ ys.toArray ++ rest) el (0, 0)), q3, (hRd.1.trans j1).trans k1, k2, rfl, ?_⟩
          have := yho (c := { c with w := { c.w with drawn := c.w.drawn + 1 }, h := c.h.set b .dead }) el ((old.2.drop o).take (len * y.size) ++ cs) (zs.toArray ++ ys.toArray ++ rest) (0, 0) y.size (len + n) (len + n) newCap q1 (by rw [q2]; exact Nat.le_refl _)
          rw [hcslen] at this
          simpa using this
       ·cases h
   ·cases h
 ·cases h
end
end Go.Sb

/- Operations: copy, clear, lengths, arithmetic, comparison, conversions, maps, assertions. -/

namespace Go.Sb
section
variable {P : Program} {E : Env} {c : Cx}
theorem yud (hE : EnvOk P E) (hR : Rel E c) {dT xT ty : TypeId} {d u v : V} {xd xu : Value} {h' : Heap} (hd : RV c d xd) (hu : RV c u xu) (h : yiw E dT d u c.h = some (v, h')) :
  Does P E c (Builtin.copy_ #[dT, xT] ty #[xd, xu]) v h' := by
 replace h := Option.bind_eq_some_iff.1 h; obtain ⟨dd, hdd, h⟩ := h
 obtain ⟨ut, h1, h2⟩ := (hE.ty dT dd hdd).und
 split at h
 ·rename_i el hdu
  rw [hdu] at h2; have := ybj h2; subst this
  replace h := Option.bind_eq_some_iff.1 h; obtain ⟨y, hy, h⟩ := h
  have hTe := hE.ty el y hy
  split at h
  ·cases h
  ·rename_i h0
   replace h := Option.bind_eq_some_iff.1 h; obtain ⟨new, hnew, h⟩ := h
   obtain ⟨n, cs⟩ := new
   obtain ⟨n1, n2, n3, ys, n4, n5⟩ := yjh (P := P) hR (Nat.pos_of_ne_zero h0) hnew hu
   have hyl : ys.length = n * y.size := by rw [← n4.1, n1]
   split at h
   ·cases h
    rw [hd.nils_inv]
    refine Does.same hR (x := .int .i64 0) ?_ (.g (.int _ _))
    have := n5 c.w rfl 0 (Nat.zero_le _)
    simp [Builtin.copy_, yaj h1, n3, hTe.run_size, this, goInt]
   ·cases h
    obtain ⟨a, e⟩ := hd.emp_inv
    rw [e]
    refine Does.same hR (x := .int .i64 0) ?_ (.g (.int _ _))
    have := n5 c.w rfl 0 (Nat.zero_le _)
    simp [Builtin.copy_, yaj h1, n3, hTe.run_size, this, goInt, storeCells]
   ·rename_i b o e len cap sz
    split at h
    ·cases h
    ·rename_i he
     have he : e = y.size := Decidable.not_not.1 he
     subst he
     replace h := Option.bind_eq_some_iff.1 h; obtain ⟨old, hold, h⟩ := h
     split at h
     ·rename_i hle
      cases h
      obtain ⟨hb, hbl⟩ := ycj hold
      have hhs : hsz c.h b = some sz := by rw [yci hb, hbl]
      obtain ⟨cap', C1, T1, fz1, rfl, p1, p2, p3⟩ := hd.sl_inv hhs
      have hmn : min n len * y.size ≤ len * y.size := Nat.mul_le_mul_right _ (Nat.min_le_right _ _)
      have hmn2 : min n len * y.size ≤ n * y.size := Nat.mul_le_mul_right _ (Nat.min_le_left _ _)
      have hv := n4.take (min n len * y.size)
      obtain ⟨c', k1, k2, k3, k4, k5, k6⟩ := yjl (P := P) hR hold o hv (ygl n2 _) (by omega) (fun C T fz hC => by
       obtain ⟨C', lo, hi, g1, g2, _⟩ := hR.cells b _ _ hb
       rw [g1] at hC; cases hC; rw [List.length_take]; omega)
      refine ⟨.int .i64 (min n len : Nat), c', ?_, k2, k3, by rw [k4], .g (.int _ _)⟩
      have := n5 c.w rfl (min n len) (Nat.min_le_left _ _)
      simp [Builtin.copy_, yaj h1, n3, hTe.run_size, this, goInt, k1]
     ·cases h
   ·cases h
 ·cases h
theorem yue (hE : EnvOk P E) (hR : Rel E c) {xT ty : TypeId} {u v : V} {xu : Value} {h' : Heap} (hu : RV c u xu) (h : ynx E xT u c.h = some (v, h')) : Does P E c (Builtin.clear_ #[xT] ty #[xu]) v h' := by
 replace h := Option.bind_eq_some_iff.1 h; obtain ⟨dd, hdd, h⟩ := h
 obtain ⟨ut, h1, h2⟩ := (hE.ty xT dd hdd).und
 split at h
 ·rename_i el hdu
  rw [hdu] at h2; have := ybj h2; subst this
  replace h := Option.bind_eq_some_iff.1 h; obtain ⟨y, hy, h⟩ := h
  have hTe := hE.ty el y hy
  split at h
  ·cases h
   rw [hu.nils_inv]
   exact Does.same hR (x := .tuple #[]) (by simp [Builtin.clear_, yaj h1]) (.g (.tup [] #[] rfl (fun i v x h => by simp at h)))
  ·cases h
   obtain ⟨a, e⟩ := hu.emp_inv
   rw [e]
   exact Does.same hR (x := .tuple #[]) (by simp [Builtin.clear_, yaj h1]) (.g (.tup [] #[] rfl (fun i v x h => by simp at h)))
  ·rename_i b o e len cap sz
   split at h
   ·cases h
   ·rename_i he
    simp only [not_or, Decidable.not_not] at he
    obtain ⟨he, hz, hz0'⟩ := he
    subst he
    replace h := Option.bind_eq_some_iff.1 h; obtain ⟨old, hold, h⟩ := h
    split at h
    ·rename_i hle
     cases h
     obtain ⟨hb, hbl⟩ := ycj hold
     have hhs : hsz c.h b = some sz := by rw [yci hb, hbl]
     obtain ⟨cap', C1, T1, fz1, rfl, p1, p2, p3⟩ := hu.sl_inv hhs
     have hz0 := ylv (c := c) hTe.zo (by rw [hz]; exact Nat.pos_of_ne_zero hz0') len (len * y.zeroV.cells.size) (by rw [hTe.zero_cells]; simp) y.zeroV.cells hTe.zero_cells
     have hlen : (yca y.zero len).length = len * y.size := by rw [ygo, hz]
     obtain ⟨c', k1, k2, k3, k4, k5, k6⟩ := yjl (P := P) hR hold o hz0 (ylu hTe.zo len) (by omega) (fun C T fz hC => by
      obtain ⟨C', lo, hi, g1, g2, _⟩ := hR.cells b _ _ hb
      rw [g1] at hC; cases hC; rw [hlen]; omega)
     refine ⟨.tuple #[], c', ?_, k2, k3, by rw [k4], .g (.tup [] #[] rfl (fun i v x h => by simp at h))⟩
     by_cases hl0 : len = 0
     ·subst hl0
      have e0 : ((Array.range (0 * y.zeroV.cells.size)).map fun q => y.zeroV.cells[q % y.zeroV.cells.size]!).toList = [] := by
       have := hz0.1; rw [hlen] at this; simp at this; simp
      rw [e0] at k1
      simp only [storeCells, Sem.run_pure] at k1
      have hw : c.w = c'.w := by injection k1
      rw [← hw]
      simp [Builtin.clear_, yaj h1]
     ·simp only [Builtin.clear_, List.getElem?_toArray, List.getElem?_cons_zero, Sem.run_bind, yaj h1, Result.andThen_ok]
      have : ∃ m, len = m + 1 := ⟨len - 1, by omega⟩
      obtain ⟨m, rfl⟩ := this
      simp only [Sem.run_bind, hTe.run_zero, Result.andThen_ok, Builtin.zeroCells, k1, Sem.run_pure]
    ·cases h
  ·cases h
 ·cases h
theorem len_does (hE : EnvOk P E) (hR : Rel E c) {xT ty : TypeId} {u v : V} {xu : Value} (hu : RV c u xu) (h : evLen E xT u c.h = some v) : Does P E c (Builtin.len_ #[xT] ty #[xu]) v c.h := by
 replace h := Option.bind_eq_some_iff.1 h; obtain ⟨dd, hdd, h⟩ := h
 obtain ⟨ut, h1, h2⟩ := (hE.ty xT dd hdd).und
 split at h
 ·rename_i l hdu
  rw [hdu] at h2; have := yec h2; subst this; cases h
  rw [hu.str_inv]
  exact Does.same hR (x := goInt l.length) (by simp only [Builtin.len_, List.getElem?_toArray, List.getElem?_cons_zero, Sem.run_bind, yaj h1, Result.andThen_ok, Sem.run_pure]; rfl) (.g (.int _ _))
 ·rename_i hdu
  rw [hdu] at h2; have := yfo h2; subst this; cases h
  exact Does.same hR (by simp [Builtin.len_, yaj h1]; rfl) (.g (.int _ _))
 ·rename_i hdu
  rw [hdu] at h2; have := ybj h2; subst this; cases h
  cases hu with
  | g hu => cases hu
  | sl _ _ _ _ _ _ _ hsh _ _ _ =>
   obtain ⟨a, m, rfl, _⟩ := hsh
   exact Does.same hR (by simp [Builtin.len_, yaj h1]; rfl) (.g (.int _ _))
 ·rename_i hdu
  rw [hdu] at h2; have := ybj h2; subst this; cases h
  obtain ⟨a, cap, f, e, _⟩ := hu.lst_inv
  rw [e]
  exact Does.same hR (by simp [Builtin.len_, yaj h1]; rfl) (.g (.int _ _))
 ·rename_i hdu
  rw [hdu] at h2; have := ybj h2; subst this; cases h
  rw [hu.nils_inv]
  exact Does.same hR (by simp [Builtin.len_, yaj h1]; rfl) (.g (.int _ _))
 ·rename_i hdu
  rw [hdu] at h2; have := ybj h2; subst this; cases h
  obtain ⟨a, e⟩ := hu.emp_inv
  rw [e]
  exact Does.same hR (by simp [Builtin.len_, yaj h1]; rfl) (.g (.int _ _))
 ·rename_i hdu
  rw [hdu] at h2; have := yfp h2; subst this; cases h
  rw [hu.nilm_inv]
  exact Does.same hR (by simp [Builtin.len_, yaj h1]; rfl) (.g (.int _ _))
 ·rename_i b hdu
  rw [hdu] at h2; have := yfp h2; subst this
  split at h
  ·rename_i es hb
   cases h
   rw [hu.mp_inv ⟨es, hb⟩]
   obtain ⟨xs, clock, g1, g2, _⟩ := hR.maps b es hb
   refine Does.same hR (x := .int .i64 es.length) ?_ (.g (.int _ _))
   simp [Builtin.len_, yaj h1, getObj, Sem.run, g1, goInt, g2]
  ·cases h
 ·cases h
theorem cap_does (hE : EnvOk P E) (hR : Rel E c) {xT ty : TypeId} {u v : V} {xu : Value} (hu : RV c u xu) (h : evCap E xT u = some v) : Does P E c (Builtin.cap_ #[xT] ty #[xu]) v c.h := by
 replace h := Option.bind_eq_some_iff.1 h; obtain ⟨dd, hdd, h⟩ := h
 obtain ⟨ut, h1, h2⟩ := (hE.ty xT dd hdd).und
 split at h
 ·rename_i hdu
  rw [hdu] at h2; have := yfo h2; subst this; cases h
  exact Does.same hR (by simp [Builtin.cap_, yaj h1]; rfl) (.g (.int _ _))
 ·rename_i hdu
  rw [hdu] at h2; have := ybj h2; subst this; cases h
  rw [hu.nils_inv]
  exact Does.same hR (by simp [Builtin.cap_, yaj h1]; rfl) (.g (.int _ _))
 ·rename_i hdu
  rw [hdu] at h2; have := ybj h2; subst this; cases h
  obtain ⟨a, e⟩ := hu.emp_inv
  rw [e]
  exact Does.same hR (by simp [Builtin.cap_, yaj h1]; rfl) (.g (.int _ _))
 ·cases h
theorem yol (hR : Rel E c) : ∀ {us : List V} {xs : List Value} {u v : V} {x : Value}, RV c u x → RVs c us xs → foldV evMin2 u us = some v → ∃ y, (xs.foldlM Builtin.min2 x).run P c.w = .ok y c.w ∧ RV c v y
 | [], xs, u, v, x, hu, hus, h => by
  have := hus.nil_left; subst this
  simp [foldV] at h; subst h
  exact ⟨x, by simp, hu⟩
 | w :: us, xs, u, v, x, hu, hus, h => by
  obtain ⟨y, ys, rfl, hw, hus'⟩ := hus.cons_left
  simp only [foldV] at h
  replace h := Option.bind_eq_some_iff.1 h; obtain ⟨z, hz, h⟩ := h
  cases u <;> cases w <;> simp only [evMin2] at hz
  case int.int k a l b =>
   cases hz
   rw [hu.int_inv, hw.int_inv]
   obtain ⟨r, h1, h2⟩ := yol hR (x := .int k (if b < a then b else a)) (.g (.int _ _)) hus' h
   exact ⟨r, by simp only [List.foldlM_cons, Sem.run_bind, Builtin.min2, Sem.run_pure, Result.andThen_ok]; exact h1, h2⟩
  all_goals cases hz
theorem yom (hR : Rel E c) : ∀ {us : List V} {xs : List Value} {u v : V} {x : Value}, RV c u x → RVs c us xs → foldV evMax2 u us = some v → ∃ y, (xs.foldlM Builtin.max2 x).run P c.w = .ok y c.w ∧ RV c v y
 | [], xs, u, v, x, hu, hus, h => by
  have := hus.nil_left; subst this
  simp [foldV] at h; subst h
  exact ⟨x, by simp, hu⟩
 | w :: us, xs, u, v, x, hu, hus, h => by
  obtain ⟨y, ys, rfl, hw, hus'⟩ := hus.cons_left
  simp only [foldV] at h
  replace h := Option.bind_eq_some_iff.1 h; obtain ⟨z, hz, h⟩ := h
  cases u <;> cases w <;> simp only [evMax2] at hz
  case int.int k a l b =>
   cases hz
   rw [hu.int_inv, hw.int_inv]
   obtain ⟨r, h1, h2⟩ := yom hR (x := .int k (if b > a then b else a)) (.g (.int _ _)) hus' h
   exact ⟨r, by simp only [List.foldlM_cons, Sem.run_bind, Builtin.max2, Sem.run_pure, Result.andThen_ok]; exact h1, h2⟩
  all_goals cases hz
theorem yuf (hR : Rel E c) {u v : V} {x : Value} {i : Nat} (hu : RV c u x) (h : yiy u i = some v) : Does P E c (Instr.extract x i) v c.h := by
 cases u <;> simp only [yiy] at h
 case tup vs =>
  obtain ⟨xs, rfl, hs⟩ := hu.tup_inv
  obtain ⟨y, h1, h2⟩ := hs.get h
  have : xs[i]? = some y := by simpa using h1
  exact Does.same hR (x := y) (by simp [Instr.extract, this]) h2
 all_goals cases h
theorem un_does (hR : Rel E c) {op : UnOp} {u v : V} {x : Value} (hu : RV c u x) (h : evUn op u = some v) : Does P E c (Op.unary op x) v c.h := by
 cases op <;> cases u <;> simp only [evUn] at h
 case neg.int k n => cases h; rw [hu.int_inv]; exact Does.same hR (by simp [Op.unary, Op.intArith]) (.g (.int _ _))
 case xor.int k n => cases h; rw [hu.int_inv]; exact Does.same hR (by simp [Op.unary, Op.intBits]) (.g (.int _ _))
 case not.bool b => cases h; rw [hu.bool_inv]; exact Does.same hR (by simp [Op.unary]) (.g (.bool _))
 all_goals cases h
theorem yug (hE : EnvOk P E) (hR : Rel E c) {t : TypeId} {u v : V} {x : Value} (hu : RV c u x) (h : ylh E t u = some v) : Does P E c (Instr.makeInterface t x) v c.h := by
 replace h := Option.bind_eq_some_iff.1 h; obtain ⟨d, hd, h⟩ := h
 obtain ⟨ut, h1, h2⟩ := (hE.ty t d hd).und
 split at h
 ·cases h
 ·rename_i hne
  cases h
  refine Does.same hR (x := .iface t x) ?_ (.ifc _ _ _ hu)
  cases ut <;> first | (exact absurd h2.symm hne) | simp [Instr.makeInterface, yaj h1]
theorem yuh (hE : EnvOk P E) (hR : Rel E c) {xt t : TypeId} {u v : V} {x : Value} {ok : Bool} (hu : RV c u x) (h : yny E u t ok = some v) : Does P E c (Instr.typeAssert x xt t ok) v c.h := by
 replace h := Option.bind_eq_some_iff.1 h; obtain ⟨d, hd, h⟩ := h
 have hT := hE.ty t d hd
 obtain ⟨ut, h1, h2⟩ := hT.und
 split at h
 ·cases h
 ·rename_i hne
  have hzero : RV c (if d.agg = true then V.agg d.zero else d.zero.headD .junk) d.zeroV := by
   unfold TyD.zeroV
   by_cases ha : d.agg
   ·rw [if_pos ha, if_pos ha]; exact RV.agg_mk (ygn hT.zo)
   ·rw [if_neg ha, if_neg ha]
    have := hT.zl (by simpa using ha)
    match hz : d.zero, this with
    | [z], _ =>
     have := hT.zo; rw [hz] at this; simp at this
     exact .g (ylp this)
  have hni : ∀ ms, ut ≠ .interface ms := fun ms e => by rw [e] at h2; exact hne h2.symm
  have pair : ∀ {a : V} {y : Value} (b : Bool), RV c a y → RV c (.tup [a, .bool b]) (.tuple #[y, .bool b]) := fun b h => RV.tup_mk (RVs.cons h (RVs.cons (.g (.bool b)) (RVs.nil c)))
  simp only at h
  split at h
  ·cases h
   rw [hu.nili_inv]
   refine Does.same hR (x := .tuple #[d.zeroV, .bool false]) ?_ (pair false hzero)
   cases ut <;> first | (exact absurd rfl (hni _)) | simp [Instr.typeAssert, yaj h1, hT.run_zero]
  ·rename_i t' w
   split at h
   ·cases h
   rename_i hj
   obtain ⟨y, rfl, hy⟩ := hu.ifc_inv (fun e => hj (by rw [e]; rfl))
   split at h
   ·rename_i e
    cases h; subst e
    refine Does.same hR (x := .tuple #[y, .bool true]) ?_ (pair true hy)
    cases ut <;> first | (exact absurd rfl (hni _)) | simp [Instr.typeAssert, yaj h1]
   ·rename_i e
    cases h
    refine Does.same hR (x := .tuple #[d.zeroV, .bool false]) ?_ (pair false hzero)
    cases ut <;> first | (exact absurd rfl (hni _)) | simp [Instr.typeAssert, yaj h1, hT.run_zero, e]
  ·rename_i t' w
   split at h
   ·cases h
   rename_i hj
   obtain ⟨y, rfl, hy⟩ := hu.ifc_inv (fun e => hj (by rw [e]; rfl))
   split at h
   ·rename_i e
    cases h; subst e
    refine Does.same hR (x := y) ?_ hy
    cases ut <;> first | (exact absurd rfl (hni _)) | simp [Instr.typeAssert, yaj h1]
   ·cases h
  ·cases h
end
end Go.Sb
