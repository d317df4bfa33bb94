/- Operations: conversions; maps. -/
import Derived.Test.YtekmafoicobphaaGreatDoorSbOpsU
import Derived.Laws.BytesString
import Derived.Lib.ConvBytes
set_option linter.unusedVariables false
set_option linter.unusedSimpArgs false
namespace Go.Sb
section
variable {P : Program} {E : Env} {c : Cx}
theorem yur (ns : List Int) : ∀ s : ByteArray, ns.foldl (fun r n => r.push (UInt8.ofNat n.toNat)) s = ⟨s.data ++ (ns.map fun n => UInt8.ofNat n.toNat).toArray⟩ := by
 induction ns with
 | nil => intro s; simp
 | cons n ns ih => intro s; rw [List.foldl_cons, ih]; simp [ByteArray.push]
theorem yus {h : Heap} {u : V} {x : Value} {p : Nat × List V} (hp : contents h 1 u = some p) (hu : RV c u x) (hns : yix u = true) : ∃ a k m, x = .slice a k m ∧ (a = none → k = 0) := by
 cases u <;> simp only [contents] at hp
 case nils => rw [hu.nils_inv]; exact ⟨_, _, _, rfl, fun _ => rfl⟩
 case emp => obtain ⟨a, e⟩ := hu.emp_inv; rw [e]; exact ⟨_, _, _, rfl, fun h => by cases h⟩
 case str l => simp [yix] at hns
 case lst z es => obtain ⟨a, cap, f, e, _⟩ := hu.lst_inv; rw [e]; exact ⟨_, _, _, rfl, fun h => by cases h⟩
 case sl b o z len cap sz =>
  cases hu with
  | g hu => cases hu
  | sl _ _ _ _ _ _ _ hsh _ _ _ => obtain ⟨a, m, e, _⟩ := hsh; rw [e]; exact ⟨_, _, _, rfl, fun h => by cases h⟩
 all_goals cases hp
theorem yut (hE : EnvOk P E) (hR : Rel E c) {a b : TypeId} {u v : V} {x : Value} {h' : Heap} (hu : RV c u x) (h : ydn E a b u c.h = some (v, h')) : Does P E c (convert a b x) v h' := by
 replace h := Option.bind_eq_some_iff.1 h; obtain ⟨s, hs, h⟩ := h
 replace h := Option.bind_eq_some_iff.1 h; obtain ⟨d, hd, h⟩ := h
 obtain ⟨us, s1, s2⟩ := (hE.ty a s hs).und
 obtain ⟨ud, d1, d2⟩ := (hE.ty b d hd).und
 split at h
 ·rename_i e1 e2
  rw [e1] at s2; rw [e2] at d2
  have := yfa s2; subst this; have := yfa d2; subst this
  cases h
  rw [hu.int_inv]
  exact Does.same hR (x := .int _ _) (by simp only [convert, Sem.run_bind, yaj s1, yaj d1, Result.andThen_ok, Conv.intToInt, Sem.run_pure]) (.g (.int _ _))
 ·rename_i e1 e2
  rw [e1] at s2; rw [e2] at d2
  have := yec s2; subst this; have := yec d2; subst this
  cases h
  rw [hu.str_inv]
  exact Does.same hR (x := .string _) (by simp only [convert, Sem.run_bind, yaj s1, yaj d1, Result.andThen_ok, Sem.run_pure]) (.g (.str _))
 ·rename_i e l e1 e2
  rw [e1] at s2; rw [e2] at d2
  have := yec s2; subst this; have := ybj d2; subst this
  replace h := Option.bind_eq_some_iff.1 h; obtain ⟨y, hy, h⟩ := h
  split at h
  ·rename_i hyu
   split at h
   ·rename_i hc
    cases h
    obtain ⟨ue, q1, q2⟩ := (hE.ty e y hy).und
    rw [hyu] at q2; have := yfa q2; subst this
    rw [hu.str_inv]
    have hrun := Lib.run_convert_string_bytes (P := P) c.w a b e (ByteArray.mk ⟨l⟩) s1 d1 q1
    have hsz : (ByteArray.mk ⟨l⟩).size = l.length := by simp [ByteArray.size]
    rw [hsz] at hrun
    generalize hC : Lib.bytesCells c.w e (ByteArray.mk ⟨l⟩) = C at *
    have hCl : C.toList.take l.length = bx l := by rw [← hC]; simp [Lib.bytesCells, bx]
    have hCs : l.length ≤ C.size := by rw [← hC]; simp [Lib.bytesCells]
    have hcap : grownCap c.w l.length 0 e = C.size := by
     rw [← hC]; simp only [Lib.bytesCells, Array.size_append, Array.size_map, Array.size_replicate]
     have : l.length ≤ grownCap c.w l.length 0 e := by simp [grownCap, Question.cut]
     simp [ByteArray.size]; omega
    obtain ⟨k1, k2⟩ := ygk hR e (bv l) C C.size (C.size + 1) (by simp [bv]; exact hCs) (by
     have : (bv l).length = l.length := by simp [bv]
     rw [this, hCl]; exact RVs.bytes c l) (Or.inl (Nat.le_refl _)) (by simp [bv, V.isCell])
    have hget : ∀ r, r < (pushC c (.cells e (bv l)) (.cells C e (C.size, C.size + 1))).w.heap.size → (Lib.bytesWorld c.w e (ByteArray.mk ⟨l⟩)).heap[r]? = (pushC c (.cells e (bv l)) (.cells C e (C.size, C.size + 1))).w.heap[r]? := fun r hr => by
     simp only [pushC, Array.size_push] at hr ⊢
     by_cases e : r = c.w.heap.size
     ·subst e; rw [Lib.bytesWorld_at_new, hC]; simp
     ·rw [Lib.bytesWorld_at_old _ _ _ _ (by omega), Array.getElem?_push, if_neg e]
    obtain ⟨j1, j2⟩ := k2.grow (Lib.bytesWorld c.w e (ByteArray.mk ⟨l⟩)) hget (by rw [Lib.bytesWorld_size]; simp [pushC])
    refine ⟨_, { pushC c (.cells e (bv l)) (.cells C e (C.size, C.size + 1)) with w := Lib.bytesWorld c.w e (ByteArray.mk ⟨l⟩) }, hrun, k1.trans j1, j2, rfl, ?_⟩
    have := (yho (c := c) e (bv l) C (C.size, C.size + 1) 1 l.length l.length C.size hCs (by omega)).mono j1
    rw [hcap]
    simpa [bv] using this
   ·cases h
  ·cases h
 ·rename_i e1 e2
  rw [e1] at s2; rw [e2] at d2
  have := ybj s2; subst this; have := yec d2; subst this
  replace h := Option.bind_eq_some_iff.1 h; obtain ⟨y, hy, h⟩ := h
  split at h
  ·rename_i hyu
   split at h
   ·rename_i hc
    obtain ⟨hns, hy1⟩ := hc
    replace h := Option.bind_eq_some_iff.1 h; obtain ⟨p, hp, h⟩ := h
    obtain ⟨l, hl, h⟩ := Option.map_eq_some_iff.1 h
    cases h
    obtain ⟨n, cs⟩ := p
    obtain ⟨ue, q1, q2⟩ := (hE.ty _ y hy).und
    rw [hyu] at q2; have := yfa q2; subst this
    obtain ⟨n1, n2, n3, ys, n4, n5⟩ := yjh (P := P) hR (Nat.one_pos) hp hu
    obtain ⟨ns, rfl, hns2⟩ := yma hl n4
    have hfc := n5 c.w rfl n (Nat.le_refl _)
    have hlen : (ns.map (Value.int .u8)).length = n := by rw [← n4.1, n1]; omega
    rw [Nat.mul_one, List.take_of_length_le (by omega)] at hfc
    have hsl := yus hp hu hns
    obtain ⟨ad, k, m, rfl, hk0⟩ := hsl
    have hkn : k = n := by have := n3 c.w; simp only [Builtin.lenOf, Sem.run_pure] at this; injection this
    subst hkn
    refine Does.same hR (x := .string ⟨⟨l⟩⟩) ?_ (.g (.str _))
    rw [run_convert_bytes_string c.w a b _ ad k m s1 q1 d1]
    cases ad with
    | none =>
     have := hk0 rfl; subst this
     have : ns = [] := by simpa using hlen
     subst this
     simp at hns2; subst hns2
     rfl
    | some ad =>
     rw [run_bytesToString c.w ad k m ns (by simpa [Builtin.firstCells] using hfc), yur]
     congr 2
     rw [hns2]; simp
   ·cases h
  ·cases h
 ·rename_i e e0 b' o z len cap sz e1 e2
  rw [e1] at s2; rw [e2] at d2
  have := ybj s2; subst this
  replace h := Option.bind_eq_some_iff.1 h; obtain ⟨y, hy, h⟩ := h
  split at h
  ·rename_i hyu
   split at h
   ·rename_i hc
    obtain ⟨rfl, rfl⟩ := hc
    replace h := Option.bind_eq_some_iff.1 h; obtain ⟨q, hq, h⟩ := h
    cases h
    exact yuk hE hR s1 hy hyu hq hu
   ·cases h
  ·cases h
 ·rename_i e b' o sz e1 e2
  rw [e1] at s2; rw [e2] at d2
  have := yen s2; subst this; have := yor d2; subst this
  replace h := Option.bind_eq_some_iff.1 h; obtain ⟨y, hy, h⟩ := h
  replace h := Option.bind_eq_some_iff.1 h; obtain ⟨q, hq, h⟩ := h
  split at h
  ·rename_i hc; cases h
   exact yul hE hR s1 d1 hy hq hu hc.1 hc.2
  ·cases h
 ·rename_i e b' o sz e1 e2
  rw [e1] at s2; rw [e2] at d2
  have := yor s2; subst this; have := yen d2; subst this
  replace h := Option.bind_eq_some_iff.1 h; obtain ⟨y, hy, h⟩ := h
  replace h := Option.bind_eq_some_iff.1 h; obtain ⟨q, hq, h⟩ := h
  split at h
  ·rename_i hc; cases h
   obtain ⟨c1, c2, c3, c4⟩ := hc
   subst c1
   exact yum hE hR s1 d1 hy hq hu c2 c3 c4
  ·cases h
 ·cases h
end
end Go.Sb

/- Operations: maps. -/

namespace Go.Sb
section
variable {P : Program} {E : Env} {c : Cx}
def EntriesOk (c : Cx) (es : List (V × V)) (xs : List MapEntry) : Prop :=
 es.length = xs.length ∧ ∀ (j : Nat) (p : V × V) (e : MapEntry), es[j]? = some p → xs[j]? = some e → RV c p.1 e.key ∧ RV c p.2 e.val
theorem EntriesOk.tail {p : V × V} {es : List (V × V)} {e : MapEntry} {xs : List MapEntry} (h : EntriesOk c (p :: es) (e :: xs)) : EntriesOk c es xs :=
 ⟨by simpa using h.1, fun j q d hq hd => h.2 (j + 1) q d (by simpa using hq) (by simpa using hd)⟩
theorem bsbeq (a b : List UInt8) : ((ByteArray.mk ⟨a⟩) == (ByteArray.mk ⟨b⟩)) = (a == b) := by
 show ((⟨a⟩ : Array UInt8) == ⟨b⟩) = (a == b)
 simp
theorem yjr {j k : IntKind} (a b : Int) : Instr.sameNow (.int j) (.int k a) (.int k b) = some (a == b) := by simp [Instr.sameNow]
theorem yjs (a b : List UInt8) : Instr.sameNow .string (.string ⟨⟨a⟩⟩) (.string ⟨⟨b⟩⟩) = some (a == b) := by simp [Instr.sameNow, bsbeq]
theorem yjt {kind : TypeDesc} {k : Value} {e : MapEntry} {xs : List MapEntry} {i : Nat} (h : Instr.sameNow kind k e.key = some true) : Instr.findNow kind k (e :: xs) i = some (some (i, e.val)) := by simp only [Instr.findNow, h]
theorem yoy {kind : TypeDesc} {k : Value} {e : MapEntry} {xs : List MapEntry} {i : Nat} (h : Instr.sameNow kind k e.key = some false) : Instr.findNow kind k (e :: xs) i = Instr.findNow kind k xs (i + 1) := by simp only [Instr.findNow, h]
theorem ymb {kind : TypeDesc} {k : V} {kx : Value} (hk : RV c k kx) (hf : ycu (TyU.of kind) k = true) : ∀ (es : List (V × V)) (xs : List MapEntry) (i : Nat) (r : Option V), EntriesOk c es xs → findV k es = some r →
  ∃ q, Instr.findNow kind kx xs i = some q ∧ (match r, q with | none, none => True | some v, some (_, x) => RV c v x | _, _ => False)
 | [], xs, i, r, h, hr => by
  have : xs = [] := by have := h.1; simpa using this.symm
  subst this
  simp [findV] at hr; subst hr
  exact ⟨none, rfl, trivial⟩
 | (k', v') :: es, [], i, r, h, hr => by have := h.1; simp at this
 | (k', v') :: es, e :: xs, i, r, h, hr => by
  obtain ⟨h1, h2⟩ := h.2 0 _ _ rfl rfl
  simp only [findV] at hr
  simp only at h1 h2
  split at hr
  ·rename_i a x b y
   have hkx := hk.int_inv
   have hey := h1.int_inv
   split at hr
   ·rename_i hab; subst hab
    have hkd : ∃ j, kind = .int j := by cases kind <;> simp [TyU.of, ycu] at hf; exact ⟨_, rfl⟩
    obtain ⟨j, rfl⟩ := hkd
    split at hr
    ·rename_i hxy; subst hxy; cases hr
     exact ⟨some (i, e.val), yjt (by rw [hkx, hey, yjr]; simp), h2⟩
    ·rename_i hxy
     obtain ⟨q, q1, q2⟩ := ymb hk hf es xs (i + 1) r h.tail hr
     exact ⟨q, by rw [yoy (by rw [hkx, hey, yjr]; simpa using hxy)]; exact q1, q2⟩
   ·cases hr
  ·rename_i a b
   have hkx := hk.str_inv
   have hey := h1.str_inv
   have hkd : kind = .string := by cases kind <;> simp [TyU.of, ycu] at hf; rfl
   subst hkd
   split at hr
   ·rename_i hxy; subst hxy; cases hr
    exact ⟨some (i, e.val), yjt (by rw [hkx, hey, yjs]; simp), h2⟩
   ·rename_i hxy
    obtain ⟨q, q1, q2⟩ := ymb hk hf es xs (i + 1) r h.tail hr
    exact ⟨q, by rw [yoy (by rw [hkx, hey, yjs]; simpa using hxy)]; exact q1, q2⟩
  ·cases hr
theorem yoz {kind : TypeDesc} {k v : V} {kx : Value} (hk : RV c k kx) (hf : ycu (TyU.of kind) k = true) : ∀ (es es' : List (V × V)) (xs : List MapEntry) (i : Nat), EntriesOk c es xs → setV k v es = some es' →
  (∃ j e, xs[j]? = some e ∧ e.key = kx ∧ Instr.findNow kind kx xs i = some (some (i + j, e.val)) ∧ es' = es.set j (k, v) ∧ j < es.length) ∨ (Instr.findNow kind kx xs i = some none ∧ es' = es ++ [(k, v)])
 | [], es', xs, i, h, hr => by
  have : xs = [] := by have := h.1; simpa using this.symm
  subst this
  simp [setV] at hr; subst hr
  exact .inr ⟨rfl, rfl⟩
 | (k', v') :: es, es', [], i, h, hr => by have := h.1; simp at this
 | (k', v') :: es, es', e :: xs, i, h, hr => by
  obtain ⟨h1, h2⟩ := h.2 0 _ _ rfl rfl
  simp only [setV] at hr
  simp only at h1 h2
  have step : ∀ es'', setV k v es = some es'' → es' = (k', v') :: es'' → Instr.sameNow kind kx e.key = some false →
    (∃ j e', (e :: xs)[j]? = some e' ∧ e'.key = kx ∧ Instr.findNow kind kx (e :: xs) i = some (some (i + j, e'.val)) ∧ es' = ((k', v') :: es).set j (k, v) ∧ j < ((k', v') :: es).length) ∨
    (Instr.findNow kind kx (e :: xs) i = some none ∧ es' = (k', v') :: es ++ [(k, v)]) := by
   intro es'' h3 h4 h5
   rcases yoz hk hf es es'' xs (i + 1) h.tail h3 with ⟨j, e', q1, q2, q3, q4, q5⟩ | ⟨q1, q2⟩
   ·exact .inl ⟨j + 1, e', by simpa using q1, q2, by simp only [Instr.findNow, h5]; rw [q3]; congr 3; omega, by rw [h4, q4]; rfl, by simp; omega⟩
   ·exact .inr ⟨by simp only [Instr.findNow, h5]; exact q1, by rw [h4, q2]; rfl⟩
  split at hr
  ·rename_i a x b y
   have hkx := hk.int_inv
   have hey := h1.int_inv
   split at hr
   ·rename_i hab; subst hab
    have hkd : ∃ j, kind = .int j := by cases kind <;> simp [TyU.of, ycu] at hf; exact ⟨_, rfl⟩
    obtain ⟨j, rfl⟩ := hkd
    split at hr
    ·rename_i hxy; subst hxy; cases hr
     exact .inl ⟨0, e, rfl, by rw [hey, hkx], yjt (by rw [hkx, hey, yjr]; simp), rfl, by simp⟩
    ·rename_i hxy
     obtain ⟨es'', h3, h4⟩ := Option.map_eq_some_iff.1 hr
     exact step es'' h3 h4.symm (by rw [hkx, hey, yjr]; simpa using hxy)
   ·cases hr
  ·rename_i a b
   have hkx := hk.str_inv
   have hey := h1.str_inv
   have hkd : kind = .string := by cases kind <;> simp [TyU.of, ycu] at hf; rfl
   subst hkd
   split at hr
   ·rename_i hxy; subst hxy; cases hr
    exact .inl ⟨0, e, rfl, by rw [hey, hkx], yjt (by rw [hkx, hey, yjs]; simp), rfl, by simp⟩
   ·rename_i hxy
    obtain ⟨es'', h3, h4⟩ := Option.map_eq_some_iff.1 hr
    exact step es'' h3 h4.symm (by rw [hkx, hey, yjs]; simpa using hxy)
  ·cases hr
theorem ypa {kt : TypeId} {kd : TyD} (hE : EnvOk P E) (hkt : E.ty kt = some kd) {k : V} {kx : Value} (hk : RV c k kx) (hf : ycu kd.u k = true) (em : Bool) (w : World) : (Instr.checkKey em 10000 kt kx).run P w = .ok () w := by
 obtain ⟨u, h1, h2⟩ := (hE.ty kt kd hkt).und
 rw [← h2] at hf
 have key : ∀ n, (Instr.checkKey em (n + 1) kt kx).run P w = .ok () w := by
  intro n
  cases k <;> cases u <;> simp [TyU.of, ycu] at hf
  ·rw [hk.int_inv]; simp [Instr.checkKey, yaj h1]
  ·rw [hk.str_inv]; simp [Instr.checkKey, yaj h1]
 exact key 9999
theorem yuu (hE : EnvOk P E) (hR : Rel E c) {t : TypeId} {u k v : V} {x kx : Value} {ok : Bool} (hu : RV c u x) (hk : RV c k kx) (h : yhl E t u k ok c.h = some v) : Does P E c (Instr.lookup t x kx ok) v c.h := by
 replace h := Option.bind_eq_some_iff.1 h; obtain ⟨d, hd, h⟩ := h
 obtain ⟨ut, t1, t2⟩ := (hE.ty t d hd).und
 split at h
 ·rename_i kt el hdu
  rw [hdu] at t2; have := yfp t2; subst this
  replace h := Option.bind_eq_some_iff.1 h; obtain ⟨y, hy, h⟩ := h
  replace h := Option.bind_eq_some_iff.1 h; obtain ⟨kd, hkd, h⟩ := h
  split at h
  ·cases h
  ·rename_i hfit
   have hfit : ycu kd.u k = true := by cases hq : ycu kd.u k <;> simp_all
   replace h := Option.bind_eq_some_iff.1 h; obtain ⟨es, hes, h⟩ := h
   replace h := Option.bind_eq_some_iff.1 h; obtain ⟨r, hr, h⟩ := h
   have hT := hE.ty el y hy
   obtain ⟨uk, k1, k2⟩ := (hE.ty kt kd hkd).und
   have hzero : RV c (if y.agg = true then V.agg y.zero else y.zero.headD .junk) y.zeroV := by
    unfold TyD.zeroV
    by_cases ha : y.agg
    ·rw [if_pos ha, if_pos ha]; exact RV.agg_mk (ygn hT.zo)
    ·rw [if_neg ha, if_neg ha]
     have := hT.zl (by simpa using ha)
     match hz : y.zero, this with
     | [z], _ =>
      have := hT.zo; rw [hz] at this; simp at this
      exact .g (ylp this)
   have pair : ∀ {a : V} {y : Value} (b : Bool), RV c a y → RV c (.tup [a, .bool b]) (.tuple #[y, .bool b]) := fun b h => RV.tup_mk (RVs.cons h (RVs.cons (.g (.bool b)) (RVs.nil c)))
   -- the entries behind the map
   have hents : ∃ xs : Array MapEntry, EntriesOk c es xs.toList ∧ ((x = .map none ∧ xs = #[]) ∨ ∃ r clock, x = .map (some r) ∧ c.w.heap[r]? = some (.map xs clock)) := by
    split at hes
    ·cases hes
     exact ⟨#[], ⟨rfl, fun j p e h => by simp at h⟩, .inl ⟨hu.nilm_inv, rfl⟩⟩
    ·rename_i b
     split at hes
     ·rename_i es' hb
      cases hes
      obtain ⟨xs, clock, g1, g2, g0, g3⟩ := hR.maps b es hb
      refine ⟨xs, ⟨by simpa using g2.symm, fun j p e hp he => ?_⟩, .inr ⟨_, clock, hu.mp_inv ⟨es, hb⟩, g1⟩⟩
      obtain ⟨e', q1, q2, q3⟩ := g3 j p.1 p.2 hp
      have : xs[j]? = some e := by simpa using he
      rw [q1] at this; cases this
      exact ⟨q2, q3⟩
     ·cases hes
    ·cases hes
   obtain ⟨xs, hx1, hx2⟩ := hents
   rw [← k2] at hfit
   obtain ⟨q, q1, q2⟩ := ymb hk hfit es xs.toList 0 r hx1 hr
   have hck := ypa (P := P) hE hkd hk (by rw [← k2]; exact hfit) (xs.isEmpty) c.w
   have hfk : (Instr.findKey kt kx xs.toList).run P c.w = .ok q c.w := by simp [Instr.findKey, yaj k1, q1]
   have hrun : ∀ x', (match q with
     | some (_, v) => (if ok then Value.tuple #[v, .bool true] else v) = x'
     | none => (if ok then Value.tuple #[y.zeroV, .bool false] else y.zeroV) = x') → (Instr.lookup t x kx ok).run P c.w = .ok x' c.w := by
    intro x' hx'
    rcases hx2 with ⟨rfl, rfl⟩ | ⟨r', clock, rfl, hg⟩
    ·cases q with
     | none => simp only at hx'; subst hx'; simp only [Instr.lookup, Sem.run_bind, yaj t1, Result.andThen_ok, Sem.run_pure, hck, hfk, hT.run_zero]
     | some p => obtain ⟨i, z⟩ := p; simp only at hx'; subst hx'; simp only [Instr.lookup, Sem.run_bind, yaj t1, Result.andThen_ok, Sem.run_pure, hck, hfk]
    ·have hgo : (getObj r').run P c.w = .ok (.map xs clock) c.w := by simp [getObj, Sem.run, hg]
     cases q with
     | none => simp only at hx'; subst hx'; simp only [Instr.lookup, Sem.run_bind, yaj t1, Result.andThen_ok, Sem.run_pure, hgo, hck, hfk, hT.run_zero]
     | some p => obtain ⟨i, z⟩ := p; simp only at hx'; subst hx'; simp only [Instr.lookup, Sem.run_bind, yaj t1, Result.andThen_ok, Sem.run_pure, hgo, hck, hfk]
   simp only [Option.some.injEq] at h
   cases r with
   | none =>
    cases q with
    | some p => exact q2.elim
    | none =>
     cases ok
     ·simp only at h; subst h
      exact Does.same hR (hrun _ rfl) hzero
     ·simp only at h; subst h
      exact Does.same hR (hrun _ rfl) (pair false hzero)
   | some w =>
    cases q with
    | none => exact q2.elim
    | some p =>
     obtain ⟨i, y'⟩ := p
     cases ok
     ·simp only at h; subst h
      exact Does.same hR (hrun _ rfl) q2
     ·simp only at h; subst h
      exact Does.same hR (hrun _ rfl) (pair true q2)
 ·cases h
theorem ypb (hE : EnvOk P E) (hR : Rel E c) {t : TypeId} {u k v : V} {x kx y : Value} {h' : Heap} (hu : RV c u x) (hk : RV c k kx) (hv : RV c v y) (h : ygi E t u k v c.h = some h') :
  ∃ c', (Instr.mapUpdate t x kx y).run P c.w = .ok () c'.w ∧ Ext c c' ∧ Rel E c' ∧ c'.h = h' := by
 replace h := Option.bind_eq_some_iff.1 h; obtain ⟨d, hd, h⟩ := h
 obtain ⟨ut, t1, t2⟩ := (hE.ty t d hd).und
 split at h
 ·rename_i kt el b hdu
  rw [hdu] at t2; have := yfp t2; subst this
  replace h := Option.bind_eq_some_iff.1 h; obtain ⟨kd, hkd, h⟩ := h
  split at h
  ·cases h
  ·rename_i hfit
   have hfit : ycu kd.u k = true := by cases hq : ycu kd.u k <;> simp_all
   split at h
   ·rename_i es hb
    obtain ⟨es', hs, rfl⟩ := Option.map_eq_some_iff.1 h
    obtain ⟨uk, k1, k2⟩ := (hE.ty kt kd hkd).und
    rw [hu.mp_inv ⟨es, hb⟩]
    obtain ⟨xs, clock, g1, g2, g0, g3⟩ := hR.maps b es hb
    have hents : EntriesOk c es xs.toList := ⟨by simpa using g2.symm, fun j p e hp he => by
     obtain ⟨e', q1, q2, q3⟩ := g3 j p.1 p.2 hp
     have : xs[j]? = some e := by simpa using he
     rw [q1] at this; cases this
     exact ⟨q2, q3⟩⟩
    have hck := ypa (P := P) hE hkd hk hfit false c.w
    have hgo : (getObj (c.ρ b).1).run P c.w = .ok (.map xs clock) c.w := by simp [getObj, Sem.run, g1]
    have hset : ∀ o, (setObj (c.ρ b).1 o).run P c.w = .ok () (setB c.w (c.ρ b).1 o) := fun o => by simp [setObj, Sem.run, g1, setB]
    rw [← k2] at hfit
    have obj : ∀ (ys : Array MapEntry) (cl : Nat), ys.size = es'.length → (cl = ys.size ∧ ∀ (i : Nat) (e : MapEntry), ys[i]? = some e → e.born = i) → (∀ (i : Nat) (kk v : V), es'[i]? = some (kk, v) → ∃ e, ys[i]? = some e ∧ RV c kk e.key ∧ RV c v e.val) →
      Ext c (objC c b (.map es') (.map ys cl)) ∧ Rel E (objC c b (.map es') (.map ys cl)) := fun ys cl h1 h0 h2 =>
     hR.obj hb (by simp) g1 (by simp) (by simp) (fun _ => ⟨es, hb⟩) (fun ⟨s, h⟩ => by cases h) (fun es'' h => by cases h; exact ⟨ys, cl, rfl, h1, h0, h2⟩) (fun s h => by cases h)
    rcases yoz hk hfit es es' xs.toList 0 hents hs with ⟨j, e, q1, q2, q3, q4, q5⟩ | ⟨q1, q2⟩
    ·have hxj : xs[j]? = some e := by simpa using q1
     rw [Nat.zero_add] at q3
     have hstay : (Instr.keyThatStays e.key kx).run P c.w = .ok kx c.w := by
      rw [q2]
      have : Instr.sameBits 10000 kx kx = true := by
       cases k <;> cases uk <;> simp [TyU.of, ycu] at hfit
       ·rw [hk.int_inv]; simp [Instr.sameBits]
       ·rw [hk.str_inv]; simp [Instr.sameBits, bsbeq]
      simp [Instr.keyThatStays, this]
     obtain ⟨j1, j2⟩ := obj (xs.modify j fun e => { e with key := kx, val := y }) clock (by rw [q4]; simp [g2]) ⟨by simp [g0.1], fun i e' he' => by
      rw [Array.getElem?_modify] at he'
      split at he'
      ·rename_i hij
       subst hij
       rw [hxj] at he'
       have : e'.born = e.born := by cases he'; rfl
       rw [this]; exact g0.2 _ _ hxj
      ·exact g0.2 _ _ he'⟩ (fun i kk w hi => by
      subst q4
      by_cases e : i = j
      ·subst e
       rw [List.getElem?_set_self q5] at hi
       cases hi
       obtain ⟨hlt, hxe⟩ := Array.getElem?_eq_some_iff.1 hxj
       exact ⟨_, by rw [Array.getElem?_modify, if_pos rfl, hxj]; rfl, hk, hv⟩
      ·rw [List.getElem?_set_ne (by omega)] at hi
       obtain ⟨e', r1, r2⟩ := g3 i kk w hi
       exact ⟨e', by rw [Array.getElem?_modify, if_neg (by omega)]; exact r1, r2⟩)
     refine ⟨_, ?_, j1, j2, rfl⟩
     simp only [Instr.mapUpdate, Sem.run_bind, yaj t1, Result.andThen_ok, hgo, hck, Instr.findKey, yaj k1, q3, Sem.run_pure, hxj, Option.map_some, Option.getD_some, hstay, hset]
     rfl
    ·obtain ⟨j1, j2⟩ := obj (xs.push { key := kx, val := y, born := clock }) (clock + 1) (by rw [q2]; simp [g2]) ⟨by simp [g0.1], fun i e' he' => by
      rw [Array.getElem?_push] at he'
      split at he'
      ·rename_i hij
       have : e'.born = clock := by cases he'; rfl
       rw [this, g0.1, hij]
      ·exact g0.2 _ _ he'⟩ (fun i kk w hi => by
      subst q2
      by_cases e : i < es.length
      ·rw [List.getElem?_append_left e] at hi
       obtain ⟨e', r1, r2⟩ := g3 i kk w hi
       exact ⟨e', by rw [Array.getElem?_push, if_neg (by omega)]; exact r1, r2⟩
      ·rw [List.getElem?_append_right (by omega)] at hi
       have : i = es.length := by
        have := (List.getElem?_eq_some_iff.1 hi).1; simp at this; omega
       subst this
       simp at hi; obtain ⟨rfl, rfl⟩ := hi
       exact ⟨_, by rw [Array.getElem?_push, if_pos g2.symm], hk, hv⟩)
     refine ⟨_, ?_, j1, j2, rfl⟩
     simp only [Instr.mapUpdate, Sem.run_bind, yaj t1, Result.andThen_ok, hgo, hck, Instr.findKey, yaj k1, q1, Sem.run_pure, hset]
     rfl
   ·cases h
 ·cases h
end
end Go.Sb
