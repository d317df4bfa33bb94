/- Operations: what strings.Builder asks of memory: unsafe pointers, pointers compared, bytes given away ars a string. -/
import Derived.Test.YtekmafoicobphaaGreatDoorSbOps7
import Derived.Lib.Builder
import Derived.Lib.UnsafeStr
set_option linter.unusedVariables false
set_option linter.unusedSimpArgs false
namespace Go.Sb
section
variable {P : Program} {E : Env} {c : Cx}
theorem yma : ∀ {vs : List V} {l : List UInt8} {xs : List Value}, yct vs = some l → RVs c vs xs → ∃ ns : List Int, xs = ns.map (Value.int .u8) ∧ ns.map (fun n => UInt8.ofNat n.toNat) = l
 | [], l, xs, h, hx => by
  have := hx.nil_left; subst this
  simp [yct] at h; subst h; exact ⟨[], rfl, rfl⟩
 | v :: vs, l, xs, h, hx => by
  obtain ⟨y, ys, rfl, h1, h2⟩ := hx.cons_left
  cases v with
  | int k n =>
   cases k with
   | u8 =>
    simp only [yct] at h
    obtain ⟨l', hl, rfl⟩ := Option.map_eq_some_iff.1 h
    obtain ⟨ns, rfl, q⟩ := yma hl h2
    rw [h1.int_inv]
    exact ⟨n :: ns, rfl, by simp [q]⟩
   | _ => simp [yct] at h
  | _ => simp [yct] at h
theorem yor {u : TypeDesc} (h : TyU.of u = .uptr) : u = .unsafePointer := by cases u <;> simp [TyU.of] at h; rfl
theorem Rel.scrap (hR : Rel E c) {r : Nat} (h0 : ¬ c.ro r) (h1 : c.my r) (h2 : ∀ b, live c.h b → (c.ρ b).1 ≠ r) (w' : World) (h3 : ∀ q, q ≠ r → w'.heap[q]? = c.w.heap[q]?) (h4 : w'.heap.size = c.w.heap.size)
  (h5 : ∀ C T fz, c.w.heap[r]? = some (.cells C T fz) → ∃ fz', w'.heap[r]? = some (.cells C T fz')) (h6 : w'.os = c.w.os ∧ w'.tape = c.w.tape ∧ w'.output = c.w.output) : Ext c { c with w := w' } ∧ Rel E { c with w := w' } := by
 have hs : ∀ q, c.ro q → w'.heap[q]? = c.w.heap[q]? := fun q hq => h3 q (fun e => h0 (e ▸ hq))
 have hE : Ext c { c with w := w' } := ⟨fun _ h => h, fun q h => hs q h, Nat.le_refl _, fun _ _ n hn => ⟨n, hn, Nat.le_refl _, fun _ => rfl⟩, fun _ _ h => ⟨h, rfl⟩, fun _ _ h => ⟨h, rfl⟩,
  fun q C T fz h => by
   by_cases e : q = r
   ·subst e; obtain ⟨fz', h'⟩ := h5 C T fz h; exact ⟨C, fz', h', rfl⟩
   ·exact ⟨C, fz, (h3 q e).trans h, rfl⟩,
  Nat.le_of_eq h4.symm, fun _ h => .inl h, fun q _ hn => h3 q (fun e => hn (e ▸ h1)), fun _ h => .inl h, h6⟩
 refine ⟨hE, ?_⟩
 refine ⟨fun b T cs hb => ?_, fun b es hb => ?_, fun b L hb => ?_, hR.own, hR.inj, fun q h => Nat.lt_of_lt_of_le (hR.rolt q h) (Nat.le_of_eq h4.symm), fun g cs hg => (hR.gl g cs hg).mono hE.ro hE.same, hR.mine, hR.ali⟩
 ·exact (hR.cells b T cs hb).mono hE (h3 _ (h2 b ⟨_, hb, by simp⟩)) rfl
 ·exact (hR.maps b es hb).mono hE (h3 _ (h2 b ⟨_, hb, by simp⟩)) rfl
 ·exact (hR.iters b L hb).mono hE (h3 _ (h2 b ⟨_, hb, by simp⟩)) rfl
theorem yos (w : World) (a : Addr) (n : Nat) (q : Nat) (h : q ≠ a.block) : (w.freeze a n).heap[q]? = w.heap[q]? := by
 unfold World.freeze; split
 ·rfl
 ·simp only [Array.getElem?_modify]; rw [if_neg (fun e => h e.symm)]
theorem yot (w : World) (a : Addr) (n : Nat) : (w.freeze a n).heap.size = w.heap.size := by
 unfold World.freeze; split
 ·rfl
 ·simp
theorem you (w : World) (a : Addr) (n : Nat) {C : Array Value} {T : TypeId} {fz : Nat × Nat} (h : w.heap[a.block]? = some (.cells C T fz)) : ∃ fz', (w.freeze a n).heap[a.block]? = some (.cells C T fz') := by
 unfold World.freeze; split
 ·exact ⟨_, h⟩
 ·simp only [Array.getElem?_modify, if_true, h, Option.map_some]; exact ⟨_, rfl⟩
theorem yov (w : World) (a : Addr) (n : Nat) : (w.freeze a n).os = w.os ∧ (w.freeze a n).tape = w.tape ∧ (w.freeze a n).output = w.output := by
 unfold World.freeze; split <;> exact ⟨rfl, rfl, rfl⟩
theorem TyOk.cellsOf {t : TypeId} {d : TyD} (h : TyOk P t d) : P.cellsOf t = d.size := by
 obtain ⟨i, h1, h2, _⟩ := h.info
 simp [Program.cellsOf, h1, h2]
theorem yow {e : TypeId} (cells off n : Nat) (h0 : P.cellsOf e ≠ 0) (hr : off % P.cellsOf e = 0) (hn : off + n * P.cellsOf e ≤ cells) : liesAt P P.depth e (cells / P.cellsOf e) off e n = true := by
 have hd : P.depth = (2 * (P.types.size + Made.depth) + 1) + 1 := rfl
 rw [hd]
 simp only [liesAt, Bool.or_eq_true]
 left
 rw [hd]
 have h1 : off / P.cellsOf e + n ≤ cells / P.cellsOf e := by
  rw [Nat.le_div_iff_mul_le (by omega), Nat.add_mul]
  have : off / P.cellsOf e * P.cellsOf e = off := Nat.div_mul_cancel (Nat.dvd_of_mod_eq_zero hr)
  omega
 simp [rowAt, h0, hr, h1, sameLayout]
theorem yjq {w : World} {r : Nat} {C : Array Value} {T : TypeId} {fz : Nat × Nat} (h : w.heap[r]? = some (.cells C T fz)) : w.shape? r = some (T, C.size) := by
 unfold World.shape?; rw [h]
theorem yuk (hE : EnvOk P E) (hR : Rel E c) {t e : TypeId} {y : TyD} {b z len cap sz : Nat} {x : Value} {q : TypeId × List V} (h1 : P.underlying t = some (.slice e)) (hy : E.ty e = some y) (hyu : y.u = .int .u8) (hq : yaz c.h b sz = some q)
  (hu : RV c (.sl b 0 z len cap sz) x) : Does P E c (convert t t x) (.sl c.h.length 0 z len cap sz) (push (c.h.set b .dead) (.cells q.1 q.2)) := by
 obtain ⟨hb, hl⟩ := ycj hq
 obtain ⟨cap', C1, T1, fz1, rfl, q1, q2, q3⟩ := hu.sl_inv (by rw [yci hb, hl])
 obtain ⟨C, lo, hi, w1, w2, w3, w4, w5⟩ := hR.cells b _ _ hb
 rw [q2] at w1; cases w1
 obtain ⟨ue, u1, u2⟩ := (hE.ty e y hy).und
 rw [hyu] at u2; have := yfa u2; subst this
 have hblt := (List.getElem?_eq_some_iff.1 hb).1
 have hlive : live c.h b := ⟨_, hb, by simp⟩
 have hrun : (convert t t (.slice (some ⟨(c.ρ b).1, (c.ρ b).2 + 0, none⟩) len cap')).run P c.w = .ok (.slice (some ⟨(c.ρ b).1, (c.ρ b).2 + 0, none⟩) len cap') (c.w.freeze ⟨(c.ρ b).1, C1.size, none⟩ 1) := by
  simp [convert, yaj h1, yaj u1, markStringish, yjq q2]
 obtain ⟨lo2, hi2, hfz, hE2⟩ : ∃ lo2 hi2, (c.w.freeze ⟨(c.ρ b).1, C1.size, none⟩ 1).heap[(c.ρ b).1]? = some (.cells C1 q.1 (lo2, hi2)) ∧ C1.size ≤ lo2 := by
  by_cases e : lo = hi
  ·refine ⟨C1.size, C1.size + 1, ?_, Nat.le_refl _⟩
   unfold World.freeze
   rw [if_neg (by decide)]
   simp [Array.getElem?_modify, q2, e]
  ·refine ⟨min lo C1.size, max hi (C1.size + 1), ?_, ?_⟩
   ·unfold World.freeze
    rw [if_neg (by decide)]
    simp [Array.getElem?_modify, q2, e]
   ·rcases w5.2 with w | w
    ·exact absurd w e
    ·omega
 obtain ⟨k1, k2⟩ := hR.kill b hblt
 have hfree : ∀ b', live (c.h.set b .dead) b' → (c.ρ b').1 ≠ (c.ρ b).1 := fun b' hl' e' => by
  have hne : b' ≠ b := fun q => by
   subst q; obtain ⟨k, kk, kn⟩ := hl'
   rw [ydq c.h b' .dead hblt, if_pos rfl] at kk; simp at kk; exact kn kk.symm
  have : live c.h b' := by obtain ⟨k, kk, kn⟩ := hl'; rw [ydq c.h b .dead hblt, if_neg hne] at kk; exact ⟨k, kk, kn⟩
  exact hne (hR.inj b' b this hlive e')
 have hsc := k2.scrap (r := (c.ρ b).1) (hR.own b hlive) (hR.mine b hlive) hfree (c.w.freeze ⟨(c.ρ b).1, C1.size, none⟩ 1) (fun q hq => yos _ _ _ _ hq) (yot _ _ _) (fun C T fz hC => you _ _ _ hC) (yov _ _ _)
 obtain ⟨a1, a2⟩ := hsc.2.adopt (r := (c.ρ b).1) (d := (c.ρ b).2) (C := C1) (T := q.1) (lo := lo2) (hi := hi2) hfz (hR.own b hlive) (hR.mine b hlive) hfree q.2 w2 (fun j v hv => by
   obtain ⟨x, x1, x2⟩ := w3 j v hv
   exact ⟨x, x1, x2.mono (k1.trans hsc.1)⟩) (fun j _ hj => by omega) ⟨w5.1, .inr hE2⟩ (fun y hy => hR.ali b _ _ y hb hy)
 have hh : (ybn { { c with h := c.h.set b .dead } with w := c.w.freeze ⟨(c.ρ b).1, C1.size, none⟩ 1 } (c.ρ b).1 (c.ρ b).2 q.1 q.2).h = push (c.h.set b .dead) (.cells q.1 q.2) := rfl
 have hlen3 : c.h.length = (c.h.set b .dead).length := by simp
 refine ⟨_, ybn { { c with h := c.h.set b .dead } with w := c.w.freeze ⟨(c.ρ b).1, C1.size, none⟩ 1 } (c.ρ b).1 (c.ρ b).2 q.1 q.2, hrun, (k1.trans hsc.1).trans a1, a2, hh, .sl _ _ _ _ _ _ _ ⟨_, _, rfl, q1⟩ (by rw [hh]; simp [push]) (fun m hm => ?_) fun _ => ?_⟩
 ·rw [hh] at hm; simp only [hsz] at hm; rw [ydb, if_pos hlen3] at hm; simp only [Option.some.injEq] at hm; omega
 ·refine ⟨cap', C1, _, (lo2, hi2), by simp only [ybn]; rw [hlen3, yba], q1, by simp only [ybn]; rw [hlen3, yba]; exact hfz, by simp only [ybn]; rw [hlen3, yba]; exact q3⟩
theorem yul (hE : EnvOk P E) (hR : Rel E c) {s d e : TypeId} {y : TyD} {b o sz : Nat} {x : Value} {q : TypeId × List V} (h1 : P.underlying s = some (.pointer e)) (h2 : P.underlying d = some .unsafePointer) (hy : E.ty e = some y) (hq : yaz c.h b sz = some q)
  (hu : RV c (.ptr b o sz) x) (ho : o < sz) (hy0 : y.size ≠ 0) : Does P E c (convert s d x) (.ptr b o sz) c.h := by
 obtain ⟨hb, hl⟩ := ycj hq
 have hx := hu.ptr_inv (by rw [yci hb, hl])
 obtain ⟨C, lo, hi, w1, w2, _⟩ := hR.cells b _ _ hb
 obtain ⟨i, i1, i2, _⟩ := (hE.ty e y hy).info
 refine Does.same hR ?_ hu
 rw [hx]
 exact Lib.run_to_unsafe c.w _ h1 h2 i1 (by rw [i2]; exact hy0) (yjq w1) (by rw [hl] at w2; show (c.ρ b).2 + o < _; omega)
theorem yum (hE : EnvOk P E) (hR : Rel E c) {s d : TypeId} {y : TyD} {b o sz : Nat} {x : Value} {q : TypeId × List V} (h1 : P.underlying s = some .unsafePointer) (h2 : P.underlying d = some (.pointer q.1)) (hy : E.ty q.1 = some y) (hq : yaz c.h b sz = some q)
  (hu : RV c (.ptr b o sz) x) (ho : o + y.size ≤ sz) (hm : o % y.size = 0) (hy0 : y.size ≠ 0) : Does P E c (convert s d x) (.ptr b o sz) c.h := by
 obtain ⟨hb, hl⟩ := ycj hq
 have hx := hu.ptr_inv (by rw [yci hb, hl])
 obtain ⟨C, lo, hi, w1, w2, _⟩ := hR.cells b _ _ hb
 obtain ⟨i, i1, i2, _⟩ := (hE.ty _ y hy).info
 have hc := (hE.ty _ y hy).cellsOf
 have ha := hR.ali b _ _ y hb hy
 refine Does.same hR ?_ hu
 rw [hx]
 exact Lib.run_from_unsafe c.w _ h1 h2 i1 (yjq w1) (yow _ _ 1 (by rw [hc]; exact hy0) (by rw [hc]; show ((c.ρ b).2 + o) % y.size = 0; rw [Nat.add_mod, ha, hm]; simp) (by rw [hc]; show (c.ρ b).2 + o + 1 * y.size ≤ _; rw [hl] at w2; omega))
theorem yun (hE : EnvOk P E) {t e : TypeId} {y : TyD} (a a' : Addr) (ht : P.underlying t = some (.pointer e)) (hy : E.ty e = some y) (hy0 : y.size ≠ 0) (hb : a.block = a'.block) (w : World) : (Op.equal t (.pointer (some a)) (.pointer (some a'))).run P w = .ok (a == a') w := by
 have hs : (sameAddr a a').run P w = .ok (a == a') w := by simp [sameAddr, hb]
 have h : ∀ d : Nat, (Op.equalIn (d + 1) t (.pointer (some a)) (.pointer (some a'))).run P w = .ok (a == a') w := fun d => by
  simp [Op.equalIn, yaj ht, (hE.ty e y hy).run_size, hy0, hs]
 simp [Op.equal, Op.maxDepth, h 9999]
theorem yox (w : World) : ∀ (l : List Int) (a : Addr) (acc : ByteArray), (∀ j x, l[j]? = some x → w.cell? (a.add j) = some (.int .u8 x)) →
  (loadBytes a acc l.length).run P w = .ok ⟨acc.data ++ (l.map fun n => UInt8.ofNat n.toNat).toArray⟩ w
 | [], a, acc, _ => by simp [loadBytes]
 | x :: l, a, acc, h => by
  have h0 : w.cell? a = some (.int .u8 x) := by
   have := h 0 x rfl
   simpa [Addr.add] using this
  have ih := yox w l (a.add 1) (acc.push (UInt8.ofNat x.toNat)) (fun j y hy => by
   have := h (j + 1) y (by simpa using hy)
   rw [Addr.add_add, Nat.add_comm 1 j]; exact this)
  have hx : (x.toNat).toUInt8 = UInt8.ofNat x.toNat := rfl
  simp only [List.length_cons, loadBytes, Sem.run_bind, run_load, h0, Result.andThen, hx]
  rw [ih]
  congr 1
  apply ByteArray.ext
  simp [ByteArray.push]
theorem yuo (hR : Rel E c) {ts : Array TypeId} {ty : TypeId} {u v : V} {x : Value} (hu : RV c u x) (h : ylf u c.h = some v) : Does P E c (Builtin.unsafeSliceData_ ts ty #[x]) v c.h := by
 unfold ylf at h
 split at h
 ·cases h; rw [hu.nils_inv]; exact Does.same hR (Lib.run_unsafeSliceData_nil c.w ts ty 0 0) (.g .nilp)
 ·rename_i b o e len cap sz
  replace h := Option.bind_eq_some_iff.1 h; obtain ⟨q, hq, h⟩ := h
  split at h
  ·cases h
  ·rename_i hc
   cases h
   obtain ⟨hb, hl⟩ := ycj hq
   have hz : hsz c.h b = some sz := by rw [yci hb, hl]
   obtain ⟨cap', C, T, fz, rfl, h1, h2, h3⟩ := hu.sl_inv hz
   exact Does.same hR (Lib.run_unsafeSliceData_row c.w ts ty _ len cap' (by omega)) (.ptr _ _ _ _ ⟨_, rfl⟩ (List.getElem?_eq_some_iff.1 hb).1 (fun n hn => by rw [hz] at hn; cases hn; exact Nat.le_refl _) fun _ => rfl)
 ·cases h
theorem yup (hE : EnvOk P E) (hR : Rel E c) {op : BinOp} {t : TypeId} {ox oy : Operand} {u w v : V} {x y : Value} (hu : RV c u x) (hw : RV c w y) (h : yiz E op t u w c.h = some v) : Does P E c (ydr op t ox oy x y) v c.h := by
 unfold yiz at h
 split at h
 ·rename_i b o sz b' o' sz'
  replace h := Option.bind_eq_some_iff.1 h; obtain ⟨d, hd, h⟩ := h
  obtain ⟨ut, h1, h2⟩ := (hE.ty t d hd).und
  split at h
  ·rename_i e hdu
   rw [hdu] at h2; have := yen h2; subst this
   replace h := Option.bind_eq_some_iff.1 h; obtain ⟨yd, hy, h⟩ := h
   split at h
   ·rename_i hc
    obtain ⟨rfl, rfl, hy0⟩ := hc
    replace h := Option.bind_eq_some_iff.1 h; obtain ⟨q, hq, h⟩ := h
    obtain ⟨hb, hl⟩ := ycj hq
    have hz : hsz c.h b = some sz := by rw [yci hb, hl]
    rw [hu.ptr_inv hz, hw.ptr_inv hz]
    have hop : (op = .eql ∧ v = .bool (o == o')) ∨ (op = .neq ∧ v = .bool !(o == o')) := by
     split at h
     ·cases h; exact .inl ⟨rfl, rfl⟩
     ·cases h; exact .inr ⟨rfl, rfl⟩
     ·cases h
    refine ybt hR hop (fun o ho => ho ▸ rfl) rfl (fun o => ybv (by simp) (by simp) _) ?_
    rw [yun hE ⟨(c.ρ b).1, (c.ρ b).2 + o, none⟩ ⟨(c.ρ b).1, (c.ρ b).2 + o', none⟩ h1 hy hy0 rfl]
    congr 1
    rw [Bool.eq_iff_iff]
    simp
   ·cases h
  ·cases h
 ·exact yoq hE hR hu hw h
theorem yuq (hE : EnvOk P E) (hR : Rel E c) {t it ty : TypeId} {u w v : V} {x y : Value} {h' : Heap} (hu : RV c u x) (hw : RV c w y) (h : ylg E t u w c.h = some (v, h')) : Does P E c (Builtin.unsafeString_ #[t, it] ty #[x, y]) v h' := by
 unfold ylg at h
 split at h
 ·rename_i n
  split at h
  ·rename_i hn; subst hn; cases h
   rw [hu.nilp_inv, hw.int_inv]
   exact Does.same hR (Lib.run_unsafeString_none c.w t it ty none) (.g (.str _))
  ·cases h
 ·rename_i b o sz n
  split at h
  ·rename_i hn; subst hn; cases h
   obtain ⟨p, rfl⟩ := hu.ptr_parts.2.2
   rw [hw.int_inv]
   exact Does.same hR (Lib.run_unsafeString_none c.w t it ty (some p)) (.g (.str _))
  ·replace h := Option.bind_eq_some_iff.1 h; obtain ⟨d, hd, h⟩ := h
   obtain ⟨ut, h1, h2⟩ := (hE.ty t d hd).und
   split at h
   ·rename_i e hdu
    rw [hdu] at h2; have := yen h2; subst this
    replace h := Option.bind_eq_some_iff.1 h; obtain ⟨yd, hy, h⟩ := h
    replace h := Option.bind_eq_some_iff.1 h; obtain ⟨q, hq, h⟩ := h
    split at h
    ·rename_i hc
     obtain ⟨c1, c2, c3, c4, c5⟩ := hc
     obtain ⟨l, hl, h⟩ := Option.map_eq_some_iff.1 h
     cases h
     obtain ⟨hb, hlen⟩ := ycj hq
     have hblt := (List.getElem?_eq_some_iff.1 hb).1
     have hz : hsz c.h b = some sz := by rw [yci hb, hlen]
     have hlive : live c.h b := ⟨_, hb, by simp⟩
     obtain ⟨C, lo, hi, w1, w2, w3, w4, w5⟩ := hR.cells b _ _ hb
     have hcs : P.cellsOf e = 1 := by rw [(hE.ty e yd hy).cellsOf]; exact c2
     rw [hu.ptr_inv hz, hw.int_inv]
     have hll : l.length = n.toNat := by
      have : ∀ (vs : List V) (l : List UInt8), yct vs = some l → l.length = vs.length := by
       intro vs
       induction vs with
       | nil => intro l h; simp [yct] at h; subst h; rfl
       | cons v vs ih =>
        intro l h
        cases v with
        | int k m =>
         cases k with
         | u8 => simp only [yct] at h; obtain ⟨l', hl', rfl⟩ := Option.map_eq_some_iff.1 h; simp [ih l' hl']
         | _ => simp [yct] at h
        | _ => simp [yct] at h
      rw [this _ l hl, List.length_take, List.length_drop]; omega
     obtain ⟨ys, y1, y2⟩ : ∃ ys : List Value, RVs c ((q.2.drop o).take n.toNat) ys ∧ ∀ j z, ys[j]? = some z → c.w.cell? ((⟨(c.ρ b).1, (c.ρ b).2 + o, none⟩ : Addr).add j) = some z := by
      refine ⟨(C.toList.drop ((c.ρ b).2 + o)).take n.toNat, ⟨by simp; omega, fun j v z hv hz => ?_⟩, fun j z hz => ?_⟩
      ·rw [List.getElem?_take] at hv hz
       split at hv
       ·rename_i hj
        rw [if_pos hj] at hz
        rw [List.getElem?_drop] at hv hz
        obtain ⟨x, x1, x2⟩ := w3 _ _ hv
        have : C[(c.ρ b).2 + (o + j)]? = some z := by rw [← Nat.add_assoc]; simpa using hz
        rw [x1] at this; cases this; exact x2
       ·cases hv
      ·rw [List.getElem?_take] at hz
       split at hz
       ·rw [List.getElem?_drop] at hz
        rw [Addr.add_mk]
        unfold World.cell?
        simp only [w1]
        simpa using hz
       ·cases hz
     obtain ⟨ns, rfl, hns⟩ := yma hl y1
     have hnl : ns.length = n.toNat := by have := y1.1; simp at this; rw [← this]; omega
     have hrun : (Builtin.unsafeString_ #[t, it] ty #[.pointer (some ⟨(c.ρ b).1, (c.ρ b).2 + o, none⟩), .int .i64 n]).run P c.w = .ok (.string ⟨⟨l⟩⟩) (c.w.freeze ⟨(c.ρ b).1, (c.ρ b).2 + o, none⟩ n.toNat) := by
      have hlb := yox (P := P) c.w ns ⟨(c.ρ b).1, (c.ρ b).2 + o, none⟩ .empty (fun j m hm => y2 j _ (by simp [hm]))
      rw [hnl, hns] at hlb
      have hali := hR.ali b _ _ yd hb (by rw [c1]; exact hy)
      rw [c1] at w1
      have hlies := yow (P := P) (e := e) C.size ((c.ρ b).2 + o) n.toNat (by rw [hcs]; simp) (by rw [hcs]; exact Nat.mod_one _) (by rw [hcs]; omega)
      obtain ⟨e1, e2, e3, hdef⟩ : ∃ (e1 e2 : Sem PUnit) (e3 : Sem Value), Builtin.unsafeString_ #[t, it] ty #[.pointer (some ⟨(c.ρ b).1, (c.ρ b).2 + o, none⟩), .int .i64 n] =
       (do
        let n ← asInt (.int .i64 n)
        if n < 0 then e1
        if n > IntKind.i64.max then e2
        if n = 0 then pure (.string .empty)
        else if ← variablesAt ⟨(c.ρ b).1, (c.ρ b).2 + o, none⟩ (← elemOf t) n.toNat then do
         let s ← loadBytes ⟨(c.ρ b).1, (c.ρ b).2 + o, none⟩ .empty n.toNat
         freeze ⟨(c.ρ b).1, (c.ρ b).2 + o, none⟩ n.toNat
         pure (.string s)
        else e3) := ⟨_, _, _, rfl⟩
      have hmax : IntKind.i64.max = 9223372036854775807 := rfl
      have g1 : ¬ (9223372036854775807 : Int) < n := by omega
      have g2 : ¬ n < 0 := by omega
      have g3 : ¬ n = 0 := by omega
      rw [hdef]
      simp [asInt, asIntOf, hmax, g1, g2, g3, variablesAt, yjq w1, elemOf, yaj h1, hlies, hlb]
     obtain ⟨k1, k2⟩ := hR.kill b hblt
     have hsc := k2.scrap (r := (c.ρ b).1) (hR.own b hlive) (hR.mine b hlive) (fun b' hl' e' => by
      have hne : b' ≠ b := fun q => by
       subst q; obtain ⟨k, kk, kn⟩ := hl'
       simp only at kk; rw [ydq c.h b' .dead hblt, if_pos rfl] at kk; simp at kk; exact kn kk.symm
      have : live c.h b' := by obtain ⟨k, kk, kn⟩ := hl'; simp only at kk; rw [ydq c.h b .dead hblt, if_neg hne] at kk; exact ⟨k, kk, kn⟩
      exact hne (hR.inj b' b this hlive e')) (c.w.freeze ⟨(c.ρ b).1, (c.ρ b).2 + o, none⟩ n.toNat) (fun q hq => yos _ _ _ _ hq) (yot _ _ _) (fun C T fz hC => you _ _ _ hC) (yov _ _ _)
     exact ⟨_, _, hrun, k1.trans hsc.1, hsc.2, rfl, .g (.str _)⟩
    ·cases h
   ·cases h
 ·cases h
end
end Go.Sb
