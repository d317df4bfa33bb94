/- Seat 13: the readers of lists of instructions and guards. -/
import Derived.Test.YtekmafoicobphaaGreatDoorSb13RdS
set_option linter.unusedVariables false
set_option linter.unusedSimpArgs false
namespace Go.Proofs.YtekmafoicobphaaGreatDoor
open Go.Sb
set_option maxRecDepth 100000
def El {α : Type} (val : V → α → Prop) : List V → List α → Prop
 | [], [] => True
 | v :: vs, x :: xs => val v x ∧ El val vs xs
 | _, _ => False
theorem El.imp {α : Type} {p q : V → α → Prop} (h : ∀ v x, p v x → q v x) : ∀ {vs : List V} {xs : List α}, El p vs xs → El q vs xs
 | [], [], _ => trivial
 | _ :: _, _ :: _, hp => ⟨h _ _ hp.1, hp.2.imp h⟩
 | [], _ :: _, hp => hp.elim
 | _ :: _, [], hp => hp.elim
theorem El.len {α : Type} {p : V → α → Prop} : ∀ {vs : List V} {xs : List α}, El p vs xs → vs.length = xs.length
 | [], [], _ => rfl
 | _ :: _, _ :: _, hp => by rw [List.length_cons, List.length_cons, hp.2.len]
 | [], _ :: _, hp => hp.elim
 | _ :: _, [], hp => hp.elim
theorem El.snoc {α : Type} {p : V → α → Prop} {v : V} {x : α} (hv : p v x) : ∀ {vs : List V} {xs : List α}, El p vs xs → El p (vs ++ [v]) (xs ++ [x])
 | [], [], _ => ⟨hv, trivial⟩
 | _ :: _, _ :: _, hp => ⟨hp.1, hp.2.snoc hv⟩
 | [], _ :: _, hp => hp.elim
 | _ :: _, [], hp => hp.elim
theorem El.all {α : Type} {p : V → α → Prop} {q : V → Prop} (h : ∀ v x, p v x → q v) : ∀ {vs : List V} {xs : List α}, El p vs xs → ∀ v ∈ vs, q v
 | [], [], _, _, hm => by cases hm
 | w :: vs, x :: xs, hp, v, hm => by
  rcases List.mem_cons.1 hm with rfl | hm
  ·exact h _ _ hp.1
  ·exact hp.2.all h v hm
 | [], _ :: _, hp, _, _ => hp.elim
 | _ :: _, [], hp, _, _ => hp.elim
structure ValOK {α : Type} (e : Nat) (T : TypeId) (val : Heap → Nat → V → α → Prop) : Prop where
 cells : ∀ {g : Heap} {n : Nat} {v : V} {x : α}, val g n v x → ∃ cs, v = .agg cs ∧ cs.length = e ∧ cs.all V.isCell = true
 keep : ∀ {g g' : Heap} {n m b : Nat} {u : List UInt8} {i : Int} {v : V} {x : α}, val g n v x → KeepN m b g g' → g.length ≤ m → g[b]? = some (rdr u i) → val g' n v x
 keepT : ∀ {g g' : Heap} {n : Nat} {v : V} {x : α}, val g n v x → KeepT T g g' → val g' n v x
 mono : ∀ {g : Heap} {n m : Nat} {v : V} {x : α}, val g n v x → m ≤ n → val g m v x
def rlM {α : Type} (T : TypeId) (e : Nat) (val : Heap → Nat → V → α → Prop) (h : Heap) (b : Nat) (u : List UInt8) (p : Option (Option (List α) × Nat)) (r : OpR) : Prop := match p with
 | some q => ∃ v g l es, r = .val v g ∧ q.1 = optOf l ∧ InRowB g T e h.length v es ∧ El (val g h.length) es l ∧ KeepN h.length b h g ∧ g[b]? = some (rdr u (q.2 : Nat))
 | none => ∃ g, r = .pan yby g ∧ KeepN h.length b h g
theorem ygh {g : Heap} {b : Nat} {u : List UInt8} {i : Int} (hb : g[b]? = some (rdr u i)) {T : TypeId} (hT : T ≠ 76) : ∀ cs, g[b]? ≠ some (.cells T cs) := fun cs e => by
 rw [hb] at e; simp only [rdr, Option.some.injEq, Blk.cells.injEq] at e; exact hT e.1.symm
theorem yns {E : Env} {t T : TypeId} {h : Heap} {cs : List V} {n : Nat} {d : TyD} (ht : E.ty t = some d) (ha : d.agg = true) (hd : d.size = n) (hn : cs.length = n) : yde E t (.ptr h.length 0 n) (Sb.push h (.cells T cs)) = some (.agg cs) := by
 rw [yfz hn]
 unfold rd
 rw [ht, Option.bind_some, ha]
 simp only [if_true, List.drop_zero]
 rw [if_pos (by omega), List.take_of_length_le (by omega)]
theorem ynt {E : Env} {t el : TypeId} {h : Heap} {cs : List V} {d x : TyD} (ht : E.ty t = some d) (hu : d.u = .slice el) (hel : E.ty el = some x) (hz : x.zero.length = x.size) (h0 : x.size ≠ 0) (hs : x.size ≤ 2 ^ 24) (hl : cs.length = x.size) (hc : cs.all V.isCell = true) :
  yhj E t 1 [(0, .agg cs)] h = some (.sl h.length 0 x.size 1 1 x.size, Sb.push h (.cells el cs)) := by
 unfold yhj
 simp only [ht, Option.bind_some, hu, hel]
 rw [if_neg (by omega), if_neg (by omega)]
 have hr : yca x.zero 1 = x.zero := by simp [yca]
 have hf : fillV (fun i => some (i * x.size, x.size)) (yca x.zero 1) [(0, .agg cs)] = some cs := by
  rw [hr]
  unfold fillV
  simp only [Option.bind_some, V.cells, Nat.zero_mul, Nat.zero_add]
  rw [if_pos ⟨hl, by omega, hc⟩]
  unfold fillV splice
  congr 1
  simp [hl, hz]
 rw [hf, Option.bind_some, if_pos hc, Nat.one_mul]
def grdM (_ : Heap) (_ : Nat) (v : V) (x : Grd) : Prop := v = grdV x
theorem grd_val : ValOK 4 70 grdM := ⟨fun h => ⟨_, h, rfl, rfl⟩, fun h _ _ _ => h, fun h _ => h, fun h _ => h⟩
theorem grdM_ok : RdOK 87 pGrd grdM := grd_ok
theorem ins_val : ValOK 8 68 insM := ⟨fun ⟨w, l, h, _, hr⟩ => ⟨_, h, rfl, by simp only [List.all_cons, List.all_nil, hr.one.2, Bool.and_true]; rfl⟩,
 fun ⟨w, l, h1, h2, hr⟩ hk hm hb => ⟨w, l, h1, h2, hr.keep hk hm (ygh hb (by decide))⟩,
 fun ⟨w, l, h1, h2, hr⟩ hk => ⟨w, l, h1, h2, hr.keepT hk (by decide)⟩,
 fun ⟨w, l, h1, h2, hr⟩ hm => ⟨w, l, h1, h2, hr.mono hm⟩⟩
theorem insM_ok : RdOK 85 pIns insM := ins_ok
theorem yhg {T : TypeId} (h : Heap) (x : Blk) : KeepT T h (Sb.push h x) := fun _ _ hi _ => yam hi
theorem ykx {es : List V} {e : Nat} (h : ∀ v ∈ es, v.cells.length = e) : (es.flatMap V.cells).length = es.length * e := by
 induction es with
 | nil => simp
 | cons a l ih => rw [List.flatMap_cons, List.length_append, ih fun v hv => h v (List.mem_cons_of_mem _ hv), h a List.mem_cons_self, List.length_cons, Nat.succ_mul]; omega
def rlinsI (h0 : Heap) (b : Nat) (u : List UInt8) (F : V) (j n : Nat) (k : Nat) (s : List V) (h : Heap) : Prop :=
 ∃ (i j2 : Nat) (z : Int) (o : V) (es : List V) (l : List Ins), (i + k = n ∧ z = i ∧ InRowB h 68 8 h0.length o es ∧ El (insM h h0.length) es l ∧ KeepN h0.length b h0 h ∧ h[b]? = some (rdr u (j2 : Nat)) ∧ j2 ≤ u.length ∧ l.length = i ∧ pRep (pIns u) n j = (pRep (pIns u) k j2).map fun q => (l ++ q.1, q.2)) ∧ s.length = 36 ∧ s.getD 0 und = und ∧ s.getD 1 und = .ptr b 0 2 ∧ s.getD 2 und = F ∧ s.getD 5 und = .nils ∧ s.getD 6 und = .int .i64 n ∧ s.getD 7 und = o ∧ s.getD 25 und = .int .i64 n ∧ s.getD 26 und = .int .i64 z
theorem yxq {h0 : Heap} {b : Nat} {u : List UInt8} {F : V} {j n : Nat} {k : Nat} {s : List V} {h : Heap} (hI : rlinsI h0 b u F j n k s h) : ∃ (i j2 : Nat) (z : Int) (o : V) (es : List V) (l : List Ins) (x : Nat → V), (i + k = n ∧ z = i ∧ InRowB h 68 8 h0.length o es ∧ El (insM h h0.length) es l ∧ KeepN h0.length b h0 h ∧ h[b]? = some (rdr u (j2 : Nat)) ∧ j2 ≤ u.length ∧ l.length = i ∧ pRep (pIns u) n j = (pRep (pIns u) k j2).map fun q => (l ++ q.1, q.2)) ∧
  s = [und, .ptr b 0 2, F, x 3, x 4, .nils, .int .i64 n, o, x 8, x 9, x 10, x 11, x 12, x 13, x 14, x 15, x 16, x 17, x 18, x 19, x 20, x 21, x 22, x 23, x 24, .int .i64 n, .int .i64 z, x 27, x 28, x 29, x 30, x 31, x 32, x 33, x 34, x 35] := by
 obtain ⟨i, j2, z, o, es, l, hF, hl, e0, e1, e2, e5, e6, e7, e25, e26⟩ := hI
 refine ⟨i, j2, z, o, es, l, fun n => s.getD n und, hF, (ybd hl).trans ?_⟩
 simp only [List.range, List.range.loop, List.map_cons, List.map_nil]
 rw [e0, e1, e2, e5, e6, e7, e25, e26]
set_option maxHeartbeats 4000000 in
theorem yxr {h : Heap} {b : Nat} {u : List UInt8} {i : Nat} (hb : h[b]? = some (rdr u i)) (hi : i ≤ u.length) (hs : u.length ≤ 2 ^ 38) : ∃ r, Has envQ .shared 84 [.ptr b 0 2, .bm 85 [.ptr b 0 2]] h r ∧ rlM 68 8 insM h b u (pLst (pIns u) u i) r := by
 obtain ⟨r, hr, hR⟩ := ygf hb hi hs
 refine HasP.sharedX (d := fn84) rfl (jT rfl) ?_
 unfold rdX at hR
 have hnone : ∀ g, pLst (pIns u) u i = none → KeepN h.length b h g → rlM 68 8 insM h b u (pLst (pIns u) u i) (.pan yby g) := fun g hp hk => by
  rw [hp]; exact ⟨g, rfl, hk⟩
 apply jA
 apply jB
 apply jA
 cases hd : pNat u i with
 | none =>
  rw [hd] at hR
  obtain ⟨k, rfl⟩ := hR
  refine RunP.regionP 1 (CallP.of hr ?_)
  exact ⟨rfl, hnone _ (by unfold pLst; rw [yku hd]; rfl) (KeepN.set _ _ _ _)⟩
 | some p =>
  have hle := yhf hd
  have hj := (ycx u [] i p hi hd).2.2
  rw [hd] at hR
  simp only at hR
  subst hR
  obtain ⟨n, j⟩ := p
  simp only at hle hr hj ⊢
  have hb1 : (h.set b (rdr u (j : Nat)))[b]? = some (rdr u (j : Nat)) := ybs hb
  apply jB
  refine CallK.of hr ?_
  apply jA
  have ew : IntKind.i64.wrap ((u.length : Int) - (j : Int)) = ((u.length - j : Nat) : Int) := by rw [wrapS (by omega) (by omega)]; omega
  by_cases hfit : n + j ≤ u.length
  case neg =>
   apply RunP.drawnP
   ·decide +kernel
   refine yab (yae (E := envQ) (t := 9) (n := 2) hb1 rfl) ?_
   refine yab (yae (E := envQ) (t := 3) (n := 2) hb1 rfl) ?_
   refine jI (fun h0 => by rw [ew] at h0; omega) (fun _ => ?_)
   refine drawZ (by decide +kernel) (by decide +kernel) ?_
   refine jI ⟨rfl, by decide +kernel⟩ (CallP.of (ydw _ _) ?_)
   exact ⟨rfl, hnone _ (by unfold pLst; rw [yfg hd, if_neg hfit]; rfl) (KeepN.set _ _ _ _)⟩
  have hpl : pLst (pIns u) u i = (pRep (pIns u) n j).map fun q => (optOf q.1, q.2) := by
   unfold pLst; rw [yfg hd, if_pos hfit]; rfl
  have hval : ∀ v g l es j2, pRep (pIns u) n j = some (l, j2) → InRowB g 68 8 h.length v es → El (insM g h.length) es l → KeepN h.length b h g → g[b]? = some (rdr u (j2 : Nat)) → rlM 68 8 insM h b u (pLst (pIns u) u i) (.val v g) := fun v g l es j2 hp hr he hk hb => by
   rw [hpl, hp]; exact ⟨v, g, l, es, rfl, rfl, hr, he, hk, hb⟩
  have hno2 : ∀ g, pRep (pIns u) n j = none → KeepN h.length b h g → rlM 68 8 insM h b u (pLst (pIns u) u i) (.pan yby g) := fun g hp hk => hnone g (by rw [hpl, hp]; rfl) hk
  clear hnone
  generalize rlM 68 8 insM h b u (pLst (pIns u) u i) = PR at hval hno2 ⊢
  apply RunP.drawn
  ·decide +kernel
  refine yab (yae (E := envQ) (t := 9) (n := 2) hb1 rfl) ?_
  refine yab (yae (E := envQ) (t := 3) (n := 2) hb1 rfl) ?_
  refine jI (fun _ => ?_) (fun h0 => by rw [ew] at h0; omega)
  refine drawZ (by decide +kernel) (by decide +kernel) ?_
  refine CallK.of (ydi _ _) ?_
  refine drawW (by decide +kernel) (by kernel_rfl) ?_
  apply jA
  apply jB
  apply jA
  apply jA
  apply jB
  apply jF
  refine RunP.loop (rlinsI h b u (.bm 85 [.ptr b 0 2]) j n) ?_ n ⟨0, j, _, _, [], [], ⟨by omega, rfl, .inl ⟨rfl, rfl⟩, trivial, KeepN.set _ _ _ _, hb1, hj, rfl, by cases pRep (pIns u) n j <;> rfl⟩, rfl, rfl, rfl, rfl, rfl, rfl, rfl, rfl, rfl⟩
  intro k st g hI
  obtain ⟨m, j2, z, o, es, l, x, ⟨hmk, hz, hrow, hel, hkp, hbg, hj2, hll, hpr⟩, rfl⟩ := yxq hI
  clear hI
  subst hz
  apply jA
  apply jB
  refine jI (fun hlt => ?_) (fun hge => ?_)
  case' refine_2 =>
   apply jA
   apply jD rfl
   apply jG
   apply jA
   apply jB
   apply jH
   obtain rfl : k = 0 := by omega
   exact ⟨rfl, hval _ _ l es j2 (by rw [hpr]; simp [pRep]) hrow hel hkp hbg⟩
  apply jA
  apply jC rfl
  apply jE
  apply jA
  apply jF
  apply jA
  obtain ⟨r1, hr1, hR1⟩ := insM_ok g b u j2 hbg hj2 hs
  obtain ⟨k, rfl⟩ : ∃ k', k = k' + 1 := ⟨k - 1, by omega⟩
  unfold rdK at hR1
  cases hd1 : pIns u j2 with
  | none =>
   rw [hd1] at hR1
   obtain ⟨g1, rfl, hk1⟩ := hR1
   refine RunP.regionP 1 (CallP.of hr1 ?_)
   exact ⟨rfl, hno2 _ (by rw [hpr]; unfold pRep; rw [hd1]; rfl) (hkp.trans (hk1.mono hkp.1))⟩
  | some q =>
   rw [hd1] at hR1
   obtain ⟨v1, g1, rfl, hv1, hk1, hb2⟩ := hR1
   obtain ⟨cs, rfl, hcl, hcc⟩ := ins_val.cells hv1
   have hj3 := (ynm u [] j2 q hj2 hd1).2.2
   apply jB
   refine CallK.of hr1 ?_
   refine yab (ycw (E := envQ) (t := 68) (n := 8) (v := .agg cs) rfl rfl rfl hcl hcc) ?_
   apply jB
   refine yab (yns (E := envQ) (t := 68) (n := 8) (cs := cs) rfl rfl rfl hcl) ?_
   refine yep (ynt (E := envQ) (t := 58) (el := 68) (x := ty68) rfl rfl rfl rfl (by decide) (by decide) hcl hcc) ?_
   have hrow1 := hrow.keep hk1 (Nat.le_refl _) (ygh hbg (by decide))
   have hel1 : El (insM g1 h.length) es l := hel.imp fun v x hv => ins_val.keep hv hk1 (Nat.le_refl _) hbg
   have hv2 := ins_val.mono hv1 hkp.1
   have hlen1 := hk1.1
   have hlen0 := hkp.1
   have hel2 := hel.len
   obtain ⟨v', g2, a1, a2, a3, a4, a5⟩ := ykt (E := envQ) (t := 58) (T := 68) (e := 8) (n := h.length) (h := Sb.push (Sb.push g1 (.cells 68 cs)) (.cells 68 cs)) (c := .agg cs) (x := .sl (Sb.push g1 (.cells 68 cs)).length 0 8 1 1 8) rfl rfl rfl rfl (by decide) (by simp [Sb.push]; omega) ((hrow1.push _).push _) (ykx fun v hv => by obtain ⟨ds, rfl, q, _⟩ := hel.all (q := fun v => ∃ cs, v = .agg cs ∧ cs.length = 8 ∧ cs.all V.isCell = true) (fun v x => ins_val.cells) v hv; exact q) (yic (n := 8) _ _ cs hcl) (by simp [roomy, show ty68.bytes = 88 from rfl]; omega)
   refine ycn (congrArg valH a1) ?_
   apply jB
   have hblt := (List.getElem?_eq_some_iff.1 hb).1
   have hkt : KeepT 68 g1 g2 := ((yhg g1 _).trans (yhg _ _)).trans a5
   refine ⟨k, by omega, m + 1, q.2, _, v', es ++ [.agg cs], l ++ [q.1], ⟨by omega, ycp m (by omega), a2, (hel1.imp fun v x hv => ins_val.keepT hv hkt).snoc (ins_val.keepT hv2 hkt), (hkp.trans (hk1.mono hkp.1)).trans ⟨by simp [Sb.push] at a3 ⊢; omega, fun i k hi _ hk => a4 i k hi (yam (yam hk))⟩, a4 b _ hblt (yam (yam hb2)), hj3, by simp [hll], ?_⟩, rfl, rfl, rfl, rfl, rfl, rfl, rfl, rfl, rfl⟩
   rw [hpr]
   conv => lhs; unfold pRep
   rw [hd1]
   simp only [Option.bind_some, Option.map_map]
   congr 1
   funext w
   simp [Function.comp]
def rlgrdI (h0 : Heap) (b : Nat) (u : List UInt8) (F : V) (j n : Nat) (k : Nat) (s : List V) (h : Heap) : Prop :=
 ∃ (i j2 : Nat) (z : Int) (o : V) (es : List V) (l : List Grd), (i + k = n ∧ z = i ∧ InRowB h 70 4 h0.length o es ∧ El (grdM h h0.length) es l ∧ KeepN h0.length b h0 h ∧ h[b]? = some (rdr u (j2 : Nat)) ∧ j2 ≤ u.length ∧ l.length = i ∧ pRep (pGrd u) n j = (pRep (pGrd u) k j2).map fun q => (l ++ q.1, q.2)) ∧ s.length = 36 ∧ s.getD 0 und = und ∧ s.getD 1 und = .ptr b 0 2 ∧ s.getD 2 und = F ∧ s.getD 5 und = .nils ∧ s.getD 6 und = .int .i64 n ∧ s.getD 7 und = o ∧ s.getD 25 und = .int .i64 n ∧ s.getD 26 und = .int .i64 z
theorem yxs {h0 : Heap} {b : Nat} {u : List UInt8} {F : V} {j n : Nat} {k : Nat} {s : List V} {h : Heap} (hI : rlgrdI h0 b u F j n k s h) : ∃ (i j2 : Nat) (z : Int) (o : V) (es : List V) (l : List Grd) (x : Nat → V), (i + k = n ∧ z = i ∧ InRowB h 70 4 h0.length o es ∧ El (grdM h h0.length) es l ∧ KeepN h0.length b h0 h ∧ h[b]? = some (rdr u (j2 : Nat)) ∧ j2 ≤ u.length ∧ l.length = i ∧ pRep (pGrd u) n j = (pRep (pGrd u) k j2).map fun q => (l ++ q.1, q.2)) ∧
  s = [und, .ptr b 0 2, F, x 3, x 4, .nils, .int .i64 n, o, x 8, x 9, x 10, x 11, x 12, x 13, x 14, x 15, x 16, x 17, x 18, x 19, x 20, x 21, x 22, x 23, x 24, .int .i64 n, .int .i64 z, x 27, x 28, x 29, x 30, x 31, x 32, x 33, x 34, x 35] := by
 obtain ⟨i, j2, z, o, es, l, hF, hl, e0, e1, e2, e5, e6, e7, e25, e26⟩ := hI
 refine ⟨i, j2, z, o, es, l, fun n => s.getD n und, hF, (ybd hl).trans ?_⟩
 simp only [List.range, List.range.loop, List.map_cons, List.map_nil]
 rw [e0, e1, e2, e5, e6, e7, e25, e26]
set_option maxHeartbeats 4000000 in
theorem yxt {h : Heap} {b : Nat} {u : List UInt8} {i : Nat} (hb : h[b]? = some (rdr u i)) (hi : i ≤ u.length) (hs : u.length ≤ 2 ^ 38) : ∃ r, Has envQ .shared 86 [.ptr b 0 2, .bm 87 [.ptr b 0 2]] h r ∧ rlM 70 4 grdM h b u (pLst (pGrd u) u i) r := by
 obtain ⟨r, hr, hR⟩ := ygf hb hi hs
 refine HasP.sharedX (d := fn86) rfl (jT rfl) ?_
 unfold rdX at hR
 have hnone : ∀ g, pLst (pGrd u) u i = none → KeepN h.length b h g → rlM 70 4 grdM h b u (pLst (pGrd u) u i) (.pan yby g) := fun g hp hk => by
  rw [hp]; exact ⟨g, rfl, hk⟩
 apply jA
 apply jB
 apply jA
 cases hd : pNat u i with
 | none =>
  rw [hd] at hR
  obtain ⟨k, rfl⟩ := hR
  refine RunP.regionP 1 (CallP.of hr ?_)
  exact ⟨rfl, hnone _ (by unfold pLst; rw [yku hd]; rfl) (KeepN.set _ _ _ _)⟩
 | some p =>
  have hle := yhf hd
  have hj := (ycx u [] i p hi hd).2.2
  rw [hd] at hR
  simp only at hR
  subst hR
  obtain ⟨n, j⟩ := p
  simp only at hle hr hj ⊢
  have hb1 : (h.set b (rdr u (j : Nat)))[b]? = some (rdr u (j : Nat)) := ybs hb
  apply jB
  refine CallK.of hr ?_
  apply jA
  have ew : IntKind.i64.wrap ((u.length : Int) - (j : Int)) = ((u.length - j : Nat) : Int) := by rw [wrapS (by omega) (by omega)]; omega
  by_cases hfit : n + j ≤ u.length
  case neg =>
   apply RunP.drawnP
   ·decide +kernel
   refine yab (yae (E := envQ) (t := 9) (n := 2) hb1 rfl) ?_
   refine yab (yae (E := envQ) (t := 3) (n := 2) hb1 rfl) ?_
   refine jI (fun h0 => by rw [ew] at h0; omega) (fun _ => ?_)
   refine drawZ (by decide +kernel) (by decide +kernel) ?_
   refine jI ⟨rfl, by decide +kernel⟩ (CallP.of (ydw _ _) ?_)
   exact ⟨rfl, hnone _ (by unfold pLst; rw [yfg hd, if_neg hfit]; rfl) (KeepN.set _ _ _ _)⟩
  have hpl : pLst (pGrd u) u i = (pRep (pGrd u) n j).map fun q => (optOf q.1, q.2) := by
   unfold pLst; rw [yfg hd, if_pos hfit]; rfl
  have hval : ∀ v g l es j2, pRep (pGrd u) n j = some (l, j2) → InRowB g 70 4 h.length v es → El (grdM g h.length) es l → KeepN h.length b h g → g[b]? = some (rdr u (j2 : Nat)) → rlM 70 4 grdM h b u (pLst (pGrd u) u i) (.val v g) := fun v g l es j2 hp hr he hk hb => by
   rw [hpl, hp]; exact ⟨v, g, l, es, rfl, rfl, hr, he, hk, hb⟩
  have hno2 : ∀ g, pRep (pGrd u) n j = none → KeepN h.length b h g → rlM 70 4 grdM h b u (pLst (pGrd u) u i) (.pan yby g) := fun g hp hk => hnone g (by rw [hpl, hp]; rfl) hk
  clear hnone
  generalize rlM 70 4 grdM h b u (pLst (pGrd u) u i) = PR at hval hno2 ⊢
  apply RunP.drawn
  ·decide +kernel
  refine yab (yae (E := envQ) (t := 9) (n := 2) hb1 rfl) ?_
  refine yab (yae (E := envQ) (t := 3) (n := 2) hb1 rfl) ?_
  refine jI (fun _ => ?_) (fun h0 => by rw [ew] at h0; omega)
  refine drawZ (by decide +kernel) (by decide +kernel) ?_
  refine CallK.of (ydi _ _) ?_
  refine drawW (by decide +kernel) (by kernel_rfl) ?_
  apply jA
  apply jB
  apply jA
  apply jA
  apply jB
  apply jF
  refine RunP.loop (rlgrdI h b u (.bm 87 [.ptr b 0 2]) j n) ?_ n ⟨0, j, _, _, [], [], ⟨by omega, rfl, .inl ⟨rfl, rfl⟩, trivial, KeepN.set _ _ _ _, hb1, hj, rfl, by cases pRep (pGrd u) n j <;> rfl⟩, rfl, rfl, rfl, rfl, rfl, rfl, rfl, rfl, rfl⟩
  intro k st g hI
  obtain ⟨m, j2, z, o, es, l, x, ⟨hmk, hz, hrow, hel, hkp, hbg, hj2, hll, hpr⟩, rfl⟩ := yxs hI
  clear hI
  subst hz
  apply jA
  apply jB
  refine jI (fun hlt => ?_) (fun hge => ?_)
  case' refine_2 =>
   apply jA
   apply jD rfl
   apply jG
   apply jA
   apply jB
   apply jH
   obtain rfl : k = 0 := by omega
   exact ⟨rfl, hval _ _ l es j2 (by rw [hpr]; simp [pRep]) hrow hel hkp hbg⟩
  apply jA
  apply jC rfl
  apply jE
  apply jA
  apply jF
  apply jA
  obtain ⟨r1, hr1, hR1⟩ := grdM_ok g b u j2 hbg hj2 hs
  obtain ⟨k, rfl⟩ : ∃ k', k = k' + 1 := ⟨k - 1, by omega⟩
  unfold rdK at hR1
  cases hd1 : pGrd u j2 with
  | none =>
   rw [hd1] at hR1
   obtain ⟨g1, rfl, hk1⟩ := hR1
   refine RunP.regionP 1 (CallP.of hr1 ?_)
   exact ⟨rfl, hno2 _ (by rw [hpr]; unfold pRep; rw [hd1]; rfl) (hkp.trans (hk1.mono hkp.1))⟩
  | some q =>
   rw [hd1] at hR1
   obtain ⟨v1, g1, rfl, hv1, hk1, hb2⟩ := hR1
   obtain ⟨cs, rfl, hcl, hcc⟩ := grd_val.cells hv1
   have hj3 := (ynn u [] j2 q hj2 hd1).2.2
   apply jB
   refine CallK.of hr1 ?_
   refine yab (ycw (E := envQ) (t := 70) (n := 4) (v := .agg cs) rfl rfl rfl hcl hcc) ?_
   apply jB
   refine yab (yns (E := envQ) (t := 70) (n := 4) (cs := cs) rfl rfl rfl hcl) ?_
   refine yep (ynt (E := envQ) (t := 59) (el := 70) (x := ty70) rfl rfl rfl rfl (by decide) (by decide) hcl hcc) ?_
   have hrow1 := hrow.keep hk1 (Nat.le_refl _) (ygh hbg (by decide))
   have hel1 : El (grdM g1 h.length) es l := hel.imp fun v x hv => grd_val.keep hv hk1 (Nat.le_refl _) hbg
   have hv2 := grd_val.mono hv1 hkp.1
   have hlen1 := hk1.1
   have hlen0 := hkp.1
   have hel2 := hel.len
   obtain ⟨v', g2, a1, a2, a3, a4, a5⟩ := ykt (E := envQ) (t := 59) (T := 70) (e := 4) (n := h.length) (h := Sb.push (Sb.push g1 (.cells 70 cs)) (.cells 70 cs)) (c := .agg cs) (x := .sl (Sb.push g1 (.cells 70 cs)).length 0 4 1 1 4) rfl rfl rfl rfl (by decide) (by simp [Sb.push]; omega) ((hrow1.push _).push _) (ykx fun v hv => by obtain ⟨ds, rfl, q, _⟩ := hel.all (q := fun v => ∃ cs, v = .agg cs ∧ cs.length = 4 ∧ cs.all V.isCell = true) (fun v x => grd_val.cells) v hv; exact q) (yic (n := 4) _ _ cs hcl) (by simp [roomy, show ty70.bytes = 32 from rfl]; omega)
   refine ycn (congrArg valH a1) ?_
   apply jB
   have hblt := (List.getElem?_eq_some_iff.1 hb).1
   have hkt : KeepT 70 g1 g2 := ((yhg g1 _).trans (yhg _ _)).trans a5
   refine ⟨k, by omega, m + 1, q.2, _, v', es ++ [.agg cs], l ++ [q.1], ⟨by omega, ycp m (by omega), a2, (hel1.imp fun v x hv => grd_val.keepT hv hkt).snoc (grd_val.keepT hv2 hkt), (hkp.trans (hk1.mono hkp.1)).trans ⟨by simp [Sb.push] at a3 ⊢; omega, fun i k hi _ hk => a4 i k hi (yam (yam hk))⟩, a4 b _ hblt (yam (yam hb2)), hj3, by simp [hll], ?_⟩, rfl, rfl, rfl, rfl, rfl, rfl, rfl, rfl, rfl⟩
   rw [hpr]
   conv => lhs; unfold pRep
   rw [hd1]
   simp only [Option.bind_some, Option.map_map]
   congr 1
   funext w
   simp [Function.comp]
end Go.Proofs.YtekmafoicobphaaGreatDoor
