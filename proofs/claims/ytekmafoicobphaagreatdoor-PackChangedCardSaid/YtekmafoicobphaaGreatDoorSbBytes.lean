/- Rows of elements in the evaluator's memory: frozen, appended to. -/
import Derived.Test.YtekmafoicobphaaGreatDoorSbIdx
import Derived.Test.YtekmafoicobphaaGreatDoorSbRun
set_option linter.unusedVariables false
set_option linter.unusedSimpArgs false
namespace Go.Sb
def V.leaf : V → Bool
  | .bool _ | .int _ _ | .str _ | .nilp | .nils | .nilm | .nilf | .nili | .emp | .rop _ | .lst _ _ => true
  | _ => false
theorem yco {E : Env} {h : Heap} {n : Nat} {v : V} (hv : v.leaf = true) : fz E h (n + 1) v = some v := by
  cases v <;> simp [V.leaf] at hv <;> rfl
theorem ygy {E : Env} {h : Heap} {n : Nat} : ∀ {cs : List V}, (∀ c ∈ cs, c.leaf = true) → cs.mapM (fz E h (n + 1)) = some cs
  | [], _ => rfl
  | c :: cs, hc => by
    rw [List.mapM_cons, yco (hc c (by simp)), ygy fun x hx => hc x (by simp [hx])]
    rfl
def Elem (e : Nat) (v : V) : Prop := ∃ cs, v = .agg cs ∧ cs.length = e ∧ ∀ c ∈ cs, c.leaf = true
theorem Elem.cells {e : Nat} {v : V} (h : Elem e v) : v.cells.length = e ∧ v.cells.all V.isCell = true := by
  obtain ⟨cs, rfl, h1, h2⟩ := h
  refine ⟨h1, List.all_eq_true.2 fun c hc => ?_⟩
  have := h2 c hc
  cases c <;> simp [V.leaf] at this <;> rfl
theorem yqp {e : Nat} : ∀ {es : List V}, (∀ v ∈ es, Elem e v) → (es.flatMap V.cells).length = es.length * e
  | [], _ => by simp
  | v :: es, h => by
    rw [List.flatMap_cons, List.length_append, (h v (by simp)).cells.1, yqp fun x hx => h x (by simp [hx]), List.length_cons, Nat.add_mul]
    omega
theorem yqq {e : Nat} : ∀ {es : List V} {i : Nat} {v : V}, (∀ v ∈ es, Elem e v) → es[i]? = some v → ((es.flatMap V.cells).drop (i * e)).take e = v.cells
  | [], _, _, _, h => by simp at h
  | u :: es, 0, v, h, hi => by
    simp at hi; subst hi
    rw [List.flatMap_cons, Nat.zero_mul, List.drop_zero, List.take_append_of_le_length (by rw [(h u (by simp)).cells.1]; exact Nat.le_refl _)]
    rw [List.take_of_length_le]
    rw [(h u (by simp)).cells.1]; exact Nat.le_refl _
  | u :: es, i + 1, v, h, hi => by
    have hu := (h u (by simp)).cells.1
    rw [List.flatMap_cons, Nat.add_mul, Nat.one_mul, List.drop_append, hu]
    rw [List.drop_of_length_le (by rw [hu]; omega), List.nil_append, Nat.add_sub_cancel]
    exact yqq (fun x hx => h x (by simp [hx])) (by simpa using hi)
theorem yqr {α : Type} {f : Nat → Option α} (l : List α) (h : ∀ i a, l[i]? = some a → f i = some a) : ∀ n, n ≤ l.length → (List.range n).mapM f = some (l.take n)
  | 0, _ => rfl
  | n + 1, hn => by
    have hi : n < l.length := hn
    rw [List.range_succ, List.mapM_append, yqr l h n (by omega), List.take_add_one]
    simp [h n l[n] (List.getElem?_eq_getElem hi), List.getElem?_eq_getElem hi]
theorem yqs {α : Type} {f : Nat → Option α} (l : List α) (h : ∀ i a, l[i]? = some a → f i = some a) : (List.range l.length).mapM f = some l := by
  rw [yqr l h _ (Nat.le_refl _), List.take_length]
theorem fz_sl {E : Env} {h : Heap} {n b o e len cap sz : Nat} : fz E h (n + 1) (.sl b o e len cap sz) = (yaz h b sz).bind fun x => (E.ty x.1).bind fun d =>
      if d.size = e ∧ 0 < e ∧ o + len * e ≤ x.2.length ∧ len ≤ cap then
        (if d.agg then (List.range len).mapM (fun i => (((x.2.drop (o + i * e)).take e).mapM (fz E h n)).map .agg)
         else if e = 1 then ((x.2.drop o).take len).mapM (fz E h n) else none).map (.lst e)
      else none := rfl
theorem fz_row {E : Env} {h : Heap} {n b e cap : Nat} {T : TypeId} {d : TyD} {es : List V} (hb : h[b]? = some (.cells T (es.flatMap V.cells))) (hT : E.ty T = some d) (hd : d.size = e) (ha : d.agg = true) (he : 0 < e) (hes : ∀ v ∈ es, Elem e v) (hc : es.length ≤ cap) :
    fz E h (n + 2) (.sl b 0 e es.length cap (es.length * e)) = some (.lst e es) := by
  have hl := yqp hes
  have hca : yaz h b (es.length * e) = some (T, es.flatMap V.cells) := by simp [yaz, hb, hl]
  rw [fz_sl]
  simp only [hca, Option.bind_some, hT]
  rw [if_pos ⟨hd, he, by rw [hl]; omega, hc⟩, if_pos ha, yqs es]
  · rfl
  · intro i v hi
    have hv := hes v (List.mem_of_getElem? hi)
    rw [Nat.zero_add, yqq hes hi]
    obtain ⟨cs, rfl, h1, h2⟩ := hv
    simp only [V.cells]
    rw [ygy h2]; rfl
def InRow (h : Heap) (T : TypeId) (e : Nat) (v : V) (es : List V) : Prop :=
  (v = .nils ∧ es = []) ∨ ∃ b, v = .sl b 0 e es.length es.length (es.length * e) ∧ h[b]? = some (.cells T (es.flatMap V.cells)) ∧ es ≠ []
theorem InRow.fz {E : Env} {h : Heap} {n e : Nat} {T : TypeId} {d : TyD} {v : V} {es : List V} (hr : InRow h T e v es) (hT : E.ty T = some d) (hd : d.size = e) (ha : d.agg = true) (he : 0 < e) (hes : ∀ v ∈ es, Elem e v) :
    ∃ g, Sb.fz E h (n + 2) v = some g ∧ ((g = .nils ∧ es = []) ∨ g = .lst e es) := by
  rcases hr with ⟨rfl, rfl⟩ | ⟨b, rfl, hb, _⟩
  · exact ⟨_, rfl, .inl ⟨rfl, rfl⟩⟩
  · exact ⟨_, fz_row hb hT hd ha he hes (Nat.le_refl _), .inr rfl⟩
theorem InRow.push {h : Heap} {T : TypeId} {e : Nat} {v : V} {es : List V} (hr : InRow h T e v es) (b : Blk) : InRow (push h b) T e v es := by
  rcases hr with h | ⟨i, h1, h2, h3⟩
  · exact .inl h
  · exact .inr ⟨i, h1, by rw [ydb, if_neg (by have := (List.getElem?_eq_some_iff.1 h2).1; omega)]; exact h2, h3⟩
def Fr (e : Nat) (v : V) (es : List V) : Prop := ((v = .nils ∨ v = .emp) ∧ es = []) ∨ v = .lst e es
theorem Fr.noref {e : Nat} {v : V} {es : List V} (h : Fr e v es) : v.noref = true := by
  rcases h with ⟨rfl | rfl, _⟩ | rfl <;> rfl
theorem Fr.leaf {e : Nat} {v : V} {es : List V} (h : Fr e v es) : v.leaf = true := by
  rcases h with ⟨rfl | rfl, _⟩ | rfl <;> rfl
theorem Fr.contents {g : Heap} {e : Nat} {v : V} {es : List V} (h : Fr e v es) : contents g e v = some (es.length, es.flatMap V.cells) := by
  rcases h with ⟨rfl | rfl, rfl⟩ | rfl
  · rfl
  · rfl
  · simp [Sb.contents]
theorem ymw (h : Heap) (T : TypeId) (cs : List V) (n : Nat) (hn : cs.length = n) : yaz (Sb.push h (.cells T cs)) h.length n = some (T, cs) := by
  simp [yaz, Sb.push, hn]
theorem yic (h : Heap) (T : TypeId) (cs : List V) {n : Nat} (hn : cs.length = n) : Sb.contents (Sb.push h (.cells T cs)) n (.sl h.length 0 n 1 1 n) = some (1, cs) := by
  simp only [Sb.contents, ymw h T cs n hn, if_true, Option.bind_some]
  rw [if_pos (by omega), Nat.one_mul, List.drop_zero, List.take_of_length_le (by omega)]
theorem ycp (i : Nat) (h : i < 2 ^ 62) : IntKind.i64.wrap ((i : Int) + 1) = ((i + 1 : Nat) : Int) := by
  simp [IntKind.wrap, IntKind.signed, IntKind.bits]; split <;> omega
theorem yfz {E : Env} {t T : TypeId} {h : Heap} {cs : List V} {o n : Nat} (hn : cs.length = n) : yde E t (.ptr h.length o n) (Sb.push h (.cells T cs)) = rd E t (cs.drop o) := by
  simp only [yde, ymw h T cs n hn, Option.bind_some]
theorem ycw {E : Env} {t T : TypeId} {h : Heap} {cs : List V} {n : Nat} {d : TyD} {v : V} (hn : cs.length = n) (ht : E.ty t = some d) (hd : d.size = n) (hv : v.cells.length = n) (hc : v.cells.all V.isCell = true) :
    yex E t (.ptr h.length 0 n) v (Sb.push h (.cells T cs)) = some (Sb.push h (.cells T v.cells)) := by
  simp only [yex, ymw h T cs n hn, Option.bind_some, ht]
  rw [if_pos ⟨by omega, hc, by omega⟩]
  congr 1
  have : splice cs 0 v.cells = v.cells := by simp [splice]; omega
  rw [this]
  simp [Sb.push]
theorem ywh {E : Env} {h : Heap} {e k : Nat} {t T : TypeId} {dt d : TyD} {s x : V} {cs : List V} (ht : E.ty t = some dt) (hu : dt.u = .slice T) (hT : E.ty T = some d) (hd : d.size = e) (he : 0 < e) (hs : s = .nils ∨ s = .emp)
    (hx : Sb.contents h e x = some (k, cs)) : (k = 0 → ycz E t s x h = some (s, h)) ∧ (k ≠ 0 → roomy d.bytes k = true → ycz E t s x h = some (.sl h.length 0 e k k (k * e), Sb.push h (.cells T cs))) := by
  have hne : ¬ d.size = 0 := by omega
  have key : ycz E t s x h = if k = 0 then some (s, h) else if roomy d.bytes k then some (.sl h.length 0 e k k (k * e), Sb.push h (.cells T cs)) else none := by
    unfold ycz
    simp only [ht, Option.bind_some, hu, hT]
    rw [if_neg hne, hd, hx]
    rcases hs with rfl | rfl <;> rfl
  exact ⟨fun h => by rw [key, if_pos h], fun h hr => by rw [key, if_neg h, if_pos hr]⟩
theorem Has.sharedE {E : Env} {f : FuncId} {args : List V} {h : Heap} {d : FnD} {R : V → Heap → Prop} (h3 : E.fn f = some d) (h4 : fnK E d args h R) : ∃ v g, Has E .shared f args h (.val v g) ∧ R v g := by
  obtain ⟨v', g', hR, N, h7⟩ := yka h4
  refine ⟨v', g', ⟨N + 1, fun n hn => ?_⟩, hR⟩
  obtain ⟨n, rfl⟩ : ∃ n', n = n' + 1 := ⟨n - 1, by omega⟩
  simp only [callN, evAny, h3, Option.bind_some, h7 n (by omega)]
theorem ykc {h : Heap} {b n : Nat} {T : TypeId} {cs : List V} (hb : h[b]? = some (.cells T cs)) (hn : cs.length = n) : yaz h b n = some (T, cs) := by
  simp [yaz, hb, hn]
theorem yae {E : Env} {t T : TypeId} {h : Heap} {b o n : Nat} {cs : List V} (hb : h[b]? = some (.cells T cs)) (hn : cs.length = n) : yde E t (.ptr b o n) h = rd E t (cs.drop o) := by
  simp only [yde, ykc hb hn, Option.bind_some]
theorem ybw {E : Env} {t T : TypeId} {h : Heap} {b o n : Nat} {cs : List V} {d : TyD} {v : V} (hb : h[b]? = some (.cells T cs)) (hn : cs.length = n) (ht : E.ty t = some d) (hv : v.cells.length = d.size) (hc : v.cells.all V.isCell = true) (ho : o + d.size ≤ n) :
    yex E t (.ptr b o n) v h = some (h.set b (.cells T (splice cs o v.cells))) := by
  simp only [yex, ykc hb hn, Option.bind_some, ht]
  rw [if_pos ⟨hv, hc, by omega⟩]
theorem ybs {h : Heap} {b : Nat} {k0 k : Blk} (hb : h[b]? = some k0) : (h.set b k)[b]? = some k := by
  have := (List.getElem?_eq_some_iff.1 hb).1
  simp [this]
theorem yau {h : Heap} {b i : Nat} {k : Blk} (hi : i ≠ b) : (h.set b k)[i]? = h[i]? := by
  rw [List.getElem?_set_ne (by omega)]
theorem yam {h : Heap} {k0 k : Blk} {i : Nat} (hi : h[i]? = some k0) : (Sb.push h k)[i]? = some k0 := by
  rw [ydb, if_neg (by have := (List.getElem?_eq_some_iff.1 hi).1; omega)]; exact hi
theorem yqt {E : Env} {h : Heap} {e k : Nat} {t T : TypeId} {dt d : TyD} {v x : V} {es es' : List V} (ht : E.ty t = some dt) (hu : dt.u = .slice T) (hT : E.ty T = some d) (hd : d.size = e) (he : 0 < e) (hr : InRow h T e v es) (hl : (es.flatMap V.cells).length = es.length * e)
    (hx : Sb.contents h e x = some (k, es'.flatMap V.cells)) (hk : k = es'.length) (hroom : roomy d.bytes (es.length + k) = true) : ∃ v' h', ycz E t v x h = some (v', h') ∧ InRow h' T e v' (es ++ es') ∧ h.length ≤ h'.length ∧ ∀ (i : Nat) (U : TypeId) (cs : List V), h[i]? = some (Blk.cells U cs) → U ≠ T → h'[i]? = some (Blk.cells U cs) := by
  have hne : ¬ d.size = 0 := by omega
  rcases hr with ⟨rfl, rfl⟩ | ⟨b, rfl, hb, h0⟩
  · obtain ⟨a1, a2⟩ := ywh (s := .nils) ht hu hT hd he (.inl rfl) hx
    by_cases hk0 : k = 0
    · refine ⟨.nils, h, a1 hk0, .inl ⟨rfl, ?_⟩, Nat.le_refl _, fun i U cs hi _ => hi⟩
      simp; exact List.length_eq_zero_iff.1 (by omega)
    · refine ⟨_, _, a2 hk0 (by simpa using hroom), .inr ⟨h.length, by simp [hk], by simp [Sb.push], ?_⟩, by simp [Sb.push], fun i U cs hi _ => yam hi⟩
      intro hh; simp at hh; subst hh; simp at hk; omega
  · have hca : yaz h b (es.length * e) = some (T, es.flatMap V.cells) := ykc hb hl
    have hblt := (List.getElem?_eq_some_iff.1 hb).1
    have hpos : 0 < es.length := by cases es with | nil => exact absurd rfl h0 | cons a l => simp
    by_cases hk0 : k = 0
    · have hes' : es' = [] := List.length_eq_zero_iff.1 (by omega)
      subst hes'
      refine ⟨.sl b 0 e es.length es.length (es.length * e), h.set b (.cells T (es.flatMap V.cells)), ?_, .inr ⟨b, by simp, by simp [hblt], by simpa using h0⟩, by simp, fun i U cs hi hU => ?_⟩
      · unfold ycz
        simp only [ht, Option.bind_some, hu, hT]
        rw [if_neg hne, hd, hx]
        simp only [Option.bind_some]
        rw [if_neg (by simp), hca]
        simp only [Option.bind_some]
        rw [if_neg (by simp), if_pos (by omega), hk0]
        simp [splice, hl]
      · by_cases e : i = b
        · subst e; rw [hb] at hi; simp at hi; exact absurd hi.1.symm hU
        · rw [yau e]; exact hi
    · refine ⟨.sl b 0 e (es.length + k) (es.length + k) ((es.length + k) * e), h.set b (.cells T (es.flatMap V.cells ++ es'.flatMap V.cells)), ?_, .inr ⟨b, by simp [hk], by simp [hblt], by simp [h0]⟩, by simp, fun i U cs hi hU => ?_⟩
      · unfold ycz
        simp only [ht, Option.bind_some, hu, hT]
        rw [if_neg hne, hd, hx]
        simp only [Option.bind_some]
        rw [if_neg (by simp), hca]
        simp only [Option.bind_some]
        rw [if_neg (by simp), if_neg (by omega), if_pos hroom]
        rw [List.take_of_length_le (by rw [hl]; exact Nat.le_refl _)]
        simp
      · by_cases e : i = b
        · subst e; rw [hb] at hi; simp at hi; exact absurd hi.1.symm hU
        · rw [yau e]; exact hi
theorem InRow.keep {h h' : Heap} {T : TypeId} {e : Nat} {v : V} {es : List V} (hr : InRow h T e v es) (hk : ∀ (i : Nat) (cs : List V), h[i]? = some (.cells T cs) → h'[i]? = some (.cells T cs)) : InRow h' T e v es := by
  rcases hr with h | ⟨b, h1, h2, h3⟩
  · exact .inl h
  · exact .inr ⟨b, h1, hk _ _ h2, h3⟩
theorem yds (l : List UInt8) : (bv l).flatMap V.cells = bv l := by
  induction l with
  | nil => rfl
  | cons b l ih => simp only [bv, List.map_cons, List.flatMap_cons] at ih ⊢; rw [ih]; rfl
theorem yqu (l : List UInt8) : yct (bv l) = some l := by
  induction l with
  | nil => rfl
  | cons b l ih => simp only [bv, List.map_cons] at ih ⊢; simp [yct, ih]
end Go.Sb

/- Rows of bytes: a byte appended; a row turned into a text. -/

namespace Go.Sb
theorem ycq (l : List UInt8) : (bv l).length = l.length := by simp [bv]
theorem InRow.contents1 {h : Heap} {T : TypeId} {v : V} {bs : List UInt8} (hr : InRow h T 1 v (bv bs)) : contents h 1 v = some (bs.length, bv bs) ∧ yix v = true := by
 rcases hr with ⟨rfl, he⟩ | ⟨b, rfl, hb, _⟩
 ·have : bs = [] := by simpa [bv] using he
  subst this; exact ⟨rfl, rfl⟩
 ·rw [yds] at hb
  refine ⟨?_, rfl⟩
  simp only [contents, if_true]
  rw [ykc hb (by simp)]
  simp only [Option.bind_some]
  rw [if_pos (by simp)]
  simp [ycq, List.take_of_length_le]
theorem ykf {E : Env} {h : Heap} {t T st : TypeId} {dt d ds : TyD} {v : V} {bs : List UInt8} {K : V → Heap → Prop} (ht : E.ty t = some dt) (hu : dt.u = .slice T) (hs : E.ty st = some ds) (hsu : ds.u = .str) (hT : E.ty T = some d) (hd : d.size = 1) (hk : d.u = .int .u8) (hr : InRow h T 1 v (bv bs))
  (k : K (.str bs) h) : bindP (ydn E t st v h) K := by
 obtain ⟨h1, h2⟩ := hr.contents1
 refine yep (v := .str bs) (h := h) ?_ k
 unfold ydn
 simp only [ht, hs, hT, Option.bind_some, hu, hsu, hk]
 rw [if_pos ⟨h2, hd⟩, h1]
 simp [yqu]
end Go.Sb
