/- Seat 13: codes that were read, laid open. -/
import Derived.Test.YtekmafoicobphaaGreatDoorSb13RdF
import Derived.Test.YtekmafoicobphaaGreatDoorSb13RdW
set_option linter.unusedVariables false
set_option linter.unusedSimpArgs false
namespace Go.Proofs.YtekmafoicobphaaGreatDoor
open Go.Sb
set_option maxRecDepth 100000
def KeepG (n : Nat) (g g' : Heap) : Prop := ∀ (i : Nat) (k : Blk), n ≤ i → g[i]? = some k → g'[i]? = some k
theorem KeepG.refl (n : Nat) (g : Heap) : KeepG n g g := fun _ _ _ h => h
theorem KeepG.trans {n : Nat} {a b c : Heap} (h1 : KeepG n a b) (h2 : KeepG n b c) : KeepG n a c := fun i k hi h => h2 i k hi (h1 i k hi h)
theorem KeepG.set {n i : Nat} (hi : i < n) (g : Heap) (x : Blk) : KeepG n g (g.set i x) := fun j k hj h => by rw [yau (by omega)]; exact h
theorem KeepG.push (n : Nat) (g : Heap) (x : Blk) : KeepG n g (Sb.push g x) := fun j k hj h => yam h
theorem InRowB.keepG {g g' : Heap} {T : TypeId} {e n : Nat} {v : V} {es : List V} (hr : InRowB g T e n v es) (hk : KeepG n g g') : InRowB g' T e n v es := by
 rcases hr with h0 | ⟨i, hi, h1, h2, h3⟩
 ·exact .inl h0
 ·exact .inr ⟨i, hi, h1, hk i _ hi h2, h3⟩
theorem insM.keepG {g g' : Heap} {n : Nat} {v : V} {x : Ins} (h : insM g n v x) (hk : KeepG n g g') : insM g' n v x := by
 obtain ⟨w, l, h1, h2, hr⟩ := h
 exact ⟨w, l, h1, h2, hr.keepG hk⟩
theorem fncM.keepG {g g' : Heap} {n : Nat} {v : V} {x : Fnc} (h : fncM g n v x) (hk : KeepG n g g') : fncM g' n v x := by
 obtain ⟨w1, l1, es1, w2, l2, es2, h, ⟨a1, a2, a3⟩, b1, b2, b3⟩ := h
 exact ⟨w1, l1, es1, w2, l2, es2, h, ⟨a1, a2.keepG hk, a3.imp fun v x hv => insM.keepG hv hk⟩, b1, b2.keepG hk, b3⟩
def codM (g : Heap) (n : Nat) (v : V) (c : Cod) : Prop := ∃ l es, c = optOf l ∧ InRowB g 61 5 n v es ∧ El (fncM g n) es l
theorem codM.keepG {g g' : Heap} {n : Nat} {v : V} {c : Cod} (h : codM g n v c) (hk : KeepG n g g') : codM g' n v c := by
 obtain ⟨l, es, h1, h2, h3⟩ := h
 exact ⟨l, es, h1, h2.keepG hk, h3.imp fun v x hv => fncM.keepG hv hk⟩
theorem codM.one {g : Heap} {n : Nat} {v : V} {c : Cod} (h : codM g n v c) : v.cells = [v] ∧ v.isCell = true := by
 obtain ⟨l, es, h1, h2, h3⟩ := h
 exact h2.one
theorem codM.nil (g : Heap) (n : Nat) : codM g n .nils none := ⟨[], [], rfl, .inl ⟨rfl, rfl⟩, trivial⟩
theorem fz_intsB {g : Heap} {n k : Nat} {w : V} {l : List Int} (hr : InRowB g 3 1 n w (l.map intV)) : Sb.fz envQ g (k + 2) w = some (optL 1 intV (optOf l)) := by
 rcases hr with ⟨rfl, h2⟩ | ⟨b, _, rfl, hb, h0⟩
 ·have := List.map_eq_nil_iff.1 h2
  subst this; rfl
 ·have hcl : ((l.map intV).flatMap V.cells) = l.map intV := by
   clear hb h0
   induction l with
   | nil => rfl
   | cons a l ih => rw [List.map_cons, List.flatMap_cons, ih]; rfl
  rw [hcl] at hb
  have hca : yaz g b ((l.map intV).length * 1) = some (3, l.map intV) := by simp [yaz, hb]
  rw [fz_sl]
  simp only [hca, Option.bind_some, show envQ.ty 3 = some ty3 from rfl]
  rw [if_pos ⟨rfl, by omega, by omega, Nat.le_refl _⟩, if_neg (by decide), if_pos trivial, List.drop_zero, List.take_length, ygy]
  ·cases l with
   | nil => exact absurd rfl h0
   | cons a l => rfl
  ·intro c hc
   obtain ⟨z, _, rfl⟩ := List.mem_map.1 hc
   rfl
theorem yst {e : Nat} : ∀ {es : List V} {i : Nat} {v : V}, (∀ v ∈ es, v.cells.length = e) → es[i]? = some v → ((es.flatMap V.cells).drop (i * e)).take e = v.cells
 | [], _, _, _, h => by simp at h
 | u :: es, 0, v, h, hi => by
  simp at hi; subst hi
  rw [List.flatMap_cons, Nat.zero_mul, List.drop_zero, List.take_append_of_le_length (by rw [h u (by simp)]; exact Nat.le_refl _)]
  rw [List.take_of_length_le]
  rw [h u (by simp)]; exact Nat.le_refl _
 | u :: es, i + 1, v, h, hi => by
  have hu := h u (by simp)
  rw [List.flatMap_cons, Nat.add_mul, Nat.one_mul, List.drop_append, hu]
  rw [List.drop_of_length_le (by rw [hu]; omega), List.nil_append, Nat.add_sub_cancel]
  exact yst (fun x hx => h x (by simp [hx])) (by simpa using hi)
theorem El.at {α : Type} {p : V → α → Prop} : ∀ {vs : List V} {xs : List α}, El p vs xs → ∀ (i : Nat) (x : α), xs[i]? = some x → ∃ v, vs[i]? = some v ∧ p v x
 | [], [], _, i, x, h => by simp at h
 | v :: vs, y :: xs, hp, 0, x, h => by simp at h; subst h; exact ⟨v, rfl, hp.1⟩
 | v :: vs, y :: xs, hp, i + 1, x, h => by
  obtain ⟨w, h1, h2⟩ := hp.2.at i x (by simpa using h)
  exact ⟨w, by simpa using h1, h2⟩
 | [], _ :: _, hp, _, _, _ => hp.elim
 | _ :: _, [], hp, _, _, _ => hp.elim
theorem fz_elB {α : Type} {E : Env} {g : Heap} {T : TypeId} {d : TyD} {e n k : Nat} {w : V} {es : List V} {l : List α} {p : V → α → Prop} {f : α → V} (hT : E.ty T = some d) (hd : d.size = e) (ha : d.agg = true) (he : 0 < e)
  (hp : ∀ v x, p v x → v.cells.length = e ∧ ((v.cells).mapM (Sb.fz E g k)).map V.agg = some (f x)) (hr : InRowB g T e n w es) (hel : El p es l) : Sb.fz E g (k + 1) w = some (optL e f (optOf l)) := by
 have hlen := hel.len
 rcases hr with ⟨rfl, rfl⟩ | ⟨b, _, rfl, hb, h0⟩
 ·cases l with
  | nil => rfl
  | cons a l => cases hlen
 ·have hce : ∀ v ∈ es, v.cells.length = e := hel.all (fun v x h => (hp v x h).1)
  have hl := ykx hce
  have hca : yaz g b (es.length * e) = some (T, es.flatMap V.cells) := by simp [yaz, hb, hl]
  rw [fz_sl]
  simp only [hca, Option.bind_some, hT]
  rw [if_pos ⟨hd, he, by rw [hl]; omega, Nat.le_refl _⟩, if_pos ha, hlen, show l.length = (l.map f).length from (List.length_map f).symm, yqs (l.map f)]
  ·cases l with
   | nil => simp at hlen; exact absurd hlen h0
   | cons a l => rfl
  ·intro i v hi
   rw [List.getElem?_map] at hi
   obtain ⟨x, hx, rfl⟩ := Option.map_eq_some_iff.1 hi
   obtain ⟨v, h1, h2⟩ := hel.at i x hx
   rw [Nat.zero_add, yst hce h1]
   exact (hp v x h2).2
theorem fz_insM {g : Heap} {n k : Nat} {v : V} {x : Ins} (h : insM g n v x) : v.cells.length = 8 ∧ ((v.cells).mapM (Sb.fz envQ g (k + 2))).map V.agg = some (insV x) := by
 obtain ⟨w, l, rfl, hl, hr⟩ := h
 refine ⟨rfl, ?_⟩
 simp only [V.cells]
 rw [yaf (yco (n := k + 1) rfl) (yaf (yco (n := k + 1) rfl) (yaf (yco (n := k + 1) rfl) (yaf (yco (n := k + 1) rfl) (yaf (yco (n := k + 1) rfl) (yaf (yco (n := k + 1) rfl) (yaf (yco (n := k + 1) rfl) (yaf (fz_intsB hr) yan)))))))]
 rw [← hl]
 rfl
theorem fz_grdM {g : Heap} {n k : Nat} {v : V} {x : Grd} (h : grdM g n v x) : v.cells.length = 4 ∧ ((v.cells).mapM (Sb.fz envQ g (k + 1))).map V.agg = some (grdV x) := by
 cases h
 refine ⟨rfl, ?_⟩
 simp only [V.cells, grdV, Grd.cells]
 rw [yaf (yco (n := k) rfl) (yaf (yco (n := k) rfl) (yaf (yco (n := k) rfl) (yaf (yco (n := k) rfl) yan)))]
 rfl
theorem fz_fncM {g : Heap} {n k : Nat} {v : V} {x : Fnc} (h : fncM g n v x) : v.cells.length = 5 ∧ ((v.cells).mapM (Sb.fz envQ g (k + 3))).map V.agg = some (fncV x) := by
 obtain ⟨w1, l1, es1, w2, l2, es2, rfl, ⟨a1, a2, a3⟩, b1, b2, b3⟩ := h
 refine ⟨rfl, ?_⟩
 simp only [V.cells]
 have h1 : Sb.fz envQ g (k + 3) w1 = some (optL 8 insV x.cd) := by rw [a1]; exact fz_elB (E := envQ) (T := 68) rfl rfl rfl (by decide) (fun v x h => fz_insM h) a2 a3
 have h2 : Sb.fz envQ g (k + 3) w2 = some (optL 4 grdV x.gd) := by rw [b1]; exact fz_elB (E := envQ) (T := 70) rfl rfl rfl (by decide) (fun v x h => fz_grdM (k := k + 1) h) b2 b3
 rw [yaf (yco (n := k + 2) rfl) (yaf (yco (n := k + 2) rfl) (yaf (yco (n := k + 2) rfl) (yaf h1 (yaf h2 yan))))]
 rfl
theorem ysu {g : Heap} {n k : Nat} {v : V} {c : Cod} (h : codM g n v c) : Sb.fz envQ g (k + 4) v = some (optL 5 fncV c) := by
 obtain ⟨l, es, rfl, h2, h3⟩ := h
 exact fz_elB (E := envQ) (T := 61) rfl rfl rfl (by decide) (fun v x h => fz_fncM h) h2 h3
theorem ysv {g : Heap} {n : Nat} {v : V} {c : Cod} (h : codM g n v c) : Sb.fz envQ g ycb (.agg [v]) = some (codV c) := by
 show ([v].mapM (Sb.fz envQ g 11)).map V.agg = _
 rw [yaf (ysu (k := 7) h) yan]; rfl
end Go.Proofs.YtekmafoicobphaaGreatDoor
