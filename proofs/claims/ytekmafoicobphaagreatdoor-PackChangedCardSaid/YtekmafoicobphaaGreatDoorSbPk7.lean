/- Seat 13: the reader of a number. -/
import Derived.Test.YtekmafoicobphaaGreatDoorSb13Next
import Derived.Test.YtekmafoicobphaaGreatDoorSbPk2
import Derived.Test.YtekmafoicobphaaGreatDoorSbPk4
set_option linter.unusedVariables false
set_option linter.unusedSimpArgs false
namespace Go.Proofs.YtekmafoicobphaaGreatDoor
open Go.Sb
set_option maxRecDepth 100000
def rdN : List UInt8 → Nat → Nat → Option (Nat × Nat)
  | [], _, _ => none
  | c :: r, out, place =>
    if c.toNat % 128 = 0 ∨ (place ≤ 2 ^ 60 ∧ c.toNat % 128 ≤ (2 ^ 60 - out) / place) then
      (if c.toNat < 128 then (if 0 < c.toNat ∨ place = 1 then some (out + c.toNat % 128 * place, 1) else none)
       else if place ≤ 2 ^ 53 then (rdN r (out + c.toNat % 128 * place) (place * 128)).map (fun p => (p.1, p.2 + 1)) else none)
    else none
def rdR (h : Heap) (b : Nat) (u : List UInt8) (i : Nat) (r : OpR) : Prop := match rdN (u.drop i) 0 1 with
  | some p => r = .val (.int .i64 p.1) (h.set b (rdr u (i + p.2 : Nat)))
  | none => ∃ k : Nat, r = .pan yby (h.set b (rdr u k))
theorem pow128 : ∀ {j : Nat}, j < 9 → 128 ^ j ≤ 2 ^ 56 ∧ 1 ≤ 128 ^ j ∧ (128 ^ j ≤ 2 ^ 53 → j < 8)
  | 0, _ => by decide
  | 1, _ => by decide
  | 2, _ => by decide
  | 3, _ => by decide
  | 4, _ => by decide
  | 5, _ => by decide
  | 6, _ => by decide
  | 7, _ => by decide
  | 8, _ => by decide
  | j + 9, h => by omega
theorem set_set {h : Heap} {b : Nat} {x y : Blk} : (h.set b x).set b y = h.set b y := by
  rw [List.set_set]
def rnI (h0 : Heap) (b : Nat) (u : List UInt8) (i : Nat) (k : Nat) (s : List V) (h : Heap) : Prop :=
  ∃ (j out pl : Nat) (y z : Int), (j + k = 9 ∧ j < 9 ∧ y = out ∧ z = pl ∧ pl = 128 ^ j ∧ out ≤ 2 ^ 60 ∧ i + j ≤ u.length ∧ h = h0.set b (rdr u (i + j : Nat)) ∧ rdN (u.drop i) 0 1 = (rdN (u.drop (i + j)) out pl).map (fun p => (p.1, p.2 + j))) ∧ s.length = 50 ∧ s.getD 0 und = und ∧ s.getD 1 und = .ptr b 0 2 ∧ s.getD 3 und = .int .i64 0 ∧ s.getD 4 und = .int .i64 y ∧ s.getD 5 und = .int .i64 z
theorem rnI_lit {h0 : Heap} {b : Nat} {u : List UInt8} {i : Nat} {k : Nat} {s : List V} {h : Heap} (hI : rnI h0 b u i k s h) : ∃ (j out pl : Nat) (y z : Int) (x : Nat → V), (j + k = 9 ∧ j < 9 ∧ y = out ∧ z = pl ∧ pl = 128 ^ j ∧ out ≤ 2 ^ 60 ∧ i + j ≤ u.length ∧ h = h0.set b (rdr u (i + j : Nat)) ∧ rdN (u.drop i) 0 1 = (rdN (u.drop (i + j)) out pl).map (fun p => (p.1, p.2 + j))) ∧
    s = [und, .ptr b 0 2, x 2, .int .i64 0, .int .i64 y, .int .i64 z, x 6, x 7, x 8, x 9, x 10, x 11, x 12, x 13, x 14, x 15, x 16, x 17, x 18, x 19, x 20, x 21, x 22, x 23, x 24, x 25, x 26, x 27, x 28, x 29, x 30, x 31, x 32, x 33, x 34, x 35, x 36, x 37, x 38, x 39, x 40, x 41, x 42, x 43, x 44, x 45, x 46, x 47, x 48, x 49] := by
  obtain ⟨j, out, pl, y, z, hF, hl, e0, e1, e3, e4, e5⟩ := hI
  refine ⟨j, out, pl, y, z, fun n => s.getD n und, hF, (ybd hl).trans ?_⟩
  simp only [List.range, List.range.loop, List.map_cons, List.map_nil]
  rw [e0, e1, e3, e4, e5]
def rnM (g : Heap) (b out pl m : Nat) (k : Nat) (s : List V) (h : Heap) : Prop :=
  ∃ (y z w : Int), (y = out ∧ z = pl ∧ w = m ∧ h = g) ∧ s.length = 50 ∧ s.getD 0 und = und ∧ s.getD 1 und = .ptr b 0 2 ∧ s.getD 3 und = .int .i64 0 ∧ s.getD 4 und = .int .i64 y ∧ s.getD 5 und = .int .i64 z ∧ s.getD 6 und = .int .i64 w
theorem yrh {g : Heap} {b out pl m : Nat} {k : Nat} {s : List V} {h : Heap} (hI : rnM g b out pl m k s h) : ∃ (y z w : Int) (x : Nat → V), (y = out ∧ z = pl ∧ w = m ∧ h = g) ∧
    s = [und, .ptr b 0 2, x 2, .int .i64 0, .int .i64 y, .int .i64 z, .int .i64 w, x 7, x 8, x 9, x 10, x 11, x 12, x 13, x 14, x 15, x 16, x 17, x 18, x 19, x 20, x 21, x 22, x 23, x 24, x 25, x 26, x 27, x 28, x 29, x 30, x 31, x 32, x 33, x 34, x 35, x 36, x 37, x 38, x 39, x 40, x 41, x 42, x 43, x 44, x 45, x 46, x 47, x 48, x 49] := by
  obtain ⟨y, z, w, hF, hl, e0, e1, e3, e4, e5, e6⟩ := hI
  refine ⟨y, z, w, fun n => s.getD n und, hF, (ybd hl).trans ?_⟩
  simp only [List.range, List.range.loop, List.map_cons, List.map_nil]
  rw [e0, e1, e3, e4, e5, e6]
set_option maxHeartbeats 4000000 in
theorem number13 {h : Heap} {b : Nat} {u : List UInt8} {i : Nat} (hb : h[b]? = some (rdr u i)) (hi : i ≤ u.length) (hs : u.length ≤ 2 ^ 40) : ∃ r, Has envQ .shared 40 [.ptr b 0 2] h r ∧ rdR h b u i r := by
  refine HasP.sharedX (d := fn40) rfl (jT rfl) ?_
  apply jA
  apply jB
  apply jA
  apply jB
  apply jF
  have hset : h.set b (rdr u ((i + 0 : Nat) : Int)) = h := by
    rw [Nat.add_zero]
    have hlt := (List.getElem?_eq_some_iff.1 hb).1
    apply List.ext_getElem?
    intro n
    by_cases e : b = n
    · subst e; rw [hb, List.getElem?_set_self hlt]
    · rw [List.getElem?_set_ne e]
  refine RunP.loop (rnI h b u i) ?_ 9 ⟨0, 0, 1, _, _, ⟨rfl, by decide, rfl, rfl, rfl, by decide, hi, hset.symm, by simp⟩, rfl, rfl, rfl, rfl, rfl, rfl⟩
  intro k st g hI
  obtain ⟨j, out, pl, y, z, x, ⟨hjk, hj9, hy, hz, hpl, hout, hij, hg, hrd⟩, rfl⟩ := rnI_lit hI
  clear hI
  subst hy hz hg
  obtain ⟨hp1, hp2, hp3⟩ : pl ≤ 2 ^ 56 ∧ 1 ≤ pl ∧ (pl ≤ 2 ^ 53 → j < 8) := by
    rw [hpl]; exact pow128 hj9
  have hbj : (h.set b (rdr u (i + j : Nat)))[b]? = some (rdr u (i + j : Nat)) := ybs hb
  have hval : ∀ (p : Nat × Nat), rdN (u.drop i) 0 1 = some p → rdR h b u i (.val (.int .i64 p.1) (h.set b (rdr u (i + p.2 : Nat)))) := fun p hp => by
    unfold rdR; rw [hp]
  have hnone : ∀ (m : Nat), rdN (u.drop i) 0 1 = none → rdR h b u i (.pan yby (h.set b (rdr u m))) := fun m hp => by
    unfold rdR; rw [hp]; exact ⟨m, rfl⟩
  apply jF
  apply jA
  by_cases hend : u.length ≤ i + j
  · refine RunP.regionP 1 (CallP.of (yrg hbj hend) ?_)
    refine ⟨rfl, hnone _ ?_⟩
    rw [hrd, List.drop_eq_nil_of_le hend]; rfl
  obtain ⟨c, hc⟩ : ∃ c, u[i + j]? = some c := ⟨_, List.getElem?_eq_getElem (by omega)⟩
  have hcl : c.toNat < 256 := c.toNat_lt
  have hdrop : u.drop (i + j) = c :: u.drop (i + j + 1) := by
    obtain ⟨h1, h2⟩ := List.getElem?_eq_some_iff.1 hc
    rw [List.drop_eq_getElem_cons h1, h2]
  rw [hdrop] at hrd
  apply jB
  refine CallK.of (yrf hbj hc (by omega)) ?_
  rw [set_set]
  generalize hcn : c.toNat = m at *
  have et : ((m : Int).tmod 128) = ((m % 128 : Nat) : Int) := by rw [Int.tmod_eq_emod_of_nonneg (by omega)]; omega
  have eq1 : IntKind.i64.wrap ((IntKind.i64.wrap (1152921504606846976 - (out : Int))).tdiv (pl : Int)) = (((2 ^ 60 - out) / pl : Nat) : Int) := by
    rw [wrapS (x := 1152921504606846976 - (out : Int)) (by omega) (by omega), Int.tdiv_eq_ediv_of_nonneg (by omega)]
    rw [show (1152921504606846976 : Int) - (out : Int) = ((2 ^ 60 - out : Nat) : Int) from by omega, ← Int.natCast_ediv]
    have hq := Nat.div_le_self (2 ^ 60 - out) pl
    generalize (2 ^ 60 - out) / pl = q at hq ⊢
    rw [wrapS (by omega) (by omega)]
  by_cases hC : m % 128 = 0 ∨ (pl ≤ 2 ^ 60 ∧ m % 128 ≤ (2 ^ 60 - out) / pl)
  case neg =>
    apply jA
    refine RunP.regionP 17 ?_
    refine jI rfl (jI (by decide) ?_)
    refine jI (fun h0 => ?_) (fun h0 => ?_)
    · rw [et] at h0; exact absurd (.inl (by omega)) hC
    refine jI (fun _ => ?_) (fun h1 => by omega)
    refine jI rfl (jI (by decide) ?_)
    refine jI rfl (jI (by omega) ?_)
    refine jI (fun h1 => ?_) (fun h1 => ?_)
    · rw [et, eq1] at h1; exact absurd (.inr ⟨by omega, by omega⟩) hC
    refine CallP.of (ydw _ _) ⟨rfl, hnone _ ?_⟩
    rw [hrd]; simp only [rdN, hcn]; rw [if_neg hC]; rfl
  have hmul : out + m % 128 * pl ≤ 2 ^ 60 := by
    rcases hC with h0 | ⟨_, h1⟩
    · rw [h0, Nat.zero_mul]; omega
    · have := (Nat.le_div_iff_mul_le (by omega)).1 h1
      omega
  have hd0 : rdN (c :: u.drop (i + j + 1)) out pl = if m < 128 then (if 0 < m ∨ pl = 1 then some (out + m % 128 * pl, 1) else none) else if pl ≤ 2 ^ 53 then (rdN (u.drop (i + j + 1)) (out + m % 128 * pl) (pl * 128)).map (fun p => (p.1, p.2 + 1)) else none := by
    simp only [rdN, hcn]; rw [if_pos hC]
  refine RunP.mid (M := rnM (h.set b (rdr u (i + j + 1 : Nat))) b out pl m 0) ?_ ?_
  · apply jB
    refine jI rfl (jI (by decide) ?_)
    refine jI (fun h0 => ?_) (fun h0 => ?_)
    · refine CallK.of (ydi _ _) ⟨rfl, _, _, _, ⟨rfl, rfl, rfl, rfl⟩, rfl, rfl, rfl, rfl, rfl, rfl, rfl⟩
    rw [et] at h0
    have hC2 := hC.resolve_left (by omega)
    refine jI (fun _ => ?_) (fun h1 => by omega)
    refine jI rfl (jI (by decide) ?_)
    refine jI rfl (jI (by omega) ?_)
    refine jI (fun h1 => ?_) (fun h1 => ?_)
    · refine CallK.of (ydi _ _) ⟨rfl, _, _, _, ⟨rfl, rfl, rfl, rfl⟩, rfl, rfl, rfl, rfl, rfl, rfl, rfl⟩
    · rw [et, eq1] at h1; omega
  intro st2 g2 hM
  obtain ⟨y, z, w, x2, ⟨hy, hz, hw, hg⟩, rfl⟩ := yrh hM
  clear hM
  subst hy hz hw hg
  have hbj2 : (h.set b (rdr u (i + j + 1 : Nat)))[b]? = some (rdr u (i + j + 1 : Nat)) := ybs hb
  have em : IntKind.i64.wrap ((m : Int).tmod 128 * (pl : Int)) = ((m % 128 * pl : Nat) : Int) := by
    rw [et, ← Int.natCast_mul, wrapS (by omega) (by omega)]
  apply jA
  apply jB
  have ea : IntKind.i64.wrap ((out : Int) + IntKind.i64.wrap ((m : Int).tmod 128 * (pl : Int))) = ((out + m % 128 * pl : Nat) : Int) := by
    rw [em, wrapS (by omega) (by omega)]; omega
  refine jI rfl (jI (by decide) ?_)
  apply jA
  apply jA
  apply jB
  refine jI (fun hlo => ?_) (fun hhi => ?_)
  · have hlo' : m < 128 := by omega
    apply jC rfl
    by_cases hfin : 0 < m ∨ pl = 1
    · refine RunP.mid (M := rnM (h.set b (rdr u (i + j + 1 : Nat))) b (out + m % 128 * pl) pl m 0) ?_ ?_
      · apply jB
        refine jI (fun h0 => ?_) (fun h0 => ?_)
        · refine CallK.of (ydi _ _) ⟨rfl, _, _, _, ⟨ea, rfl, rfl, rfl⟩, rfl, rfl, rfl, rfl, rfl, rfl, rfl⟩
        refine jI (fun h1 => ?_) (fun h1 => by omega)
        refine CallK.of (ydi _ _) ⟨rfl, _, _, _, ⟨ea, rfl, rfl, rfl⟩, rfl, rfl, rfl, rfl, rfl, rfl, rfl⟩
      intro st3 g3 hM
      obtain ⟨y, z, w, x3, ⟨hy, hz, hw, hg⟩, rfl⟩ := yrh hM
      clear hM
      subst hy hz hw hg
      apply jA
      apply jB
      apply jH
      refine ⟨rfl, ?_⟩
      have := hval (out + m % 128 * pl, 1 + j) (by rw [hrd, hd0, if_pos hlo', if_pos hfin]; rfl)
      rw [show i + (1 + j) = i + j + 1 from by omega] at this
      exact this
    · apply jA
      refine RunP.regionP 7 ?_
      refine jI (fun h0 => by omega) (fun h0 => ?_)
      refine jI (fun h0 => by omega) (fun h0 => ?_)
      refine CallP.of (ydw _ _) ⟨rfl, hnone _ ?_⟩
      rw [hrd, hd0, if_pos hlo', if_neg hfin]; rfl
  · have hhi' : ¬ m < 128 := by omega
    apply jD rfl
    apply jE
    apply jA
    by_cases hpl3 : pl ≤ 2 ^ 53
    · apply jB
      refine jI (fun _ => ?_) (fun h0 => by omega)
      refine CallK.of (ydi _ _) ?_
      apply jB
      have hj8 := hp3 hpl3
      refine ⟨k - 1, by omega, j + 1, out + m % 128 * pl, pl * 128, _, _, ⟨by omega, by omega, ea, ?_, by rw [hpl, Nat.pow_succ], hmul, by omega, rfl, ?_⟩, rfl, rfl, rfl, rfl, rfl, rfl⟩
      · rw [wrapS (by omega) (by omega)]; omega
      · rw [hrd, hd0, if_neg hhi', if_pos hpl3, Option.map_map]
        rw [show i + (j + 1) = i + j + 1 from by omega]
        congr 1
        funext p
        simp only [Function.comp]
        rw [show p.2 + 1 + j = p.2 + (j + 1) from by omega]
    · refine RunP.regionP 3 ?_
      refine jI (fun h0 => by omega) (fun h0 => ?_)
      refine CallP.of (ydw _ _) ⟨rfl, hnone _ ?_⟩
      rw [hrd, hd0, if_neg hhi', if_neg hpl3]; rfl
end Go.Proofs.YtekmafoicobphaaGreatDoor

/- Seat 13: guarded, ReadNumber. -/

namespace Go.Proofs.YtekmafoicobphaaGreatDoor
open Go.Sb
set_option maxRecDepth 100000
noncomputable def g11 : GuardD := match gd11 with
 | some g => g
 | none => ⟨fn38, [], 0, default, default, 0, .skip, 0, fn60, 0, default, .skip⟩
theorem gd_eq : envQ.gd 38 = some g11 := by kernel_rfl
end Go.Proofs.YtekmafoicobphaaGreatDoor

/- Seat 13: the reference's bytes of a number, its Sum, its ReadNumber. -/

namespace Go.Proofs.YtekmafoicobphaaGreatDoor
open Go.Sb
set_option maxRecDepth 100000
end Go.Proofs.YtekmafoicobphaaGreatDoor

/- Packed codes: the reference's writers. -/

namespace Go.Proofs.YtekmafoicobphaaGreatDoor
open Go.Sb
set_option maxRecDepth 100000
end Go.Proofs.YtekmafoicobphaaGreatDoor

/- Packed codes: the reference's Pack. -/

namespace Go.Proofs.YtekmafoicobphaaGreatDoor
open Go.Sb
set_option maxRecDepth 100000
end Go.Proofs.YtekmafoicobphaaGreatDoor
