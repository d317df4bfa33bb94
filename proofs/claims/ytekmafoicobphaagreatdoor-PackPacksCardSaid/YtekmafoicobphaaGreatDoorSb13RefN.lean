/- Seat 13: the reference's bytes of a number, its Sum, its ReadNumber. -/
import Derived.Test.YtekmafoicobphaaGreatDoorSb13ReadNum
set_option linter.unusedVariables false
set_option linter.unusedSimpArgs false
namespace Go.Proofs.YtekmafoicobphaaGreatDoor
open Go.Sb
set_option maxRecDepth 100000
theorem wrapU {x : Int} (h0 : 0 ≤ x) (h1 : x < 18446744073709551616) : IntKind.u64.wrap x = x := by
 simp [IntKind.wrap, IntKind.signed, IntKind.bits]; omega
def rnuI (h0 : Heap) (pre : List UInt8) (n : Nat) (k : Nat) (s : List V) (h : Heap) : Prop :=
 ∃ (o : V) (z : Int) (q : List UInt8), (z = k ∧ k < 2 ^ 63 ∧ InRow h 5 1 o (bv q) ∧ q ++ numB k = pre ++ numB n ∧ KeepB h0 h) ∧ s.length = 22 ∧ s.getD 0 und = und ∧ s.getD 1 und = o ∧ s.getD 2 und = .int .u64 z ∧ s.getD 5 und = .nils
theorem rnuI_lit {h0 : Heap} {pre : List UInt8} {n : Nat} {k : Nat} {s : List V} {h : Heap} (hI : rnuI h0 pre n k s h) : ∃ (o : V) (z : Int) (q : List UInt8) (x : Nat → V), (z = k ∧ k < 2 ^ 63 ∧ InRow h 5 1 o (bv q) ∧ q ++ numB k = pre ++ numB n ∧ KeepB h0 h) ∧
  s = [und, o, .int .u64 z, x 3, x 4, .nils, x 6, x 7, x 8, x 9, x 10, x 11, x 12, x 13, x 14, x 15, x 16, x 17, x 18, x 19, x 20, x 21] := by
 obtain ⟨o, z, q, hF, hl, e0, e1, e2, e5⟩ := hI
 refine ⟨o, z, q, fun n => s.getD n und, hF, (ybb hl).trans ?_⟩
 simp only [List.range, List.range.loop, List.map_cons, List.map_nil]
 rw [e0, e1, e2, e5]
set_option maxHeartbeats 2000000 in
theorem yxt {h : Heap} {o : V} {pre : List UInt8} (hr : InRow h 5 1 o (bv pre)) (n : Nat) (hn : n < 2 ^ 63) (hl : pre.length ≤ 2 ^ 39) :
  RunP envQ fn37.md fn37.body (initT 21 [o, .int .u64 n]) h (endK envQ fn37 fun w g => InRow g 5 1 w (bv (pre ++ numB n)) ∧ KeepB h g) := by
 apply jA
 apply jB
 apply jA
 apply jF
 refine RunP.loop (rnuI h pre n) ?_ n ⟨o, _, pre, ⟨rfl, hn, hr, rfl, KeepB.refl h⟩, rfl, rfl, rfl, rfl, rfl⟩
 intro k st g hI
 obtain ⟨o, z, q, x, ⟨hz, hk, hrow, hq, hkeep⟩, rfl⟩ := rnuI_lit hI
 clear hI
 subst hz
 have hql : q.length + (numB k).length = pre.length + (numB n).length := by
  have := congrArg List.length hq; simpa using this
 have hnl := yla 9 n (by omega)
 have hkp := yrs k
 apply jA
 apply jA
 apply jB
 apply jI
 ·intro hgt
  have hk7 : 127 < k := by omega
  refine jV ?_
  refine jI rfl (jI (by decide) ?_)
  have e1 : IntKind.u8.wrap (IntKind.u64.wrap (128 + (k : Int).tmod 128)) = ((UInt8.ofNat (128 + k % 128)).toNat : Int) := by
   rw [Int.tmod_eq_emod_of_nonneg (by omega), wrapU (by omega) (by omega), wrap8 _ (by omega) (by omega)]
   rw [show ((128 : Int) + (k : Int) % 128).toNat = 128 + k % 128 from by omega]
  obtain ⟨v', g', a1, a2, a3⟩ := yfw e1 hrow (by omega)
  refine ycs (congrArg valH a1) ?_
  apply jB
  refine jI rfl (jI (by decide) ?_)
  refine ⟨k / 128, by omega, v', _, q ++ [UInt8.ofNat (128 + k % 128)], ⟨?_, by omega, a2, ?_, hkeep.trans a3⟩, rfl, rfl, rfl, rfl, rfl⟩
  ·rw [Int.tdiv_eq_ediv_of_nonneg (by omega), wrapU (by omega) (by omega)]; omega
  ·rw [← hq, ykz hk7]; simp
 ·intro hle
  have hk7 : k ≤ 127 := by omega
  apply jD rfl
  apply jG
  apply jA
  apply jB
  have e1 : IntKind.u8.wrap (k : Int) = ((UInt8.ofNat k).toNat : Int) := by
   rw [wrap8 _ (by omega) (by omega)]; rfl
  obtain ⟨v', g', a1, a2, a3⟩ := yfw e1 hrow (by omega)
  refine ycs (congrArg valH a1) ?_
  apply jH
  refine ⟨rfl, ?_, hkeep.trans a3⟩
  rw [← hq, yip hk7]
  exact a2
def rsuI (u : List UInt8) (k : Nat) (s : List V) (h : Heap) : Prop :=
 ∃ (i : Nat) (z a b : Int), (i + k = u.length ∧ z = i ∧ a = (sumS (u.take i)).1 ∧ b = (sumS (u.take i)).2) ∧ s.length = 28 ∧ s.getD 0 und = und ∧ s.getD 1 und = .str u ∧ s.getD 3 und = .int .i64 0 ∧ s.getD 4 und = .int .i64 a ∧ s.getD 5 und = .int .i64 b ∧ s.getD 6 und = .int .i64 z
theorem rsuI_lit {u : List UInt8} {k : Nat} {s : List V} {h : Heap} (hI : rsuI u k s h) : ∃ (i : Nat) (z a b : Int) (x : Nat → V), (i + k = u.length ∧ z = i ∧ a = (sumS (u.take i)).1 ∧ b = (sumS (u.take i)).2) ∧
  s = [und, .str u, x 2, .int .i64 0, .int .i64 a, .int .i64 b, .int .i64 z, x 7, x 8, x 9, x 10, x 11, x 12, x 13, x 14, x 15, x 16, x 17, x 18, x 19, x 20, x 21, x 22, x 23, x 24, x 25, x 26, x 27] := by
 obtain ⟨i, z, a, b, hF, hl, e0, e1, e3, e4, e5, e6⟩ := hI
 refine ⟨i, z, a, b, fun n => s.getD n und, hF, (ybb hl).trans ?_⟩
 simp only [List.range, List.range.loop, List.map_cons, List.map_nil]
 rw [e0, e1, e3, e4, e5, e6]
set_option maxHeartbeats 2000000 in
theorem yxu (h : Heap) (s : List UInt8) (hl : s.length ≤ 2 ^ 38) : Has envQ .own 17 [.str s] h (.val (.int .i64 (sumB s)) h) := by
 refine HasP.own (a := [.str s]) (d := fn17) rfl rfl rfl (jT rfl) ?_
 refine jV ?_
 refine RunP.loop (rsuI s) ?_ s.length ⟨0, _, _, _, ⟨by omega, rfl, rfl, rfl⟩, rfl, rfl, rfl, rfl, rfl, rfl, rfl⟩
 intro k st g hI
 obtain ⟨i, z, a, b, x, ⟨hik, hz, ha, hb⟩, rfl⟩ := rsuI_lit hI
 clear hI
 subst hz
 have hr := ynk (s.take i)
 rw [← ha, ← hb] at hr
 have hiz : (0 : Int) ≤ (i : Int) := by omega
 refine jV ?_
 refine jI (fun hlt => ?_) (fun hge => ?_)
 ·have hi : i < s.length := by omega
  obtain ⟨c, hc⟩ : ∃ c, s[i]? = some c := ⟨_, List.getElem?_eq_getElem hi⟩
  have hcl : c.toNat < 256 := c.toNat_lt
  refine jV ?_
  refine jI hiz (Exists.intro c (jI hc ?_))
  have e1 : IntKind.i64.wrap (a + IntKind.i64.wrap (c.toNat : Int)) = a + c.toNat := by rw [wrapS (x := (c.toNat : Int)) (by omega) (by omega), wrapS (by omega) (by omega)]
  have e2 : (IntKind.i64.wrap (a + IntKind.i64.wrap (c.toNat : Int))).tmod 65521 = (a + c.toNat) % 65521 := by rw [e1, Int.tmod_eq_emod_of_nonneg (by omega)]
  have e3 : (IntKind.i64.wrap (b + (IntKind.i64.wrap (a + IntKind.i64.wrap (c.toNat : Int))).tmod 65521)).tmod 65521 = (b + (a + c.toNat) % 65521) % 65521 := by
   rw [e2, wrapS (by omega) (by omega), Int.tmod_eq_emod_of_nonneg (by omega)]
  refine jI rfl (jI (by decide) ?_)
  refine jV ?_
  refine jI rfl (jI (by decide) ?_)
  refine jV ?_
  have ht : sumS (s.take (i + 1)) = ((a + c.toNat) % 65521, (b + (a + c.toNat) % 65521) % 65521) := by
   rw [List.take_add_one, hc]
   simp only [Option.toList_some]
   rw [yrr, ← ha, ← hb]
  refine ⟨k - 1, by omega, i + 1, _, _, _, ⟨by omega, ycj i (by omega), by rw [ht]; exact e2, by rw [ht]; exact e3⟩, rfl, rfl, rfl, rfl, rfl, rfl, rfl⟩
 ·repeat first|apply jZ|apply jA|apply jB|apply jH
  have hi : i = s.length := by omega
  rw [hi, List.take_length] at ha hb
  refine ⟨rfl, ?_, rfl⟩
  have e5 : IntKind.i64.wrap (IntKind.i64.wrap (b * 65536) + a) = sumB s := by
   rw [wrapS (x := b * 65536) (by omega) (by omega), wrapS (by omega) (by omega), sumB, ha, hb]
  exact congrArg (fun z => some (V.int IntKind.i64 z)) e5
end Go.Proofs.YtekmafoicobphaaGreatDoor
