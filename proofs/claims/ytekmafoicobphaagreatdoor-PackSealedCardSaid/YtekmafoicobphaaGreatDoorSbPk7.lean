/- Seat 13: guarded, ReadNumber. -/
import Derived.Test.YtekmafoicobphaaGreatDoorSb13RdN
import Derived.Test.YtekmafoicobphaaGreatDoorSbPk2
import Derived.Test.YtekmafoicobphaaGreatDoorSbPk4
set_option linter.unusedVariables false
set_option linter.unusedSimpArgs false
namespace Go.Proofs.YtekmafoicobphaaGreatDoor
open Go.Sb
set_option maxRecDepth 100000
noncomputable def g11 : GuardD := match gd11 with
 | some g => g
 | none => ⟨fn38, [], 0, default, default, 0, .skip, 0, fn60, 0, default, .skip⟩
theorem gd_eq : envQ.gd 38 = some g11 := by kernel_rfl
end Go.Proofs.YtekmafoicobphaaGreatDoor

/- Seat 13: the reference's bytes of a number, its Sum, its ReadNumber. -/

namespace Go.Proofs.YtekmafoicobphaaGreatDoor
open Go.Sb
set_option maxRecDepth 100000
def rsuI (u : List UInt8) (k : Nat) (s : List V) (h : Heap) : Prop :=
 ∃ (i : Nat) (z a b : Int), (i + k = u.length ∧ z = i ∧ a = (sumS (u.take i)).1 ∧ b = (sumS (u.take i)).2) ∧ s.length = 28 ∧ s.getD 0 und = und ∧ s.getD 1 und = .str u ∧ s.getD 3 und = .int .i64 0 ∧ s.getD 4 und = .int .i64 a ∧ s.getD 5 und = .int .i64 b ∧ s.getD 6 und = .int .i64 z
theorem rsuI_lit {u : List UInt8} {k : Nat} {s : List V} {h : Heap} (hI : rsuI u k s h) : ∃ (i : Nat) (z a b : Int) (x : Nat → V), (i + k = u.length ∧ z = i ∧ a = (sumS (u.take i)).1 ∧ b = (sumS (u.take i)).2) ∧
  s = [und, .str u, x 2, .int .i64 0, .int .i64 a, .int .i64 b, .int .i64 z, x 7, x 8, x 9, x 10, x 11, x 12, x 13, x 14, x 15, x 16, x 17, x 18, x 19, x 20, x 21, x 22, x 23, x 24, x 25, x 26, x 27] := by
 obtain ⟨i, z, a, b, hF, hl, e0, e1, e3, e4, e5, e6⟩ := hI
 refine ⟨i, z, a, b, fun n => s.getD n und, hF, (ybc hl).trans ?_⟩
 simp only [List.range, List.range.loop, List.map_cons, List.map_nil]
 rw [e0, e1, e3, e4, e5, e6]
set_option maxHeartbeats 2000000 in
theorem yxq (h : Heap) (s : List UInt8) (hl : s.length ≤ 2 ^ 38) : Has envQ .own 17 [.str s] h (.val (.int .i64 (sumB s)) h) := by
 refine HasP.own (a := [.str s]) (d := fn17) rfl rfl rfl (jT rfl) ?_
 refine jV ?_
 refine RunP.loop (rsuI s) ?_ s.length ⟨0, _, _, _, ⟨by omega, rfl, rfl, rfl⟩, rfl, rfl, rfl, rfl, rfl, rfl, rfl⟩
 intro k st g hI
 obtain ⟨i, z, a, b, x, ⟨hik, hz, ha, hb⟩, rfl⟩ := rsuI_lit hI
 clear hI
 subst hz
 have hr := ymg (s.take i)
 rw [← ha, ← hb] at hr
 have hiz : (0 : Int) ≤ (i : Int) := by omega
 refine jV ?_
 refine jI (fun hlt => ?_) (fun hge => ?_)
 ·have hi : i < s.length := by omega
  obtain ⟨c, hc⟩ : ∃ c, s[i]? = some c := ⟨_, List.getElem?_eq_getElem hi⟩
  have hcl : c.toNat < 256 := c.toNat_lt
  refine jV ?_
  refine jI hiz (Exists.intro c (jI hc ?_))
  have e1 : IntKind.i64.wrap (a + IntKind.i64.wrap (c.toNat : Int)) = a + c.toNat := by rw [wrapS (x := (c.toNat : Int)) (by omega) (by omega), wrapS (by omega) (by omega)]
  have e2 : (IntKind.i64.wrap (a + IntKind.i64.wrap (c.toNat : Int))).tmod 65521 = (a + c.toNat) % 65521 := by rw [e1, Int.tmod_eq_emod_of_nonneg (by omega)]
  have e3 : (IntKind.i64.wrap (b + (IntKind.i64.wrap (a + IntKind.i64.wrap (c.toNat : Int))).tmod 65521)).tmod 65521 = (b + (a + c.toNat) % 65521) % 65521 := by
   rw [e2, wrapS (by omega) (by omega), Int.tmod_eq_emod_of_nonneg (by omega)]
  refine jI rfl (jI (by decide) ?_)
  refine jV ?_
  refine jI rfl (jI (by decide) ?_)
  refine jV ?_
  have ht : sumS (s.take (i + 1)) = ((a + c.toNat) % 65521, (b + (a + c.toNat) % 65521) % 65521) := by
   rw [List.take_add_one, hc]
   simp only [Option.toList_some]
   rw [yqk, ← ha, ← hb]
  refine ⟨k - 1, by omega, i + 1, _, _, _, ⟨by omega, ydo i (by omega), by rw [ht]; exact e2, by rw [ht]; exact e3⟩, rfl, rfl, rfl, rfl, rfl, rfl, rfl⟩
 ·repeat first|apply jZ|apply jA|apply jB|apply jH
  have hi : i = s.length := by omega
  rw [hi, List.take_length] at ha hb
  refine ⟨rfl, ?_, rfl⟩
  have e5 : IntKind.i64.wrap (IntKind.i64.wrap (b * 65536) + a) = sumB s := by
   rw [wrapS (x := b * 65536) (by omega) (by omega), wrapS (by omega) (by omega), sumB, ha, hb]
  exact congrArg (fun z => some (V.int IntKind.i64 z)) e5
end Go.Proofs.YtekmafoicobphaaGreatDoor

/- Packed codes: the reference's writers. -/

namespace Go.Proofs.YtekmafoicobphaaGreatDoor
open Go.Sb
set_option maxRecDepth 100000
end Go.Proofs.YtekmafoicobphaaGreatDoor

/- Packed codes: the reference's Pack. -/

namespace Go.Proofs.YtekmafoicobphaaGreatDoor
open Go.Sb
set_option maxRecDepth 100000
theorem ycy {E : Env} {md : Go.FuncId → Sb.Mode} {o : ROp} {os : List ROp} {s : List V} {h g : Heap} {v : V} {K : List V → Heap → Prop} {a0 a1 a2 a3 a4 a5 a6 a7 a8 a9 a10 a11 a12 a13 a14 a15 a16 a17 a18 a19 a20 a21 : V} (hn : yaf E md os [a0, a1, a2, a3, a4, a5, a6, a7, a8, a9, a10, a11, a12, a13, a14, a15, a16, a17, a18, a19, a20, a21] g K) (hop : ∀ K : V → Heap → Prop, K v g → runOp E md o.op s h K := by exact fun _ => id) (hg : o.gd = none := by rfl) (hs : putT s o.dst v = [a0, a1, a2, a3, a4, a5, a6, a7, a8, a9, a10, a11, a12, a13, a14, a15, a16, a17, a18, a19, a20, a21] := by rfl) : yaf E md (o :: os) s h K := yba hg hop hs hn
theorem yxr (u : Bs8) (hu : u.length ≤ 2 ^ 38) : [V.int .u8 (IntKind.u8.wrap ((sumB u).fdiv (2 ^ (min 24 64)))), .int .u8 (IntKind.u8.wrap ((sumB u).fdiv (2 ^ (min 16 64)))), .int .u8 (IntKind.u8.wrap ((sumB u).fdiv (2 ^ (min 8 64)))), .int .u8 (IntKind.u8.wrap (sumB u))] = bv (sumL u) := by
 have hs := yqn u
 have e1 : IntKind.u8.wrap ((sumB u).fdiv (2 ^ (min 24 64))) = ((UInt8.ofNat ((sumB u).toNat / 16777216)).toNat : Int) := by
  show IntKind.u8.wrap ((sumB u).fdiv 16777216) = _
  rw [Int.fdiv_eq_ediv_of_nonneg _ (by decide), yew (by omega), show ((sumB u) / 16777216).toNat = (sumB u).toNat / 16777216 from by omega]
 have e2 : IntKind.u8.wrap ((sumB u).fdiv (2 ^ (min 16 64))) = ((UInt8.ofNat ((sumB u).toNat / 65536)).toNat : Int) := by
  show IntKind.u8.wrap ((sumB u).fdiv 65536) = _
  rw [Int.fdiv_eq_ediv_of_nonneg _ (by decide), yew (by omega), show ((sumB u) / 65536).toNat = (sumB u).toNat / 65536 from by omega]
 have e3 : IntKind.u8.wrap ((sumB u).fdiv (2 ^ (min 8 64))) = ((UInt8.ofNat ((sumB u).toNat / 256)).toNat : Int) := by
  show IntKind.u8.wrap ((sumB u).fdiv 256) = _
  rw [Int.fdiv_eq_ediv_of_nonneg _ (by decide), yew (by omega), show ((sumB u) / 256).toNat = (sumB u).toNat / 256 from by omega]
 rw [e1, e2, e3, yew (by omega)]
 rfl
set_option maxHeartbeats 2000000 in
theorem yxs (h : Heap) (u : Bs8) (hu : u.length ≤ 2 ^ 38) : Has envQ .own 50 [.str u] h (.val (.str (sealB u)) h) := by
 refine HasP.own (a := [.str u]) (d := fn50) rfl rfl rfl (jT rfl) ?_
 have hw := yxr u hu
 have hrw : InRow [.cells 5 [V.int .u8 (IntKind.u8.wrap ((sumB u).fdiv (2 ^ (min 24 64)))), .int .u8 (IntKind.u8.wrap ((sumB u).fdiv (2 ^ (min 16 64)))), .int .u8 (IntKind.u8.wrap ((sumB u).fdiv (2 ^ (min 8 64)))), .int .u8 (IntKind.u8.wrap (sumB u))]] 5 1 (.sl 0 0 1 4 4 4) (bv (sumL u)) := by
  rw [hw]; exact .inr ⟨0, rfl, by rw [ydd]; rfl, by simp [bv, sumL]⟩
 have hcv : ydj envQ 49 9 (.sl 0 0 1 4 4 4) [.cells 5 [V.int .u8 (IntKind.u8.wrap ((sumB u).fdiv (2 ^ (min 24 64)))), .int .u8 (IntKind.u8.wrap ((sumB u).fdiv (2 ^ (min 16 64)))), .int .u8 (IntKind.u8.wrap ((sumB u).fdiv (2 ^ (min 8 64)))), .int .u8 (IntKind.u8.wrap (sumB u))]] = some (.str (sumL u), [.cells 5 [V.int .u8 (IntKind.u8.wrap ((sumB u).fdiv (2 ^ (min 24 64)))), .int .u8 (IntKind.u8.wrap ((sumB u).fdiv (2 ^ (min 16 64)))), .int .u8 (IntKind.u8.wrap ((sumB u).fdiv (2 ^ (min 8 64)))), .int .u8 (IntKind.u8.wrap (sumB u))]]) := by
  obtain ⟨pv, hpv, h1, h2⟩ := yox (ypv (E := envQ) (t := 49) (T := 5) (st := 9) (K := fun v h => v = .str (sumL u) ∧ h = [.cells 5 [V.int .u8 (IntKind.u8.wrap ((sumB u).fdiv (2 ^ (min 24 64)))), .int .u8 (IntKind.u8.wrap ((sumB u).fdiv (2 ^ (min 16 64)))), .int .u8 (IntKind.u8.wrap ((sumB u).fdiv (2 ^ (min 8 64)))), .int .u8 (IntKind.u8.wrap (sumB u))]]) rfl rfl rfl rfl rfl rfl rfl hrw ⟨rfl, rfl⟩)
  rw [hpv]
  obtain ⟨p1, p2⟩ := pv
  simp only at h1 h2
  rw [h1, h2]
 refine jW ?_
 refine jR _ ?_
 refine ycy ?_
 refine jW ?_
 refine jR _ ?_
 refine ycy ?_
 refine ycy ?_ (fun K hK => CallK.of (yxq _ u (by omega)) hK)
 refine ycy ?_
 refine jW ?_
 refine jR _ ?_
 iterate 2 (refine ycy ?_)
 refine ycy ?_ (fun K hK => jI (by decide) hK)
 iterate 2 (refine ycy ?_)
 refine ycy ?_ (fun K hK => jI (by decide) hK)
 iterate 2 (refine ycy ?_)
 refine ycy ?_ (fun K hK => jI (by decide) hK)
 iterate 3 (refine ycy ?_)
 refine ycy (v := .sl 0 0 1 4 4 4) (g := [.cells 5 [V.int .u8 (IntKind.u8.wrap ((sumB u).fdiv (2 ^ (min 24 64)))), .int .u8 (IntKind.u8.wrap ((sumB u).fdiv (2 ^ (min 16 64)))), .int .u8 (IntKind.u8.wrap ((sumB u).fdiv (2 ^ (min 8 64)))), .int .u8 (IntKind.u8.wrap (sumB u))]]) ?_
 refine ycy ?_ (fun K hK => yee hcv hK)
 refine ycy ?_ (fun K hK => jI (by simp [sumL]; omega) hK)
 refine ycy ?_
 refine jW ?_
 apply jH
 exact ⟨rfl, rfl, rfl⟩
theorem Seal_has (h : Heap) (u : Bs8) (hu : u.length ≤ 2 ^ 38) : Has envQ .own 27 [.str u] h (.val (.str (sealB u)) h) := by
 refine HasP.own (a := [.str u]) (d := fn27) rfl rfl rfl (jT rfl) ?_
 refine jV ?_
 refine CallK.of (yxs _ u hu) ?_
 refine jV ?_
 exact ⟨rfl, rfl, rfl⟩
end Go.Proofs.YtekmafoicobphaaGreatDoor
