/- Packed codes: the program's Pack. -/
import Derived.Test.YtekmafoicobphaaGreatDoorSbPk3
import Derived.Test.YtekmafoicobphaaGreatDoorSb10Chk7
set_option linter.unusedVariables false
set_option linter.unusedSimpArgs false
namespace Go.Proofs.YtekmafoicobphaaGreatDoor
open Go.Sb
set_option maxRecDepth 100000
theorem ybb {E : Env} {md : Go.FuncId → Sb.Mode} {o : ROp} {os : List ROp} {s : List V} {h g : Heap} {v : V} {K : List V → Heap → Prop} {a0 a1 a2 a3 a4 a5 a6 a7 a8 a9 a10 a11 a12 a13 a14 a15 a16 a17 a18 a19 a20 a21 a22 a23 a24 a25 a26 a27 a28 a29 a30 a31 a32 a33 a34 : V} (hn : yag E md os [a0, a1, a2, a3, a4, a5, a6, a7, a8, a9, a10, a11, a12, a13, a14, a15, a16, a17, a18, a19, a20, a21, a22, a23, a24, a25, a26, a27, a28, a29, a30, a31, a32, a33, a34] g K) (hop : ∀ K : V → Heap → Prop, K v g → runOp E md o.op s h K := by exact fun _ => id) (hg : o.gd = none := by rfl) (hs : putT s o.dst v = [a0, a1, a2, a3, a4, a5, a6, a7, a8, a9, a10, a11, a12, a13, a14, a15, a16, a17, a18, a19, a20, a21, a22, a23, a24, a25, a26, a27, a28, a29, a30, a31, a32, a33, a34] := by rfl) : yag E md (o :: os) s h K := ybe hg hop hs hn
def wsI (u : Bs8) (k : Nat) (s : List V) (h : Heap) : Prop :=
 ∃ (i : Nat) (z : Int), ((i + k = 4 ∧ z = i) ∧ h = [.cells 5 (bv (u ++ ((sumL u).take i ++ List.replicate (4 - i) 0)))]) ∧ s.length = 35 ∧ s.getD 0 und = und ∧ s.getD 1 und = .lst 1 (bv u) ∧ s.getD 3 und = .str [] ∧ s.getD 4 und = .int .i64 (sumB u) ∧ s.getD 5 und = .sl 0 0 1 (u.length + 4) (u.length + 4) ((u.length + 4) * 1) ∧ s.getD 17 und = .int .i64 z
theorem wsI_lit {u : Bs8} {k : Nat} {s : List V} {h : Heap} (hI : wsI u k s h) : ∃ (i : Nat) (z : Int) (x : Nat → V), ((i + k = 4 ∧ z = i) ∧ h = [.cells 5 (bv (u ++ ((sumL u).take i ++ List.replicate (4 - i) 0)))]) ∧
  s = [und, .lst 1 (bv u), x 2, .str [], .int .i64 (sumB u), .sl 0 0 1 (u.length + 4) (u.length + 4) ((u.length + 4) * 1), x 6, x 7, x 8, x 9, x 10, x 11, x 12, x 13, x 14, x 15, x 16, .int .i64 z, x 18, x 19, x 20, x 21, x 22, x 23, x 24, x 25, x 26, x 27, x 28, x 29, x 30, x 31, x 32, x 33, x 34] := by
 obtain ⟨i, z, hF, hl, e0, e1, e3, e4, e5, e17⟩ := hI
 refine ⟨i, z, fun n => s.getD n und, hF, (ybd hl).trans ?_⟩
 simp only [List.range, List.range.loop, List.map_cons, List.map_nil]
 rw [e0, e1, e3, e4, e5, e17]
theorem make_row {m : Nat} (hm : m ≤ 2 ^ 40) : yiv envQ 49 (.int .i64 (m : Int)) (.int .i64 (m : Int)) [] = if m = 0 then some (.emp, []) else some (.sl 0 0 1 m m (m * 1), [.cells 5 (bv (List.replicate m 0))]) := by
 unfold yiv
 rw [show envQ.ty 49 = some ty49 from rfl]
 simp only [Option.bind_some, show (ty49).u = .slice 5 from rfl, show envQ.ty 5 = some ty5 from rfl, show ty5.bytes = 1 from rfl, show ty5.size = 1 from rfl, show ty5.zero = [V.int .u8 0] from rfl]
 rw [if_pos ⟨by omega, by omega, by omega, by omega, rfl, by omega⟩]
 by_cases h0 : m = 0
 ·subst h0; rfl
 ·rw [if_neg (by omega), if_neg h0]
  simp only [Int.toNat_natCast, yre]
  rfl
set_option maxHeartbeats 4000000 in
theorem yyk (h : Heap) (u : Bs8) (hu : u.length ≤ 2 ^ 38) : Has envQ .own 31 [.lst 1 (bv u)] h (.val (.str (sealB u)) h) := by
 refine HasP.own (a := [.lst 1 (bv u)]) (d := fn31) rfl rfl rfl (jT rfl) ?_
 have hs := ynl u
 have hul : (bv u).length = u.length := ycq u
 refine jW ?_
 refine jR _ ?_
 refine ybb ?_
 refine jW ?_
 refine jR _ ?_
 refine ybb ?_
 refine ybb ?_ (fun K hK => yep (conv_lst [] u) hK)
 refine ybb ?_ (fun K hK => CallK.of (sum_has _ u (by omega)) hK)
 refine ybb ?_
 have ew : IntKind.i64.wrap (((bv u).length : Int) + 4) = ((u.length + 4 : Nat) : Int) := by rw [hul, wrapS (by omega) (by omega)]; omega
 have hmk := make_row (m := u.length + 4) (by omega)
 rw [if_neg (by omega), ← ew] at hmk
 refine jW ?_
 refine jR _ ?_
 iterate 3 (refine ybb ?_)
 refine ybb ?_ (fun K hK => ycn (congrArg valH hmk) hK)
 refine ybb ?_
 have hcp : yiw envQ 49 (.sl 0 0 1 (u.length + 4) (u.length + 4) ((u.length + 4) * 1)) (.lst 1 (bv u)) [.cells 5 (bv (List.replicate (u.length + 4) 0))] = some (.int .i64 (u.length : Int), [.cells 5 (bv (u ++ List.replicate 4 0))]) := by
  unfold yiw
  rw [show envQ.ty 49 = some ty49 from rfl]
  simp only [Option.bind_some, show (ty49).u = .slice 5 from rfl, show envQ.ty 5 = some ty5 from rfl, show ty5.size = 1 from rfl]
  have hc : contents [.cells 5 (bv (List.replicate (u.length + 4) 0))] 1 (.lst 1 (bv u)) = some (u.length, bv u) := by
   simp [contents, yds, ycq]
  rw [if_neg (by decide), hc]
  simp only [Option.bind_some, ne_eq, not_true, if_false]
  rw [show yaz [.cells 5 (bv (List.replicate (u.length + 4) 0))] 0 ((u.length + 4) * 1) = some (5, bv (List.replicate (u.length + 4) 0)) from by simp [yaz, ycq]]
  simp only [Option.bind_some]
  rw [if_pos (by omega), show min u.length (u.length + 4) = u.length from by omega]
  have : splice (bv (List.replicate (u.length + 4) 0)) 0 (List.take (u.length * 1) (bv u)) = bv (u ++ List.replicate 4 0) := by
   unfold splice
   rw [List.take_of_length_le (show (bv u).length ≤ u.length * 1 by omega), List.take_zero, List.nil_append, Nat.zero_add, hul]
   unfold bv
   rw [List.map_append, ← List.map_drop, List.drop_replicate]
   congr 2
   rw [show u.length + 4 - u.length = 4 from by omega]
  rw [this]
  rfl
 refine jW ?_
 refine jR _ ?_
 iterate 2 (refine ybb ?_)
 refine ybb ?_ (fun K hK => ycn (congrArg valH hcp) hK)
 refine jW ?_
 refine jR _ ?_
 refine ybb ?_
 refine jW ?_
 refine RunP.loop (wsI u) ?_ 4 ⟨0, _, ⟨⟨rfl, rfl⟩, rfl⟩, rfl, rfl, rfl, rfl, rfl, rfl, rfl⟩
 intro kk st hh hI
 obtain ⟨i, z, x, ⟨⟨hik, hz⟩, rfl⟩, rfl⟩ := wsI_lit hI
 clear hI
 subst hz
 have hi4 : i = 0 ∨ i = 1 ∨ i = 2 ∨ i = 3 ∨ i = 4 := by omega
 rcases hi4 with rfl | rfl | rfl | rfl | rfl
 ·skip
  have e1 : IntKind.u8.wrap ((sumB u).fdiv (2 ^ (min (IntKind.i64.wrap (8 * IntKind.i64.wrap (3 - ((0 : Nat) : Int)))).toNat 64))) = ((UInt8.ofNat ((sumB u).toNat / 16777216)).toNat : Int) := by
   show IntKind.u8.wrap ((sumB u).fdiv 16777216) = _
   rw [Int.fdiv_eq_ediv_of_nonneg _ (by decide), ykn (by omega)]
   rw [show ((sumB u) / 16777216).toNat = (sumB u).toNat / 16777216 from by omega]
  have e2 : (IntKind.i64.wrap (((bv u).length : Int) + ((0 : Nat) : Int))).toNat = u.length + 0 := by rw [hul, wrapS (by omega) (by omega)]; omega
  have hst := ybw (E := envQ) (t := 5) (T := 5) (h := [.cells 5 (bv (u ++ ((sumL u).take 0 ++ List.replicate (4 - 0) 0)))]) (b := 0) (o := 0 + (IntKind.i64.wrap (((bv u).length : Int) + ((0 : Nat) : Int))).toNat * 1) (n := (u.length + 4) * 1) (v := .int .u8 (IntKind.u8.wrap ((sumB u).fdiv (2 ^ (min (IntKind.i64.wrap (8 * IntKind.i64.wrap (3 - ((0 : Nat) : Int)))).toNat 64))))) rfl (by simp [ycq, sumL]) (rfl : envQ.ty 5 = some ty5) rfl rfl (by rw [e2]; show 0 + (u.length + 0) * 1 + 1 ≤ _; omega)
  have hsp : splice (bv (u ++ ((sumL u).take 0 ++ List.replicate (4 - 0) 0))) (0 + (IntKind.i64.wrap (((bv u).length : Int) + ((0 : Nat) : Int))).toNat * 1) [.int .u8 (IntKind.u8.wrap ((sumB u).fdiv (2 ^ (min (IntKind.i64.wrap (8 * IntKind.i64.wrap (3 - ((0 : Nat) : Int)))).toNat 64))))] = bv (u ++ ((sumL u).take (0 + 1) ++ List.replicate (4 - (0 + 1)) 0)) := by
   rw [e1, e2]
   have := yko (u ++ (sumL u).take 0) (List.replicate (4 - (0 + 1)) 0) 0 (UInt8.ofNat ((sumB u).toNat / 16777216)) (n := 0 + (u.length + 0) * 1) (by simp [sumL])
   rw [List.append_assoc, List.append_assoc] at this
   exact this
  replace hst := hst.trans (congrArg (fun c => some [Blk.cells 5 c]) hsp)
  refine jW ?_
  apply jB
  refine jI (fun _ => ?_) (fun q => absurd q (by decide))
  refine jW ?_
  refine jR _ ?_
  iterate 2 (refine ybb ?_)
  refine jW ?_
  refine jR _ ?_
  iterate 9 (refine ybb ?_)
  refine ybb ?_ (fun K hK => jI (by decide) hK)
  refine ybb ?_
  refine ybb ?_ (fun K hK => jI (jI (by rw [hul, wrapS (by omega) (by omega)]; omega) (by rw [hul, wrapS (by omega) (by omega)]; omega)) (jI rfl hK))
  refine ybb ?_ (fun K hK => yab hst hK)
  refine jW ?_
  refine jR _ ?_
  iterate 2 (refine ybb ?_)
  exact ⟨kk - 1, by omega, 0 + 1, _, ⟨⟨by omega, rfl⟩, rfl⟩, rfl, rfl, rfl, rfl, rfl, rfl, rfl⟩
 ·skip
  have e1 : IntKind.u8.wrap ((sumB u).fdiv (2 ^ (min (IntKind.i64.wrap (8 * IntKind.i64.wrap (3 - ((1 : Nat) : Int)))).toNat 64))) = ((UInt8.ofNat ((sumB u).toNat / 65536)).toNat : Int) := by
   show IntKind.u8.wrap ((sumB u).fdiv 65536) = _
   rw [Int.fdiv_eq_ediv_of_nonneg _ (by decide), ykn (by omega)]
   rw [show ((sumB u) / 65536).toNat = (sumB u).toNat / 65536 from by omega]
  have e2 : (IntKind.i64.wrap (((bv u).length : Int) + ((1 : Nat) : Int))).toNat = u.length + 1 := by rw [hul, wrapS (by omega) (by omega)]; omega
  have hst := ybw (E := envQ) (t := 5) (T := 5) (h := [.cells 5 (bv (u ++ ((sumL u).take 1 ++ List.replicate (4 - 1) 0)))]) (b := 0) (o := 0 + (IntKind.i64.wrap (((bv u).length : Int) + ((1 : Nat) : Int))).toNat * 1) (n := (u.length + 4) * 1) (v := .int .u8 (IntKind.u8.wrap ((sumB u).fdiv (2 ^ (min (IntKind.i64.wrap (8 * IntKind.i64.wrap (3 - ((1 : Nat) : Int)))).toNat 64))))) rfl (by simp [ycq, sumL]) (rfl : envQ.ty 5 = some ty5) rfl rfl (by rw [e2]; show 0 + (u.length + 1) * 1 + 1 ≤ _; omega)
  have hsp : splice (bv (u ++ ((sumL u).take 1 ++ List.replicate (4 - 1) 0))) (0 + (IntKind.i64.wrap (((bv u).length : Int) + ((1 : Nat) : Int))).toNat * 1) [.int .u8 (IntKind.u8.wrap ((sumB u).fdiv (2 ^ (min (IntKind.i64.wrap (8 * IntKind.i64.wrap (3 - ((1 : Nat) : Int)))).toNat 64))))] = bv (u ++ ((sumL u).take (1 + 1) ++ List.replicate (4 - (1 + 1)) 0)) := by
   rw [e1, e2]
   have := yko (u ++ (sumL u).take 1) (List.replicate (4 - (1 + 1)) 0) 0 (UInt8.ofNat ((sumB u).toNat / 65536)) (n := 0 + (u.length + 1) * 1) (by simp [sumL])
   rw [List.append_assoc, List.append_assoc] at this
   exact this
  replace hst := hst.trans (congrArg (fun c => some [Blk.cells 5 c]) hsp)
  refine jW ?_
  apply jB
  refine jI (fun _ => ?_) (fun q => absurd q (by decide))
  refine jW ?_
  refine jR _ ?_
  iterate 2 (refine ybb ?_)
  refine jW ?_
  refine jR _ ?_
  iterate 9 (refine ybb ?_)
  refine ybb ?_ (fun K hK => jI (by decide) hK)
  refine ybb ?_
  refine ybb ?_ (fun K hK => jI (jI (by rw [hul, wrapS (by omega) (by omega)]; omega) (by rw [hul, wrapS (by omega) (by omega)]; omega)) (jI rfl hK))
  refine ybb ?_ (fun K hK => yab hst hK)
  refine jW ?_
  refine jR _ ?_
  iterate 2 (refine ybb ?_)
  exact ⟨kk - 1, by omega, 1 + 1, _, ⟨⟨by omega, rfl⟩, rfl⟩, rfl, rfl, rfl, rfl, rfl, rfl, rfl⟩
 ·skip
  have e1 : IntKind.u8.wrap ((sumB u).fdiv (2 ^ (min (IntKind.i64.wrap (8 * IntKind.i64.wrap (3 - ((2 : Nat) : Int)))).toNat 64))) = ((UInt8.ofNat ((sumB u).toNat / 256)).toNat : Int) := by
   show IntKind.u8.wrap ((sumB u).fdiv 256) = _
   rw [Int.fdiv_eq_ediv_of_nonneg _ (by decide), ykn (by omega)]
   rw [show ((sumB u) / 256).toNat = (sumB u).toNat / 256 from by omega]
  have e2 : (IntKind.i64.wrap (((bv u).length : Int) + ((2 : Nat) : Int))).toNat = u.length + 2 := by rw [hul, wrapS (by omega) (by omega)]; omega
  have hst := ybw (E := envQ) (t := 5) (T := 5) (h := [.cells 5 (bv (u ++ ((sumL u).take 2 ++ List.replicate (4 - 2) 0)))]) (b := 0) (o := 0 + (IntKind.i64.wrap (((bv u).length : Int) + ((2 : Nat) : Int))).toNat * 1) (n := (u.length + 4) * 1) (v := .int .u8 (IntKind.u8.wrap ((sumB u).fdiv (2 ^ (min (IntKind.i64.wrap (8 * IntKind.i64.wrap (3 - ((2 : Nat) : Int)))).toNat 64))))) rfl (by simp [ycq, sumL]) (rfl : envQ.ty 5 = some ty5) rfl rfl (by rw [e2]; show 0 + (u.length + 2) * 1 + 1 ≤ _; omega)
  have hsp : splice (bv (u ++ ((sumL u).take 2 ++ List.replicate (4 - 2) 0))) (0 + (IntKind.i64.wrap (((bv u).length : Int) + ((2 : Nat) : Int))).toNat * 1) [.int .u8 (IntKind.u8.wrap ((sumB u).fdiv (2 ^ (min (IntKind.i64.wrap (8 * IntKind.i64.wrap (3 - ((2 : Nat) : Int)))).toNat 64))))] = bv (u ++ ((sumL u).take (2 + 1) ++ List.replicate (4 - (2 + 1)) 0)) := by
   rw [e1, e2]
   have := yko (u ++ (sumL u).take 2) (List.replicate (4 - (2 + 1)) 0) 0 (UInt8.ofNat ((sumB u).toNat / 256)) (n := 0 + (u.length + 2) * 1) (by simp [sumL])
   rw [List.append_assoc, List.append_assoc] at this
   exact this
  replace hst := hst.trans (congrArg (fun c => some [Blk.cells 5 c]) hsp)
  refine jW ?_
  apply jB
  refine jI (fun _ => ?_) (fun q => absurd q (by decide))
  refine jW ?_
  refine jR _ ?_
  iterate 2 (refine ybb ?_)
  refine jW ?_
  refine jR _ ?_
  iterate 9 (refine ybb ?_)
  refine ybb ?_ (fun K hK => jI (by decide) hK)
  refine ybb ?_
  refine ybb ?_ (fun K hK => jI (jI (by rw [hul, wrapS (by omega) (by omega)]; omega) (by rw [hul, wrapS (by omega) (by omega)]; omega)) (jI rfl hK))
  refine ybb ?_ (fun K hK => yab hst hK)
  refine jW ?_
  refine jR _ ?_
  iterate 2 (refine ybb ?_)
  exact ⟨kk - 1, by omega, 2 + 1, _, ⟨⟨by omega, rfl⟩, rfl⟩, rfl, rfl, rfl, rfl, rfl, rfl, rfl⟩
 ·skip
  have e1 : IntKind.u8.wrap ((sumB u).fdiv (2 ^ (min (IntKind.i64.wrap (8 * IntKind.i64.wrap (3 - ((3 : Nat) : Int)))).toNat 64))) = ((UInt8.ofNat (sumB u).toNat).toNat : Int) := by
   show IntKind.u8.wrap ((sumB u).fdiv 1) = _
   rw [Int.fdiv_eq_ediv_of_nonneg _ (by decide), ykn (by omega)]
   rw [show ((sumB u) / 1).toNat = (sumB u).toNat from by omega]
  have e2 : (IntKind.i64.wrap (((bv u).length : Int) + ((3 : Nat) : Int))).toNat = u.length + 3 := by rw [hul, wrapS (by omega) (by omega)]; omega
  have hst := ybw (E := envQ) (t := 5) (T := 5) (h := [.cells 5 (bv (u ++ ((sumL u).take 3 ++ List.replicate (4 - 3) 0)))]) (b := 0) (o := 0 + (IntKind.i64.wrap (((bv u).length : Int) + ((3 : Nat) : Int))).toNat * 1) (n := (u.length + 4) * 1) (v := .int .u8 (IntKind.u8.wrap ((sumB u).fdiv (2 ^ (min (IntKind.i64.wrap (8 * IntKind.i64.wrap (3 - ((3 : Nat) : Int)))).toNat 64))))) rfl (by simp [ycq, sumL]) (rfl : envQ.ty 5 = some ty5) rfl rfl (by rw [e2]; show 0 + (u.length + 3) * 1 + 1 ≤ _; omega)
  have hsp : splice (bv (u ++ ((sumL u).take 3 ++ List.replicate (4 - 3) 0))) (0 + (IntKind.i64.wrap (((bv u).length : Int) + ((3 : Nat) : Int))).toNat * 1) [.int .u8 (IntKind.u8.wrap ((sumB u).fdiv (2 ^ (min (IntKind.i64.wrap (8 * IntKind.i64.wrap (3 - ((3 : Nat) : Int)))).toNat 64))))] = bv (u ++ ((sumL u).take (3 + 1) ++ List.replicate (4 - (3 + 1)) 0)) := by
   rw [e1, e2]
   have := yko (u ++ (sumL u).take 3) (List.replicate (4 - (3 + 1)) 0) 0 (UInt8.ofNat (sumB u).toNat) (n := 0 + (u.length + 3) * 1) (by simp [sumL])
   rw [List.append_assoc, List.append_assoc] at this
   exact this
  replace hst := hst.trans (congrArg (fun c => some [Blk.cells 5 c]) hsp)
  refine jW ?_
  apply jB
  refine jI (fun _ => ?_) (fun q => absurd q (by decide))
  refine jW ?_
  refine jR _ ?_
  iterate 2 (refine ybb ?_)
  refine jW ?_
  refine jR _ ?_
  iterate 9 (refine ybb ?_)
  refine ybb ?_ (fun K hK => jI (by decide) hK)
  refine ybb ?_
  refine ybb ?_ (fun K hK => jI (jI (by rw [hul, wrapS (by omega) (by omega)]; omega) (by rw [hul, wrapS (by omega) (by omega)]; omega)) (jI rfl hK))
  refine ybb ?_ (fun K hK => yab hst hK)
  refine jW ?_
  refine jR _ ?_
  iterate 2 (refine ybb ?_)
  exact ⟨kk - 1, by omega, 3 + 1, _, ⟨⟨by omega, rfl⟩, rfl⟩, rfl, rfl, rfl, rfl, rfl, rfl, rfl⟩
 ·skip
  refine jW ?_
  apply jB
  refine jI (fun q => absurd q (by decide)) (fun _ => ?_)
  refine jW ?_
  refine jR _ ?_
  refine ybb ?_
  refine ybb ?_ (fun K hK => ykf (bs := sealB u) rfl rfl rfl rfl rfl rfl rfl (.inr ⟨0, by simp [ycq, sealB, sumL], by rw [yds]; rfl, by simp [bv, sealB, sumL]⟩) hK)
  refine ybb ?_
  refine jW ?_
  apply jH
  exact ⟨rfl, rfl, rfl⟩
end Go.Proofs.YtekmafoicobphaaGreatDoor
