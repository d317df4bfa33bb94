/- Seat 13: Damage, Unpack. -/
import Derived.Test.YtekmafoicobphaaGreatDoorSb13Opn
set_option linter.unusedVariables false
set_option linter.unusedSimpArgs false
namespace Go.Proofs.YtekmafoicobphaaGreatDoor
open Go.Sb
set_option maxRecDepth 100000
theorem ysx {E : Env} {md : Go.FuncId → Sb.Mode} {A : List (List Nat)} {k : Nat} {o : ROp} {os : List ROp} {acc : List (Nat × Go.Op × List V × V)} {s : List V} {h g : Heap} {v : V} {K : List V → Heap → Prop} {a0 a1 a2 a3 a4 a5 a6 a7 a8 a9 a10 a11 a12 a13 a14 a15 a16 a17 a18 a19 a20 a21 a22 a23 a24 a25 a26 : V} (hg : o.gd = none) (hop : ∀ K : V → Heap → Prop, K v g → runOp E md o.op s h K) (hk : yai E md o.op = 1) (hs : putT s o.dst v = [a0, a1, a2, a3, a4, a5, a6, a7, a8, a9, a10, a11, a12, a13, a14, a15, a16, a17, a18, a19, a20, a21, a22, a23, a24, a25, a26]) (hn : yaq E md A (k + 1) os ((k, o.op, s, v) :: acc) [a0, a1, a2, a3, a4, a5, a6, a7, a8, a9, a10, a11, a12, a13, a14, a15, a16, a17, a18, a19, a20, a21, a22, a23, a24, a25, a26] g K) : yaq E md A k (o :: os) acc s h K := ykh hg hop hk hs hn
theorem yfi {E : Env} {md : Go.FuncId → Sb.Mode} {A : List (List Nat)} {k : Nat} {o : ROp} {os : List ROp} {acc : List (Nat × Go.Op × List V × V)} {s : List V} {h g : Heap} {v : V} {K : List V → Heap → Prop} {a0 a1 a2 a3 a4 a5 a6 a7 a8 a9 a10 a11 a12 a13 a14 a15 a16 a17 a18 a19 a20 a21 a22 a23 a24 a25 a26 : V} (hg : o.gd = none) (hop : ∀ K : V → Heap → Prop, K v g → runOp E md o.op s h K) (hk : yai E md o.op = 0) (hs : putT s o.dst v = [a0, a1, a2, a3, a4, a5, a6, a7, a8, a9, a10, a11, a12, a13, a14, a15, a16, a17, a18, a19, a20, a21, a22, a23, a24, a25, a26]) (hn : yaq E md A (k + 1) os acc [a0, a1, a2, a3, a4, a5, a6, a7, a8, a9, a10, a11, a12, a13, a14, a15, a16, a17, a18, a19, a20, a21, a22, a23, a24, a25, a26] g K) : yaq E md A k (o :: os) acc s h K := ykg hg hop hk hs hn
theorem yyo {E : Env} {md : Go.FuncId → Sb.Mode} {o : ROp} {os : List ROp} {s : List V} {h : Heap} {K : List V → Heap → Prop} {a0 a1 a2 a3 a4 a5 a6 a7 a8 a9 a10 a11 a12 a13 a14 a15 a16 a17 a18 a19 a20 a21 a22 a23 a24 a25 a26 : V} {t : Go.Tmp} {w b : Bool} (hn : yag E md os [a0, a1, a2, a3, a4, a5, a6, a7, a8, a9, a10, a11, a12, a13, a14, a15, a16, a17, a18, a19, a20, a21, a22, a23, a24, a25, a26] h K) (hg : o.gd = some (t, w) := by rfl) (hb : getT s t = .bool b := by rfl) (hw : b = !w := by rfl) (hs : putT s o.dst und = [a0, a1, a2, a3, a4, a5, a6, a7, a8, a9, a10, a11, a12, a13, a14, a15, a16, a17, a18, a19, a20, a21, a22, a23, a24, a25, a26] := by rfl) : yag E md (o :: os) s h K := yet hg hb hw hs hn
theorem yax {E : Env} {md : Go.FuncId → Sb.Mode} {o : ROp} {os : List ROp} {s : List V} {h g : Heap} {v : V} {K : List V → Heap → Prop} {a0 a1 a2 a3 a4 a5 a6 a7 a8 a9 a10 a11 a12 a13 a14 a15 a16 a17 a18 a19 a20 a21 a22 a23 a24 a25 a26 : V} (hn : yag E md os [a0, a1, a2, a3, a4, a5, a6, a7, a8, a9, a10, a11, a12, a13, a14, a15, a16, a17, a18, a19, a20, a21, a22, a23, a24, a25, a26] g K) (hop : ∀ K : V → Heap → Prop, K v g → runOp E md o.op s h K := by exact fun _ => id) (hg : o.gd = none := by rfl) (hs : putT s o.dst v = [a0, a1, a2, a3, a4, a5, a6, a7, a8, a9, a10, a11, a12, a13, a14, a15, a16, a17, a18, a19, a20, a21, a22, a23, a24, a25, a26] := by rfl) : yag E md (o :: os) s h K := ybe hg hop hs hn
theorem ykz {E : Env} {md : Go.FuncId → Sb.Mode} {o : ROp} {os : List ROp} {s : List V} {h g : Heap} {v : V} {K : List V → Heap → Prop} {a0 a1 a2 a3 a4 a5 a6 a7 a8 a9 a10 a11 a12 a13 a14 a15 a16 a17 a18 a19 a20 a21 a22 a23 a24 a25 a26 : V} {t : Go.Tmp} {w : Bool} (hn : yag E md os [a0, a1, a2, a3, a4, a5, a6, a7, a8, a9, a10, a11, a12, a13, a14, a15, a16, a17, a18, a19, a20, a21, a22, a23, a24, a25, a26] g K) (hop : ∀ K : V → Heap → Prop, K v g → runOp E md o.op s h K := by exact fun _ => id) (hg : o.gd = some (t, w) := by rfl) (hb : getT s t = .bool w := by rfl) (hs : putT s o.dst v = [a0, a1, a2, a3, a4, a5, a6, a7, a8, a9, a10, a11, a12, a13, a14, a15, a16, a17, a18, a19, a20, a21, a22, a23, a24, a25, a26] := by rfl) : yag E md (o :: os) s h K := yes hg hb hop hs hn
theorem yyp {E : Env} {md : Go.FuncId → Sb.Mode} {o : ROp} {os : List ROp} {s : List V} {h : Heap} {K : List V → Heap → Prop} {a0 a1 a2 a3 a4 a5 a6 a7 a8 a9 a10 a11 a12 a13 a14 a15 a16 a17 a18 a19 a20 a21 a22 a23 a24 a25 a26 a27 a28 a29 a30 a31 a32 a33 a34 a35 a36 a37 a38 a39 : V} {t : Go.Tmp} {w b : Bool} (hn : yag E md os [a0, a1, a2, a3, a4, a5, a6, a7, a8, a9, a10, a11, a12, a13, a14, a15, a16, a17, a18, a19, a20, a21, a22, a23, a24, a25, a26, a27, a28, a29, a30, a31, a32, a33, a34, a35, a36, a37, a38, a39] h K) (hg : o.gd = some (t, w) := by rfl) (hb : getT s t = .bool b := by rfl) (hw : b = !w := by rfl) (hs : putT s o.dst und = [a0, a1, a2, a3, a4, a5, a6, a7, a8, a9, a10, a11, a12, a13, a14, a15, a16, a17, a18, a19, a20, a21, a22, a23, a24, a25, a26, a27, a28, a29, a30, a31, a32, a33, a34, a35, a36, a37, a38, a39] := by rfl) : yag E md (o :: os) s h K := yet hg hb hw hs hn
theorem ybc {E : Env} {md : Go.FuncId → Sb.Mode} {o : ROp} {os : List ROp} {s : List V} {h g : Heap} {v : V} {K : List V → Heap → Prop} {a0 a1 a2 a3 a4 a5 a6 a7 a8 a9 a10 a11 a12 a13 a14 a15 a16 a17 a18 a19 a20 a21 a22 a23 a24 a25 a26 a27 a28 a29 a30 a31 a32 a33 a34 a35 a36 a37 a38 a39 : V} (hn : yag E md os [a0, a1, a2, a3, a4, a5, a6, a7, a8, a9, a10, a11, a12, a13, a14, a15, a16, a17, a18, a19, a20, a21, a22, a23, a24, a25, a26, a27, a28, a29, a30, a31, a32, a33, a34, a35, a36, a37, a38, a39] g K) (hop : ∀ K : V → Heap → Prop, K v g → runOp E md o.op s h K := by exact fun _ => id) (hg : o.gd = none := by rfl) (hs : putT s o.dst v = [a0, a1, a2, a3, a4, a5, a6, a7, a8, a9, a10, a11, a12, a13, a14, a15, a16, a17, a18, a19, a20, a21, a22, a23, a24, a25, a26, a27, a28, a29, a30, a31, a32, a33, a34, a35, a36, a37, a38, a39] := by rfl) : yag E md (o :: os) s h K := ybe hg hop hs hn
theorem yla {E : Env} {md : Go.FuncId → Sb.Mode} {o : ROp} {os : List ROp} {s : List V} {h g : Heap} {v : V} {K : List V → Heap → Prop} {a0 a1 a2 a3 a4 a5 a6 a7 a8 a9 a10 a11 a12 a13 a14 a15 a16 a17 a18 a19 a20 a21 a22 a23 a24 a25 a26 a27 a28 a29 a30 a31 a32 a33 a34 a35 a36 a37 a38 a39 : V} {t : Go.Tmp} {w : Bool} (hn : yag E md os [a0, a1, a2, a3, a4, a5, a6, a7, a8, a9, a10, a11, a12, a13, a14, a15, a16, a17, a18, a19, a20, a21, a22, a23, a24, a25, a26, a27, a28, a29, a30, a31, a32, a33, a34, a35, a36, a37, a38, a39] g K) (hop : ∀ K : V → Heap → Prop, K v g → runOp E md o.op s h K := by exact fun _ => id) (hg : o.gd = some (t, w) := by rfl) (hb : getT s t = .bool w := by rfl) (hs : putT s o.dst v = [a0, a1, a2, a3, a4, a5, a6, a7, a8, a9, a10, a11, a12, a13, a14, a15, a16, a17, a18, a19, a20, a21, a22, a23, a24, a25, a26, a27, a28, a29, a30, a31, a32, a33, a34, a35, a36, a37, a38, a39] := by rfl) : yag E md (o :: os) s h K := yes hg hb hop hs hn
def eqI (u w : Bs8) (k : Nat) (s : List V) (h : Heap) : Prop :=
 ∃ (i : Nat) (z : Int), ((i + k = u.length ∧ z = i) ∧ u.take i = w.take i ∧ h = []) ∧ s.length = 27 ∧ s.getD 0 und = und ∧ s.getD 1 und = .lst 1 (bv u) ∧ s.getD 2 und = .lst 1 (bv w) ∧ s.getD 13 und = .int .i64 (bv u).length ∧ s.getD 14 und = .int .i64 z
theorem eqI_lit {u w : Bs8} {k : Nat} {s : List V} {h : Heap} (hI : eqI u w k s h) : ∃ (i : Nat) (z : Int) (x : Nat → V), ((i + k = u.length ∧ z = i) ∧ u.take i = w.take i ∧ h = []) ∧
  s = [und, .lst 1 (bv u), .lst 1 (bv w), x 3, x 4, x 5, x 6, x 7, x 8, x 9, x 10, x 11, x 12, .int .i64 (bv u).length, .int .i64 z, x 15, x 16, x 17, x 18, x 19, x 20, x 21, x 22, x 23, x 24, x 25, x 26] := by
 obtain ⟨i, z, hF, hl, e0, e1, e2, e13, e14⟩ := hI
 refine ⟨i, z, fun n => s.getD n und, hF, (ybd hl).trans ?_⟩
 simp only [List.range, List.range.loop, List.map_cons, List.map_nil]
 rw [e0, e1, e2, e13, e14]
theorem ynv (h : Heap) (l : Bs8) (hl : l.length ≤ 2 ^ 62) : ydn envQ 9 49 (.str l) h = some (.sl h.length 0 1 l.length l.length l.length, Sb.push h (.cells 5 (bv l))) := by
 show (if (1 : Nat) = 1 ∧ l.length ≤ 2 ^ 62 then _ else _) = _
 rw [if_pos ⟨rfl, hl⟩]; rfl
theorem bv_inj : ∀ {a b : UInt8}, (a.toNat : Int) = b.toNat → a = b := fun {a b} h => by
 have : a.toNat = b.toNat := by omega
 exact UInt8.toNat_inj.1 this
set_option maxHeartbeats 4000000 in
theorem yyq (h : Heap) (u w : Bs8) (hu : u.length ≤ 2 ^ 40) (hw : w.length ≤ 2 ^ 40) : Has envQ .own 30 [.lst 1 (bv u), .lst 1 (bv w)] h (.val (.bool (decide (u = w))) h) := by
 suffices hz : ∃ v, Has envQ .own 30 [.lst 1 (bv u), .lst 1 (bv w)] h (.val v h) ∧ v = .bool (decide (u = w)) by
  obtain ⟨v, h1, rfl⟩ := hz; exact h1
 refine HasP.ownE (a := [.lst 1 (bv u), .lst 1 (bv w)]) (d := fn30) rfl rfl rfl (jT rfl) ?_
 have el : (bv u).length = u.length := ycq u
 have ew : (bv w).length = w.length := ycq w
 refine jW ?_
 refine jR _ ?_
 refine yax ?_
 refine jW ?_
 by_cases hl : u.length = w.length
 case neg =>
  refine jR _ ?_
  iterate 4 (refine yax ?_)
  refine yax ?_ (fun K hK => jI (fun q => absurd (by omega) hl) (fun _ => hK))
  refine jW ?_
  refine jR _ ?_
  refine yax ?_
  refine jW ?_
  apply jH
  exact ⟨rfl, _, rfl, jO _, by show V.bool false = _; rw [decide_eq_false (fun q => hl (congrArg List.length q))]⟩
 refine jR _ ?_
 iterate 4 (refine yax ?_)
 refine yax ?_ (fun K hK => jI (fun _ => hK) (fun q => absurd (by omega) q))
 refine jW ?_
 refine jR _ ?_
 iterate 3 (refine yax ?_)
 refine jW ?_
 refine RunP.loop (eqI u w) ?_ u.length ⟨0, _, ⟨⟨by omega, rfl⟩, rfl, rfl⟩, rfl, rfl, rfl, rfl, rfl, rfl⟩
 intro k st g hI
 obtain ⟨i, z, x, ⟨⟨hik, hz⟩, htk, rfl⟩, rfl⟩ := eqI_lit hI
 clear hI
 subst hz
 refine jW ?_
 apply jB
 refine jI (fun hlt => ?_) (fun hge => ?_)
 case' refine_2 =>
  refine jW ?_
  refine jR _ ?_
  refine yax ?_
  refine jW ?_
  apply jH
  have hi : i = u.length := by omega
  refine ⟨rfl, _, rfl, jO _, ?_⟩
  show V.bool true = _
  rw [decide_eq_true]
  rw [hi, List.take_length, hl, List.take_length] at htk
  exact htk
 obtain ⟨a, ha⟩ : ∃ a, u[i]? = some a := ⟨_, List.getElem?_eq_getElem (by omega)⟩
 obtain ⟨b, hb⟩ : ∃ b, w[i]? = some b := ⟨_, List.getElem?_eq_getElem (by omega)⟩
 refine jW ?_
 refine jR _ ?_
 iterate 2 (refine yax ?_)
 refine jW ?_
 refine RunP.drawnR _ (by decide +kernel) (fun _ => rfl) ?_
 refine yfi rfl (fun _ => id) (by decide +kernel) rfl ?_
 refine yfi rfl (fun _ => id) (by decide +kernel) rfl ?_
 refine yfi rfl (fun K hK => jI (by omega) (jI rfl (Exists.intro (V.int .u8 a.toNat) (jI (by simp [bv, ha]) hK)))) (by decide +kernel) rfl ?_
 refine ysx rfl (fun _ => id) (by decide +kernel) rfl ?_
 refine yfi rfl (fun _ => id) (by decide +kernel) rfl ?_
 refine yfi rfl (fun _ => id) (by decide +kernel) rfl ?_
 refine yfi rfl (fun K hK => jI (by omega) (jI rfl (Exists.intro (V.int .u8 b.toNat) (jI (by simp [bv, hb]) hK)))) (by decide +kernel) rfl ?_
 refine ysx rfl (fun _ => id) (by decide +kernel) rfl ?_
 by_cases hab : a = b
 case neg =>
  refine yfi rfl (fun K hK => jI (fun q => absurd (bv_inj q) hab) (fun _ => hK)) (by decide +kernel) rfl ?_
  refine jW ?_
  refine jR _ ?_
  refine yax ?_
  refine jW ?_
  apply jH
  refine ⟨rfl, _, rfl, jO _, ?_⟩
  show V.bool false = _
  rw [decide_eq_false]
  rintro rfl
  rw [ha] at hb
  exact hab (Option.some.inj hb)
 subst hab
 refine yfi rfl (fun K hK => jI (fun _ => hK) (fun q => absurd rfl q)) (by decide +kernel) rfl ?_
 refine jW ?_
 refine jR _ ?_
 iterate 2 (refine yax ?_)
 refine ⟨k - 1, by omega, i + 1, _, ⟨⟨by omega, ycp i (by omega)⟩, ?_, rfl⟩, rfl, rfl, rfl, rfl, rfl, rfl⟩
 rw [List.take_add_one, List.take_add_one, htk, ha, hb]
noncomputable def damP (s : Bs8) : Nat := if s.length < 7 ∨ s.take 3 ≠ [115, 98, 49] then 1 else if sealB (s.take (s.length - 4)) ≠ s then 2 else if (openP s).isSome then 0 else 3
noncomputable def dmgV (s : Bs8) : V := if 60000 < s.length then .tup [.int .i64 0, .int .i64 5] else .tup [.int .i64 (damP s), .int .i64 0]
set_option maxHeartbeats 4000000 in
theorem ysy (h : Heap) (s : Bs8) (hs : s.length ≤ 2 ^ 50) : Has envQ .own 11 [.str s] h (.val (dmgV s) h) := by
 suffices hz : ∃ v, Has envQ .own 11 [.str s] h (.val v h) ∧ v = dmgV s by
  obtain ⟨v, h1, rfl⟩ := hz; exact h1
 refine HasP.ownE (a := [.str s]) (d := fn11) rfl rfl rfl (jT rfl) ?_
 unfold dmgV damP
 refine jW ?_
 refine jR _ ?_
 iterate 2 (refine ybc ?_)
 refine jW ?_
 refine jR _ ?_
 iterate 3 (refine ybc ?_)
 refine jW ?_
 by_cases hb : 60000 < s.length
 ·rw [if_pos hb]
  refine jR _ ?_
  refine ybc ?_
  refine ybc ?_ (fun K hK => jI (fun _ => hK) (fun q => absurd q (by omega)))
  refine ybc ?_
  refine jW ?_
  refine jR _ ?_
  iterate 2 (refine ybc ?_)
  refine jW ?_
  apply jH
  exact ⟨rfl, _, rfl, jO _, rfl⟩
 rw [if_neg hb]
 refine jR _ ?_
 refine ybc ?_
 refine ybc ?_ (fun K hK => jI (fun q => absurd q (by omega)) (fun _ => hK))
 refine ybc ?_
 refine jW ?_
 by_cases h7 : s.length < 7
 ·rw [if_pos (.inl h7)]
  refine jR _ ?_
  refine ybc ?_
  refine ybc ?_ (fun K hK => jI (fun _ => hK) (fun q => absurd q (by omega)))
  refine ybc ?_
  iterate 3 (refine yyp ?_)
  iterate 2 (refine ybc ?_)
  refine jW ?_
  refine jR _ ?_
  iterate 2 (refine ybc ?_)
  refine jW ?_
  apply jH
  exact ⟨rfl, _, rfl, jO _, rfl⟩
 refine jR _ ?_
 refine ybc ?_
 refine ybc ?_ (fun K hK => jI (fun q => absurd q (by omega)) (fun _ => hK))
 refine ybc ?_
 refine yla ?_
 refine yla ?_ (fun K hK => jI (by decide) (jI (jI (Nat.zero_le _) (show 3 ≤ s.length by omega)) hK))
 by_cases hm : s.take 3 = [115, 98, 49]
 case neg =>
  rw [if_pos (.inr hm)]
  refine yla ?_ (fun K hK => jI (fun q => absurd q hm) (fun _ => hK))
  iterate 2 (refine ybc ?_)
  refine jW ?_
  refine jR _ ?_
  iterate 2 (refine ybc ?_)
  refine jW ?_
  apply jH
  exact ⟨rfl, _, rfl, jO _, rfl⟩
 rw [if_neg (fun q => q.elim h7 (fun q => q hm))]
 refine yla ?_ (fun K hK => jI (fun _ => hK) (fun q => absurd hm q))
 iterate 2 (refine ybc ?_)
 have ew : (IntKind.i64.wrap ((s.length : Int) - 4)).toNat = s.length - 4 := by rw [wrapS (by omega) (by omega)]; omega
 have hsl : V.str ((s.take (IntKind.i64.wrap ((s.length : Int) - 4)).toNat).drop 0) = .str (s.take (s.length - 4)) := by rw [ew]; rfl
 obtain ⟨u, hu⟩ : ∃ u, u = s.take (s.length - 4) := ⟨_, rfl⟩
 rw [← hu] at hsl ⊢
 have hul : u.length = s.length - 4 := by rw [hu]; simp
 have hse := ysk (g := Sb.push [] (.cells 5 (bv u))) (u := u) (v := .sl 0 0 1 u.length u.length u.length) (.inr ⟨0, by rw [ycq, Nat.mul_one], by rw [yds]; rfl, fun q => absurd (congrArg List.length q) (by rw [ycq]; simp only [List.length_nil]; omega)⟩) (fun q => by rw [q] at hul; simp at hul; omega) (by omega)
 have hsl4 : (sealB u).length = s.length := by unfold sealB; simp [sumL]; omega
 have heq : Has envQ .own 30 [.sl 1 0 1 (sealB u).length (sealB u).length (sealB u).length, .sl 2 0 1 s.length s.length s.length] [.cells 5 (bv u), .cells 5 (bv (sealB u)), .cells 5 (bv s)] (.val (.bool (decide (sealB u = s))) [.cells 5 (bv u), .cells 5 (bv (sealB u)), .cells 5 (bv s)]) :=
  Has.thaw (h0 := []) (yaf (ynj (n := 10) (l := sealB u) (.inr ⟨1, by rw [ycq, Nat.mul_one], by rw [yds]; rfl, fun q => absurd (congrArg List.length q) (by rw [ycq]; simp only [List.length_nil]; omega)⟩) (rfl : envQ.ty 5 = some ty5) rfl rfl (fun q => by rw [q] at hsl4; simp at hsl4; omega)) (yaf (ynj (n := 10) (l := s) (.inr ⟨2, by rw [ycq, Nat.mul_one], by rw [yds]; rfl, fun q => absurd (congrArg List.length q) (by rw [ycq]; simp only [List.length_nil]; omega)⟩) (rfl : envQ.ty 5 = some ty5) rfl rfl (fun q => by rw [q] at h7; simp at h7)) yan)) rfl rfl (yyq [] _ _ (by omega) (by omega))
 refine jW ?_
 refine jR _ ?_
 iterate 3 (refine ybc ?_)
 refine ybc (v := .str u) (g := []) ?_ (fun K hK => jI (by rw [wrapS (by omega) (by omega)]; omega) (jI (jI (Nat.zero_le _) (by rw [ew]; omega)) (by rw [hsl]; exact hK)))
 refine ybc ?_ (fun K hK => yep (ynv _ _ (by omega)) hK)
 refine ybc ?_ (fun K hK => CallK.of hse hK)
 refine ybc ?_ (fun K hK => yep (ynv _ _ (by omega)) hK)
 refine ybc ?_
 refine ybc ?_ (fun K hK => yep (ynv _ _ (by omega)) hK)
 refine ybc ?_ (fun K hK => CallK.of heq hK)
 by_cases hsd : sealB u = s
 case neg =>
  rw [if_pos hsd, decide_eq_false hsd]
  iterate 2 (refine ybc ?_)
  refine jW ?_
  refine jR _ ?_
  iterate 2 (refine ybc ?_)
  refine jW ?_
  apply jH
  exact ⟨rfl, _, rfl, jO _, rfl⟩
 rw [if_neg (fun q => q hsd), decide_eq_true hsd]
 iterate 2 (refine ybc ?_)
 refine jW ?_
 obtain ⟨c, ho, hoc⟩ := ysw (s := s) (by omega) (by omega) [.cells 5 (bv u), .cells 5 (bv (sealB u)), .cells 5 (bv s)]
 refine jR _ ?_
 refine ybc ?_
 refine ybc ?_ (fun K hK => CallK.of ho hK)
 iterate 4 (refine ybc ?_)
 refine ybc ?_ (fun K hK => yab (ycw (E := envQ) (t := 25) (n := 1) (v := codV c) rfl rfl rfl rfl (yeu (ydx c))) hK)
 refine ybc ?_
 refine jW ?_
 cases hop : openP s with
 | some c' =>
  refine jR _ ?_
  refine ybc ?_
  refine ybc ?_ (fun K hK => jI (fun _ => hK) (fun q => absurd rfl q))
  refine jW ?_
  refine jR _ ?_
  iterate 2 (refine ybc ?_)
  refine jW ?_
  apply jH
  exact ⟨rfl, _, rfl, jO _, rfl⟩
 | none =>
  refine jR _ ?_
  refine ybc ?_
  refine ybc ?_ (fun K hK => jI (fun q => absurd q (by decide)) (fun _ => hK))
  refine jW ?_
  refine jR _ ?_
  iterate 2 (refine ybc ?_)
  refine jW ?_
  apply jH
  exact ⟨rfl, _, rfl, jO _, rfl⟩
noncomputable def unpV (s : Bs8) : V := if s.length ≤ 60000 ∧ damP s = 0 then .tup [codV ((openP s).getD none), .int .i64 0] else .tup [codV none, .int .i64 31]
theorem dam0 {s : Bs8} (h : damP s = 0) : 7 ≤ s.length ∧ s.take 3 = [115, 98, 49] ∧ sealB (s.take (s.length - 4)) = s ∧ ∃ c, openP s = some c := by
 unfold damP at h
 split at h
 ·cases h
 ·rename_i h1
  split at h
  ·cases h
  ·rename_i h2
   split at h
   ·rename_i h3
    refine ⟨Nat.le_of_not_lt fun q => h1 (.inl q), Classical.byContradiction fun q => h1 (.inr q), Classical.byContradiction h2, Option.isSome_iff_exists.1 h3⟩
   ·cases h
set_option maxHeartbeats 4000000 in
theorem yyr (h : Heap) (s : Bs8) (hs : s.length ≤ 2 ^ 50) : Has envQ .own 10 [.str s] h (.val (unpV s) h) := by
 suffices hz : ∃ v, Has envQ .own 10 [.str s] h (.val v h) ∧ v = unpV s by
  obtain ⟨v, h1, rfl⟩ := hz; exact h1
 refine HasP.ownE (a := [.str s]) (d := fn10) rfl rfl rfl (jT rfl) ?_
 have hd := ysy [.cells 25 [.nils]] s hs
 unfold dmgV at hd
 refine jW ?_
 refine jR _ ?_
 refine yax (v := .ptr 0 0 1) (g := [.cells 25 [.nils]]) ?_
 refine yax ?_
 refine jW ?_
 refine jR _ ?_
 refine yax ?_
 by_cases hb : 60000 < s.length
 ·rw [if_pos hb] at hd
  refine yax ?_ (fun K hK => CallK.of hd hK)
  iterate 5 (refine yax ?_)
  refine jW ?_
  refine jR _ ?_
  refine yax ?_
  refine yax ?_ (fun K hK => jI (fun q => absurd q (by decide)) (fun _ => hK))
  refine yax ?_
  iterate 2 (refine yyo ?_)
  refine yax ?_
  refine jW ?_
  refine jR _ ?_
  refine yax (v := .agg [.nils]) (g := [.cells 25 [.nils]]) ?_
  refine yax (v := und) (g := [.cells 25 [.nils]]) ?_
  refine yax ?_
  refine jW ?_
  apply jH
  exact ⟨rfl, _, rfl, jO _, by unfold unpV; rw [if_neg (fun q => by omega)]; rfl⟩
 rw [if_neg hb] at hd
 refine yax ?_ (fun K hK => CallK.of hd hK)
 by_cases hz : damP s = 0
 case neg =>
  iterate 5 (refine yax ?_)
  refine jW ?_
  refine jR _ ?_
  refine yax ?_
  refine yax ?_ (fun K hK => jI (fun _ => hK) (fun q => absurd rfl q))
  refine yax ?_
  refine ykz ?_
  refine ykz ?_ (fun K hK => jI (fun q => absurd (by omega) hz) (fun _ => hK))
  refine yax ?_
  refine jW ?_
  refine jR _ ?_
  refine yax (v := .agg [.nils]) (g := [.cells 25 [.nils]]) ?_
  refine yax (v := und) (g := [.cells 25 [.nils]]) ?_
  refine yax ?_
  refine jW ?_
  apply jH
  exact ⟨rfl, _, rfl, jO _, by unfold unpV; rw [if_neg (fun q => hz q.2)]; rfl⟩
 obtain ⟨h7, _, _, c', hop⟩ := dam0 hz
 iterate 5 (refine yax ?_)
 refine jW ?_
 refine jR _ ?_
 refine yax ?_
 refine yax ?_ (fun K hK => jI (fun _ => hK) (fun q => absurd rfl q))
 refine yax ?_
 refine ykz ?_
 refine ykz ?_ (fun K hK => jI (fun _ => hK) (fun q => absurd (by rw [hz]; rfl) q))
 refine yax ?_
 refine jW ?_
 obtain ⟨c, ho, hoc⟩ := ysw (s := s) h7 (by omega) [.cells 25 [.nils]]
 obtain rfl := hoc c' hop
 rw [hop] at ho
 refine jR _ ?_
 refine yax ?_
 refine yax ?_ (fun K hK => CallK.of ho hK)
 iterate 4 (refine yax ?_)
 refine yax ?_ (fun K hK => yab (ycw (E := envQ) (t := 25) (n := 1) (v := codV c) rfl rfl rfl rfl (yeu (ydx c))) hK)
 refine yax ?_
 refine jW ?_
 refine jR _ ?_
 refine yax (v := codV c) (g := [.cells 25 [.nils], .cells 25 [optL 5 fncV c]]) ?_
 refine yax ?_ (fun K hK => yab (ybw (E := envQ) (t := 25) (n := 1) (v := codV c) (cs := [.nils]) rfl rfl rfl rfl (yeu (ydx c)) (by decide)) hK)
 refine yax ?_
 refine jW ?_
 apply jH
 refine ⟨rfl, .tup [codV c, .int .i64 0], ?_, rfl, by unfold unpV; rw [if_pos ⟨by omega, hz⟩, hop]; rfl⟩
 show (([.agg [optL 5 fncV c], .int .i64 0] : List V).mapM (Sb.fz envQ _ 11)).map V.tup = _
 rw [yaf (fz_agg (n := 9) (ydx c)) (yaf rfl yan)]; rfl
end Go.Proofs.YtekmafoicobphaaGreatDoor
