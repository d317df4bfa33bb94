/- The law PackSealed. -/
import Derived.Test.YtekmafoicobphaaGreatDoorSb13Dmg
import Derived.Test.YtekmafoicobphaaGreatDoorSbPk7
import Derived.Test.YtekmafoicobphaaGreatDoorSbRowsP
import Derived.Test.YtekmafoicobphaaGreatDoorSbArgL
set_option linter.unusedVariables false
set_option linter.unusedSimpArgs false
namespace Go.Proofs.YtekmafoicobphaaGreatDoor
open Go.Sb
set_option maxRecDepth 100000
theorem ysf {E : Env} {md : Go.FuncId → Sb.Mode} {o : ROp} {os : List ROp} {s : List V} {h : Heap} {K : List V → Heap → Prop} {a0 a1 a2 a3 a4 a5 a6 a7 a8 a9 a10 a11 a12 a13 a14 a15 a16 a17 a18 a19 a20 a21 a22 a23 a24 a25 a26 a27 a28 a29 a30 a31 a32 a33 a34 a35 a36 a37 a38 a39 a40 a41 a42 a43 a44 a45 a46 a47 a48 a49 a50 a51 a52 a53 a54 a55 a56 a57 a58 a59 a60 a61 a62 a63 a64 a65 a66 a67 : V} {t : Go.Tmp} {w b : Bool} (hn : yaf E md os [a0, a1, a2, a3, a4, a5, a6, a7, a8, a9, a10, a11, a12, a13, a14, a15, a16, a17, a18, a19, a20, a21, a22, a23, a24, a25, a26, a27, a28, a29, a30, a31, a32, a33, a34, a35, a36, a37, a38, a39, a40, a41, a42, a43, a44, a45, a46, a47, a48, a49, a50, a51, a52, a53, a54, a55, a56, a57, a58, a59, a60, a61, a62, a63, a64, a65, a66, a67] h K) (hg : o.gd = some (t, w) := by rfl) (hb : getT s t = .bool b := by rfl) (hw : b = !w := by rfl) (hs : putT s o.dst und = [a0, a1, a2, a3, a4, a5, a6, a7, a8, a9, a10, a11, a12, a13, a14, a15, a16, a17, a18, a19, a20, a21, a22, a23, a24, a25, a26, a27, a28, a29, a30, a31, a32, a33, a34, a35, a36, a37, a38, a39, a40, a41, a42, a43, a44, a45, a46, a47, a48, a49, a50, a51, a52, a53, a54, a55, a56, a57, a58, a59, a60, a61, a62, a63, a64, a65, a66, a67] := by rfl) : yaf E md (o :: os) s h K := yev hg hb hw hs hn
theorem yao {E : Env} {md : Go.FuncId → Sb.Mode} {o : ROp} {os : List ROp} {s : List V} {h g : Heap} {v : V} {K : List V → Heap → Prop} {a0 a1 a2 a3 a4 a5 a6 a7 a8 a9 a10 a11 a12 a13 a14 a15 a16 a17 a18 a19 a20 a21 a22 a23 a24 a25 a26 a27 a28 a29 a30 a31 a32 a33 a34 a35 a36 a37 a38 a39 a40 a41 a42 a43 a44 a45 a46 a47 a48 a49 a50 a51 a52 a53 a54 a55 a56 a57 a58 a59 a60 a61 a62 a63 a64 a65 a66 a67 : V} (hn : yaf E md os [a0, a1, a2, a3, a4, a5, a6, a7, a8, a9, a10, a11, a12, a13, a14, a15, a16, a17, a18, a19, a20, a21, a22, a23, a24, a25, a26, a27, a28, a29, a30, a31, a32, a33, a34, a35, a36, a37, a38, a39, a40, a41, a42, a43, a44, a45, a46, a47, a48, a49, a50, a51, a52, a53, a54, a55, a56, a57, a58, a59, a60, a61, a62, a63, a64, a65, a66, a67] g K) (hop : ∀ K : V → Heap → Prop, K v g → runOp E md o.op s h K := by exact fun _ => id) (hg : o.gd = none := by rfl) (hs : putT s o.dst v = [a0, a1, a2, a3, a4, a5, a6, a7, a8, a9, a10, a11, a12, a13, a14, a15, a16, a17, a18, a19, a20, a21, a22, a23, a24, a25, a26, a27, a28, a29, a30, a31, a32, a33, a34, a35, a36, a37, a38, a39, a40, a41, a42, a43, a44, a45, a46, a47, a48, a49, a50, a51, a52, a53, a54, a55, a56, a57, a58, a59, a60, a61, a62, a63, a64, a65, a66, a67] := by rfl) : yaf E md (o :: os) s h K := yba hg hop hs hn
theorem yby {E : Env} {md : Go.FuncId → Sb.Mode} {o : ROp} {os : List ROp} {s : List V} {h g : Heap} {v : V} {K : List V → Heap → Prop} {a0 a1 a2 a3 a4 a5 a6 a7 a8 a9 a10 a11 a12 a13 a14 a15 a16 a17 a18 a19 a20 a21 a22 a23 a24 a25 a26 a27 a28 a29 a30 a31 a32 a33 a34 a35 a36 a37 a38 a39 a40 a41 a42 a43 a44 a45 a46 a47 a48 a49 a50 a51 a52 a53 a54 a55 a56 a57 a58 a59 a60 a61 a62 a63 a64 a65 a66 a67 : V} {t : Go.Tmp} {w : Bool} (hn : yaf E md os [a0, a1, a2, a3, a4, a5, a6, a7, a8, a9, a10, a11, a12, a13, a14, a15, a16, a17, a18, a19, a20, a21, a22, a23, a24, a25, a26, a27, a28, a29, a30, a31, a32, a33, a34, a35, a36, a37, a38, a39, a40, a41, a42, a43, a44, a45, a46, a47, a48, a49, a50, a51, a52, a53, a54, a55, a56, a57, a58, a59, a60, a61, a62, a63, a64, a65, a66, a67] g K) (hop : ∀ K : V → Heap → Prop, K v g → runOp E md o.op s h K := by exact fun _ => id) (hg : o.gd = some (t, w) := by rfl) (hb : getT s t = .bool w := by rfl) (hs : putT s o.dst v = [a0, a1, a2, a3, a4, a5, a6, a7, a8, a9, a10, a11, a12, a13, a14, a15, a16, a17, a18, a19, a20, a21, a22, a23, a24, a25, a26, a27, a28, a29, a30, a31, a32, a33, a34, a35, a36, a37, a38, a39, a40, a41, a42, a43, a44, a45, a46, a47, a48, a49, a50, a51, a52, a53, a54, a55, a56, a57, a58, a59, a60, a61, a62, a63, a64, a65, a66, a67] := by rfl) : yaf E md (o :: os) s h K := yeu hg hb hop hs hn
theorem ysg {s : Bs8} {c : Cod} (h : openP s = some c) : (∃ j, pCod ((s.take (s.length - 4)).drop 3) 0 = some (c, j) ∧ j = ((s.take (s.length - 4)).drop 3).length) ∧ ydc c = true ∧ sealB (codPB c) = s := by
 unfold openP at h
 split at h
 ·rename_i c' j hp
  split at h
  ·rename_i hq
   cases h
   exact ⟨⟨j, hp, hq.1⟩, hq.2.1, hq.2.2⟩
  ·cases h
 ·cases h
theorem openP_ok {s : Bs8} {c : Cod} (h : openP s = some c) (hs : s.length ≤ 2 ^ 40) : CodOk c ∧ (codPB c).length ≤ 2 ^ 38 ∨ 2 ^ 30 < s.length := by
 by_cases hl : s.length ≤ 2 ^ 30
 ·left
  obtain ⟨⟨j, hp, _⟩, hv, _⟩ := ysg h
  have hu : ((s.take (s.length - 4)).drop 3).length ≤ s.length := by simp; omega
  obtain ⟨hok, hpt⟩ := yrz (yry hp (Nat.zero_le _)) (by omega)
  refine ⟨hok, ?_⟩
  have := yrp (ykb hv) (fun f hf x hx => by have := ykc hok f hf x hx; omega)
  omega
 ·right; omega
theorem ysh (u : Bs8) : (sealB u).length = u.length + 4 := by unfold sealB; simp [sumL]
theorem yxv {u : Bs8} (h3 : (sealB u).take 3 = [115, 98, 49]) (hl : 3 ≤ u.length) : damP (sealB u) = if (openP (sealB u)).isSome then 0 else 3 := by
 have e := ysh u
 unfold damP
 rw [if_neg (fun q => q.elim (by omega) (fun q => q h3)), if_neg]
 rw [e, Nat.add_sub_cancel]
 have : (sealB u).take u.length = u := by unfold sealB; rw [List.take_append_of_le_length (Nat.le_refl _), List.take_length]
 rw [this]; exact fun q => q rfl
set_option maxHeartbeats 8000000 in
theorem yxw (v0 : V) (hu : ∃ s, v0 = .str s ∧ s.length ≤ reachBytes) : Has envQ .own 7 [v0] [] (.val (.bool true) []) := by
 obtain ⟨bs, rfl, hbl⟩ := hu
 have hbl : bs.length ≤ 2 ^ 50 := Nat.le_trans hbl (by decide)
 refine HasP.own (a := [.str bs]) (d := fn7) rfl rfl rfl (jT rfl) ?_
 obtain ⟨m, hm⟩ : ∃ m, m = min bs.length 1000 := ⟨_, rfl⟩
 have hmin : (if (1000 : Int) < (bs.length : Int) then (1000 : Int) else (bs.length : Int)) = (m : Int) := by split <;> omega
 obtain ⟨u, hu⟩ : ∃ u, u = [115, 98, 49] ++ (bs.take m).drop 0 := ⟨_, rfl⟩
 have hul : u.length = 3 + m := by rw [hu]; simp; omega
 have hse := Seal_has [] u (by omega)
 obtain ⟨s, hsd⟩ : ∃ s, s = sealB u := ⟨_, rfl⟩
 have hsl : s.length = 7 + m := by rw [hsd, ysh]; omega
 rw [← hsd] at hse
 have hdam : damP s = if (openP s).isSome then 0 else 3 := by
  rw [hsd]; refine yxv ?_ (by omega)
  rw [hu]; rfl
 have hun := yxp [] s (by omega)
 refine jW ?_
 refine jR _ ?_
 refine yao ?_
 refine jW ?_
 refine jR _ ?_
 iterate 3 (refine yao ?_)
 refine yao (v := .int .i64 (m : Nat)) (g := []) ?_ (fun K hK => show K (V.int .i64 (if (1000 : Int) < (bs.length : Int) then (1000 : Int) else (bs.length : Int))) [] from by rw [hmin]; exact hK)
 refine yao (v := .str ((bs.take m).drop 0)) (g := []) ?_ (fun K hK => jI (by omega) (jI (jI (Nat.zero_le _) (by omega)) hK))
 refine yao (v := .str u) (g := []) ?_ (fun K hK => jI (by simp; omega) (by rw [hu] at hK; exact hK))
 refine yao ?_ (fun K hK => CallK.of hse hK)
 refine yao ?_
 refine jW ?_
 cases hop : openP s with
 | none =>
  rw [hop] at hdam
  have hd3 : damP s = 3 := hdam
  have hdm := ymt [.cells 25 [.nils]] s (by omega)
  unfold dmgV at hdm
  rw [if_neg (by omega), hd3] at hdm
  unfold unpV at hun
  rw [if_neg (fun q => by have := q.2; omega)] at hun
  refine jR _ ?_
  refine yao ?_
  refine yao ?_ (fun K hK => CallK.of hun hK)
  iterate 3 (refine yao ?_)
  refine yao (v := .ptr 0 0 1) (g := [.cells 25 [.nils]]) ?_
  refine yao (v := und) (g := [.cells 25 [.nils]]) ?_
  refine yao ?_
  refine jW ?_
  refine jR _ ?_
  refine yao ?_
  refine yao ?_ (fun K hK => CallK.of hdm hK)
  iterate 5 (refine yao ?_)
  refine jW ?_
  refine jR _ ?_
  refine yao ?_
  refine yao ?_ (fun K hK => jI (fun _ => hK) (fun q => absurd rfl q))
  refine yao ?_
  refine yby ?_
  refine yby ?_ (fun K hK => jI (fun q => absurd q (by decide)) (fun _ => hK))
  refine yby ?_
  iterate 2 (refine ysf ?_)
  refine yby ?_
  iterate 2 (refine yao ?_)
  refine yby ?_
  refine yby ?_ (fun K hK => jI (fun q => absurd q (by decide)) (fun _ => hK))
  iterate 2 (refine yby ?_)
  refine yby ?_ (fun K hK => jI (fun _ => hK) (fun q => absurd rfl q))
  refine yby ?_
  refine yao ?_
  refine jW ?_
  refine jR _ ?_
  refine yao ?_
  refine yao ?_ (fun K hK => jI (fun q => absurd q (by decide)) (fun _ => hK))
  refine jW ?_
  refine jR _ ?_
  refine yao ?_
  refine yao ?_ (fun K hK => jI (fun _ => hK) (fun q => absurd rfl q))
  refine yao ?_
  refine yby ?_ (fun K hK => CallK.of (ypn _) hK)
  iterate 2 (refine yao ?_)
  refine jW ?_
  apply jH
  exact ⟨rfl, rfl, jO _⟩
 | some c =>
  rw [hop] at hdam
  have hd0 : damP s = 0 := hdam
  have hdm := ymt [.cells 25 [optL 5 fncV c]] s (by omega)
  unfold dmgV at hdm
  rw [if_neg (by omega), hd0] at hdm
  unfold unpV at hun
  rw [if_pos ⟨by omega, hd0⟩, hop] at hun
  obtain ⟨hok, hpl⟩ := (openP_ok hop (by omega)).resolve_right (by omega)
  obtain ⟨_, hv, hsc⟩ := ysg hop
  have hpk := Pack_has [.cells 25 [optL 5 fncV c]] c hok (fun _ => hpl)
  unfold packV at hpk
  rw [if_pos hv, if_neg (by rw [hsc]; omega), hsc] at hpk
  refine jR _ ?_
  refine yao ?_
  refine yao ?_ (fun K hK => CallK.of hun hK)
  refine yao ?_
  refine yao (v := codV c) (g := []) ?_
  refine yao ?_
  refine yao (v := .ptr 0 0 1) (g := [.cells 25 [.nils]]) ?_
  refine yao ?_ (fun K hK => yac (yda (E := envQ) (t := 25) (n := 1) (h := []) (v := codV c) rfl rfl rfl rfl (yeh (yeb c))) hK)
  refine yao ?_
  refine jW ?_
  refine jR _ ?_
  refine yao ?_
  refine yao ?_ (fun K hK => CallK.of hdm hK)
  iterate 5 (refine yao ?_)
  refine jW ?_
  refine jR _ ?_
  refine yao ?_
  refine yao ?_ (fun K hK => jI (fun _ => hK) (fun q => absurd rfl q))
  refine yao ?_
  refine yby ?_
  refine yby ?_ (fun K hK => jI (fun _ => hK) (fun q => absurd rfl q))
  iterate 2 (refine yby ?_)
  refine yby ?_ (fun K hK => jI (fun _ => hK) (fun q => absurd rfl q))
  refine yby ?_
  iterate 2 (refine yao ?_)
  refine yby ?_
  refine yby ?_ (fun K hK => jI (fun _ => hK) (fun q => absurd rfl q))
  refine yby ?_
  iterate 2 (refine ysf ?_)
  refine yby ?_
  refine yao ?_
  refine jW ?_
  refine jR _ ?_
  refine yao ?_
  refine yao ?_ (fun K hK => jI (fun _ => hK) (fun q => absurd rfl q))
  refine jW ?_
  refine jR _ ?_
  refine yao (v := codV c) (g := [.cells 25 [optL 5 fncV c]]) ?_
  refine yao ?_ (fun K hK => CallK.of hpk hK)
  iterate 5 (refine yao ?_)
  refine jW ?_
  refine jR _ ?_
  refine yao ?_
  refine yao ?_ (fun K hK => jI (fun _ => hK) (fun q => absurd rfl q))
  refine yao ?_
  iterate 2 (refine yby ?_)
  refine yby ?_ (fun K hK => jI (fun _ => hK) (fun q => absurd rfl q))
  iterate 2 (refine yao ?_)
  refine yby ?_ (fun K hK => CallK.of (ypn _) hK)
  iterate 2 (refine yao ?_)
  refine jW ?_
  apply jH
  exact ⟨rfl, rfl, jO _⟩
end Go.Proofs.YtekmafoicobphaaGreatDoor

/- PROVED: for whatever arguments, seedbedlaw13.PackSealed returns true without a panic, and the arguments read afterwards ars they read before. CONDITIONS: those of the given card alone (the listed tables of the library read at the call ars the program's text lays them: tied by the given tie). -/

namespace Go.Proofs.YtekmafoicobphaaGreatDoor
open Go Go.Sb Go.ChangeShapes Go.WideShapes Go.ChangeAt Go.WideMaps Go.WideElems Go.RowKit
set_option maxRecDepth 100000
theorem yxx (us : List V) (h : yhm reachBytes envQ 8 [9] us) : Has envQ .own 7 us [] (.val (.bool true) []) := by
 rcases us with _ | ⟨u0, _ | ⟨x, us⟩⟩
 ·exact (show False from h).elim
 ·have h0 : ShpAL reachBytes envQ (8) 9 u0 := h.1
  exact yxw u0 (yxu h0)
 ·exact (show False from h.2).elim
theorem yxy (os : Os) (args : Array Value) : laidMetH Tryz.prog Rows.packSealedRow.laid ((World.laidAll Tryz.prog os Rows.packSealedRow.laid).forCall (fun _ _ => 0) ⟨#[], args, []⟩).memory := by
 rw [MakeChecks.laidMetH_plain _ _ _ (by kernel_rfl)]
 exact laidMet_laidAll _ (by kernel_rfl) (by kernel_rfl)
theorem yxz (os : Os) (started : os.Started) (H : Type) (enc : TypeId × Value → H) :
  ReturnsInHanded {} Tryz.checked os 7 .any (fun w args => (Rows.packSealedSpec.pre enc Tryz.prog Tryz.f7 [] false w args ∧ laidMetH Tryz.prog Rows.packSealedRow.laid w) ∧ sizedMet enc Tryz.prog Tryz.f7 (OpenSpec.ofChange Rows.packSealedSpec) false w args)
   (Rows.packSealedSpec.post enc Tryz.prog Tryz.f7 false true false false) := by
 refine yux (C := Tryz.checked) (X := fun w _ => laidMetH Tryz.prog Rows.packSealedRow.laid w) (fun _ _ _ hh h => h.of_heap hh) own started (by kernel_rfl) Tryz.func7
  (ChangeSpec.witness_shaped (enc := enc) (C := Tryz.checked) (os := os) (X := fun w _ => laidMetH Tryz.prog Rows.packSealedRow.laid w) false (World.laidAll Tryz.prog os Rows.packSealedRow.laid) #[.string ⟨#[]⟩] 8 (World.laidAll_os _ _ _) (World.shaped_of_ZipB (by kernel_rfl) (by kernel_rfl)) (by kernel_rfl) (by kernel_rfl) (by kernel_rfl) (yxy os _)) ?_
 intro W base args ds gs before hval hW hwt hsh hL
 rw [MakeChecks.laidMetH_plain _ _ _ (by kernel_rfl)] at hL
 obtain ⟨ps, hL, _, _⟩ := hL
 refine yuw (fn := Tryz.f7) (n := 8) (rt := 4) envQ_ok laidOut (by kernel_rfl) (by kernel_rfl) (by kernel_rfl) Tryz.underlying4 rfl ?_ ?_ (gl_of hsh hL (by simp [Rows.packSealedRow])) hval hW hwt
 ·intro ds hd
  rw [Tryz.params7] at hd
  match ds, hd with
  | [d0], _ => exact ⟨rfl, rfl, rfl⟩
 ·rw [Tryz.params7]
  exact yxx
theorem yya : Rows.PackSealedSaid :=
 OpenClaim.holds_of_wide 7 Tryz.f7 rfl rfl rfl rfl rfl rfl rfl ⟨rfl, rfl, rfl, rfl, rfl⟩ rfl rfl rfl rfl rfl (by kernel_rfl) Tryz.func7 (by kernel_rfl)
  (jT (by kernel_rfl)) (by unfold Func.isWrapper; first | (rw [if_pos (by decide +kernel)]; kernel_rfl) | (rw [if_neg (by decide +kernel)]; exact ⟨rfl, rfl⟩))
  (fun os started H enc _ => yxz os started H enc)
theorem packSealed_card : Rows.PackSealedCardSaid :=
 Claim7.holds_tied_plain_at .later [] [.data, .listed, .data, .pinned] true (true, "d8eb96f3ccea2aeb7fd989a42a9802fd4731d57f4d8e1844e4711a23ec0d74dc") true
  yya (fun _ h => by cases h) (by kernel_rfl) (fun _ h => by cases h) packSealed_row_tie rfl ⟨rfl, rfl⟩ (by kernel_rfl) rfl
  (fun f fn hf hfn => by
   obtain rfl : f = 7 := Option.some.inj ((show Tryz.prog.funcNamed "seedbed/seedbedlaw13.PackSealed" = some 7 by kernel_rfl).symm.trans hf) |>.symm
   obtain rfl : fn = Tryz.f7 := (Option.some.inj (Tryz.func7.symm.trans hfn)).symm
   exact ⟨by kernel_rfl, fun j t ht => by
    rw [Tryz.params7] at ht
    have hm : t ∈ [9] := by simpa using Array.mem_of_getElem? ht
    have hall : ([9].all fun u => !Tryz.prog.wantsStandIn u) = true := by kernel_rfl
    exact (show Tryz.prog.wantsStandIn t = false by simpa using List.all_eq_true.1 hall t hm)⟩)
  (by kernel_rfl)
#print axioms packSealed_card
end Go.Proofs.YtekmafoicobphaaGreatDoor
