/- The surroundings in which eval.Read, Show and Valid are told. -/
import Derived.Test.YtkjhnpmgieplgaaGreatDoorSbRead
import Derived.Test.YtkjhnpmgieplgaaGreatDoorSbShp07
import Derived.Test.YtkjhnpmgieplgaaGreatDoorSbRefRead
set_option linter.unusedVariables false
set_option linter.unusedSimpArgs false
namespace Go.Proofs.YtkjhnpmgieplgaaGreatDoor
open Go.Sb
set_option maxRecDepth 100000

open Go.ChangeShapes Go.WideShapes Go.ChangeAt Go.WideMaps Go.WideElems Go.RowKit
def tellShow (vs : List V) : Option V := match vs with
  | [.agg [.int .i64 k, .int .i64 n, .str s]] => if s.length ≤ 9223372036854775807 then some (showV k n s) else none
  | _ => none
def tellValid (vs : List V) : Option V := match vs with
  | [.agg [.int .i64 k, .int .i64 n, .str s]] => if s.length ≤ 9223372036854775807 then some (.bool (decide (ValidP k n s))) else none
  | _ => none
noncomputable def envR1 : Env := envQ.told 15 tellShow
theorem envR1_ok : EnvOk Tryz.prog envR1 := by
  refine envQ_ok.told (fun vs v h => ?_) (lt_f Tryz.func15 (by kernel_rfl) (by kernel_rfl))
  unfold tellShow at h
  split at h
  · rename_i k n s
    split at h
    · rename_i hs
      obtain ⟨N, hN⟩ := Show_has [] k n s hs
      cases h
      refine ⟨?_, N, hN N (Nat.le_refl _)⟩
      unfold showV; split <;> rfl
    · cases h
  · cases h
noncomputable def envR2 : Env := envR1.told 19 tellRead
theorem envR2_ok : EnvOk Tryz.prog envR2 :=
  envR1_ok.addLib read_lib (lt_f Tryz.func19 (by kernel_rfl) (by kernel_rfl))
theorem valid_lib : LibOk Tryz.prog envQ 21 tellValid := by
  have h := envQ_ok.told (f := 21) (p := tellValid) (fun vs v h => by
    unfold tellValid at h
    split at h
    · rename_i k n s
      split at h
      · rename_i hs
        obtain ⟨N, hN⟩ := evValid_has [] k n s hs
        cases h
        exact ⟨rfl, N, hN N (Nat.le_refl _)⟩
      · cases h
    · cases h) (lt_f Tryz.func21 (by kernel_rfl) (by kernel_rfl))
  exact (h.lib 21 tellValid rfl).1
noncomputable def envR : Env := envR2.told 21 tellValid
theorem envR_ok : EnvOk Tryz.prog envR :=
  envR2_ok.addLib valid_lib (lt_f Tryz.func21 (by kernel_rfl) (by kernel_rfl))
end Go.Proofs.YtkjhnpmgieplgaaGreatDoor

/- EvalReads: the law answers true. -/

namespace Go.Proofs.YtkjhnpmgieplgaaGreatDoor
open Go.Sb
set_option maxRecDepth 100000

open Go.ChangeShapes Go.WideShapes Go.ChangeAt Go.WideMaps Go.WideElems Go.RowKit
noncomputable def refX (S : List UInt8) (h : S.length ≤ 200) : Val := (refRead_has [] S h).choose
noncomputable def refB (S : List UInt8) (h : S.length ≤ 200) : Bool := (refRead_has [] S h).choose_spec.choose
theorem ref_spec (S : List UInt8) (h : S.length ≤ 200) : Has envQ .own 20 [.str S] [] (.val (.tup [valX (refX S h), .bool (refB S h)]) []) ∧ (refB S h = true → ReadsP S (refX S h)) ∧ (refB S h = false → ∀ y, ¬ ReadsP S y) := (refRead_has [] S h).choose_spec.choose_spec
noncomputable def tellRef (vs : List V) : Option V := match vs with
  | [.str s] => if h : s.length ≤ 200 then some (.tup [valX (refX s h), .bool (refB s h)]) else none
  | _ => none
theorem ref_lib : LibOk Tryz.prog envQ 20 tellRef := by
  have h := envQ_ok.told (f := 20) (p := tellRef) (fun vs v h => by
    unfold tellRef at h
    split at h
    · rename_i s
      split at h
      · rename_i hs
        obtain ⟨N, hN⟩ := (ref_spec s hs).1
        cases h
        exact ⟨rfl, N, hN N (Nat.le_refl _)⟩
      · cases h
    · cases h) (lt_f Tryz.func20 (by kernel_rfl) (by kernel_rfl))
  exact (h.lib 20 tellRef rfl).1
noncomputable def envS : Env := envR.told 20 tellRef
theorem envS_ok : EnvOk Tryz.prog envS :=
  envR_ok.addLib ref_lib (lt_f Tryz.func20 (by kernel_rfl) (by kernel_rfl))
theorem readS (h : Heap) (s : List UInt8) (hs : s.length ≤ 1000000) : Has envS .own 19 [.str s] h (.val (readV s) h) :=
  Has.told (E := envS) (a := [.str s]) (p := tellRead) rfl rfl (by simp only [tellRead]; rw [if_pos hs]) (by unfold readV; split <;> rfl)
theorem refS (h : Heap) (s : List UInt8) (hs : s.length ≤ 200) : Has envS .own 20 [.str s] h (.val (.tup [valX (refX s hs), .bool (refB s hs)]) h) :=
  Has.told (E := envS) (a := [.str s]) (p := tellRef) rfl rfl (by simp only [tellRef]; rw [dif_pos hs]) rfl
theorem awakeS (h : Heap) : Has envS .own 17 [] h (.val (.bool true) h) := Has.told (E := envS) (a := []) (p := tellAwake) rfl rfl rfl rfl
theorem eqS (k n k' n' : Int) (s s' : List UInt8) : evBin envS .eql 23 (.agg [.int .i64 k, .int .i64 n, .str s]) (.agg [.int .i64 k', .int .i64 n', .str s']) = some (.bool (k == k' && n == n' && s == s')) := by
  show (((some (k == k')).bind fun r => if r = true then ((some (n == n')).bind fun r => if r = true then ((some (s == s')).bind fun r => if r = true then some true else some false) else some false) else some false).map fun r => V.bool r) = _
  cases k == k' <;> cases n == n' <;> cases s == s' <;> rfl
theorem eqS_same (x : Val) : evBin envS .eql 23 (valX x) (valX x) = some (.bool true) := by unfold valX; rw [eqS]; simp
theorem shp_strS {n : Nat} {vs : List V} (h : Shp envS (n + 1) 9 vs) : ∃ s, vs = [.str s] ∧ s.length ≤ maxLen := by
  obtain ⟨d, hd, _, h⟩ := h
  cases (show some ty9 = some d from hd)
  exact h
theorem shpA_strS {n : Nat} {u : V} (h : ShpA envS (n + 1) 9 u) : ∃ s, u = .str s ∧ s.length ≤ maxLen := by
  obtain ⟨s, h1, h2⟩ := shp_strS h.1
  rw [(h.2 ty9 rfl).2 rfl] at h1
  exact ⟨s, by simpa using h1, h2⟩

theorem ops_slRf {E : Env} {md : Go.FuncId → Sb.Mode} {o : ROp} {os : List ROp} {s : List V} {h g : Heap} {v : V} {K : List V → Heap → Prop} {a0 a1 a2 a3 a4 a5 a6 a7 a8 a9 a10 a11 a12 a13 a14 a15 a16 a17 a18 a19 a20 a21 a22 a23 a24 a25 a26 a27 a28 a29 a30 a31 a32 a33 a34 a35 a36 a37 a38 a39 a40 a41 a42 a43 a44 a45 : V} (hg : o.gd = none) (hop : ∀ K : V → Heap → Prop, K v g → runOp E md o.op s h K) (hs : putT s o.dst v = [a0, a1, a2, a3, a4, a5, a6, a7, a8, a9, a10, a11, a12, a13, a14, a15, a16, a17, a18, a19, a20, a21, a22, a23, a24, a25, a26, a27, a28, a29, a30, a31, a32, a33, a34, a35, a36, a37, a38, a39, a40, a41, a42, a43, a44, a45]) (hn : runOps E md os [a0, a1, a2, a3, a4, a5, a6, a7, a8, a9, a10, a11, a12, a13, a14, a15, a16, a17, a18, a19, a20, a21, a22, a23, a24, a25, a26, a27, a28, a29, a30, a31, a32, a33, a34, a35, a36, a37, a38, a39, a40, a41, a42, a43, a44, a45] g K) : runOps E md (o :: os) s h K := ops_sl hg hop hs hn
theorem ops_ylRf {E : Env} {md : Go.FuncId → Sb.Mode} {o : ROp} {os : List ROp} {s : List V} {h g : Heap} {v : V} {K : List V → Heap → Prop} {a0 a1 a2 a3 a4 a5 a6 a7 a8 a9 a10 a11 a12 a13 a14 a15 a16 a17 a18 a19 a20 a21 a22 a23 a24 a25 a26 a27 a28 a29 a30 a31 a32 a33 a34 a35 a36 a37 a38 a39 a40 a41 a42 a43 a44 a45 : V} {t : Go.Tmp} {w : Bool} (hg : o.gd = some (t, w)) (hb : getT s t = .bool w) (hop : ∀ K : V → Heap → Prop, K v g → runOp E md o.op s h K) (hs : putT s o.dst v = [a0, a1, a2, a3, a4, a5, a6, a7, a8, a9, a10, a11, a12, a13, a14, a15, a16, a17, a18, a19, a20, a21, a22, a23, a24, a25, a26, a27, a28, a29, a30, a31, a32, a33, a34, a35, a36, a37, a38, a39, a40, a41, a42, a43, a44, a45]) (hn : runOps E md os [a0, a1, a2, a3, a4, a5, a6, a7, a8, a9, a10, a11, a12, a13, a14, a15, a16, a17, a18, a19, a20, a21, a22, a23, a24, a25, a26, a27, a28, a29, a30, a31, a32, a33, a34, a35, a36, a37, a38, a39, a40, a41, a42, a43, a44, a45] g K) : runOps E md (o :: os) s h K := ops_yl hg hb hop hs hn

set_option maxHeartbeats 4000000 in
theorem evalReads_has (s : List UInt8) : Has envS .own 4 [.str s] [] (.val (.bool true) []) := by
  refine HasP.own (a := [.str s]) (d := fn4) rfl rfl rfl (of_decide_eq_true rfl) ?_
  have hlen : (s.take (min (s.length : Int) 200).toNat).length ≤ 200 := by rw [List.length_take]; omega
  have hR := fun h => readS h (s.take (min (s.length : Int) 200).toNat) (by omega)
  have hF := fun h => refS h (s.take (min (s.length : Int) 200).toNat) hlen
  obtain ⟨_, hyes, hnot⟩ := ref_spec (s.take (min (s.length : Int) 200).toNat) hlen
  generalize refX (s.take (min (s.length : Int) 200).toNat) hlen = rx at hF hyes
  generalize refB (s.take (min (s.length : Int) 200).toNat) hlen = rb at hF hyes hnot
  apply RunP.seq
  refine RunP.regionR _ (fun K => rfl) ?_
  refine ops_slRf rfl (fun K hK => hK) rfl ?_
  apply RunP.seq
  refine RunP.regionR _ (fun K => rfl) ?_
  refine ops_slRf rfl (fun K hK => hK) rfl ?_
  refine ops_slRf rfl (fun K hK => hK) rfl ?_
  refine ops_slRf rfl (fun K hK => hK) rfl ?_
  refine ops_slRf rfl (fun K hK => wrK (show (if (200 : Int) < (s.length : Int) then (200 : Int) else (s.length : Int)) = min (s.length : Int) 200 by split <;> omega) hK) rfl ?_
  refine ops_slRf rfl (fun K hK => And.intro (show 0 ≤ min (s.length : Int) 200 by omega) (And.intro (show (0 : Nat) ≤ (min (s.length : Int) 200).toNat ∧ (min (s.length : Int) 200).toNat ≤ s.length by omega) hK)) rfl ?_
  refine ops_slRf rfl (fun K hK => hK) rfl ?_
  cases rb with
  | false =>
    simp only [readV_no (hnot rfl)] at hR
    apply RunP.seq
    refine RunP.regionR _ (fun K => rfl) ?_
    refine ops_slRf rfl (fun K hK => hK) rfl ?_
    refine ops_slRf rfl (fun K hK => CallK.of (hR _) hK) rfl ?_
    refine ops_slRf rfl (fun K hK => hK) rfl ?_
    refine ops_slRf rfl (fun K hK => hK) rfl ?_
    refine ops_slRf rfl (fun K hK => hK) rfl ?_
    refine ops_slRf rfl (fun K hK => hK) rfl ?_
    refine ops_slRf rfl (fun K hK => hK) rfl ?_
    refine ops_slRf rfl (fun K hK => hK) rfl ?_
    apply RunP.seq
    refine RunP.regionR _ (fun K => rfl) ?_
    refine ops_slRf rfl (fun K hK => hK) rfl ?_
    refine ops_slRf rfl (fun K hK => CallK.of (hF _) hK) rfl ?_
    refine ops_slRf rfl (fun K hK => hK) rfl ?_
    refine ops_slRf rfl (fun K hK => hK) rfl ?_
    refine ops_slRf rfl (fun K hK => hK) rfl ?_
    refine ops_slRf rfl (fun K hK => hK) rfl ?_
    refine ops_slRf rfl (fun K hK => hK) rfl ?_
    refine ops_slRf rfl (fun K hK => hK) rfl ?_
    repeat (first | apply RunP.seq | apply RunP.condT rfl | apply RunP.condF rfl | apply RunP.skip | apply RunP.block | apply RunP.exit | apply RunP.ret)
    refine RunP.regionR _ (fun K => rfl) ?_
    refine ops_slRf rfl (fun K hK => hK) rfl ?_
    refine ops_slRf rfl (fun K hK => hK) rfl ?_
    repeat (first | apply RunP.seq | apply RunP.condT rfl | apply RunP.condF rfl | apply RunP.skip | apply RunP.block | apply RunP.exit | apply RunP.ret)
    refine RunP.regionR _ (fun K => rfl) ?_
    refine ops_slRf rfl (fun K hK => hK) rfl ?_
    refine ops_slRf rfl (fun K hK => hK) rfl ?_
    refine ops_slRf rfl (fun K hK => hK) rfl ?_
    refine ops_slRf rfl (fun K hK => hK) rfl ?_
    refine ops_ylRf rfl rfl (fun K hK => hK) rfl ?_
    refine ops_ylRf rfl rfl (fun K hK => And.intro (fun _ => hK) (fun w => absurd rfl w)) rfl ?_
    refine ops_slRf rfl (fun K hK => hK) rfl ?_
    refine ops_slRf rfl (fun K hK => hK) rfl ?_
    refine ops_ylRf rfl rfl (fun K hK => CallK.of (awakeS _) hK) rfl ?_
    refine ops_slRf rfl (fun K hK => hK) rfl ?_
    refine ops_slRf rfl (fun K hK => hK) rfl ?_
    repeat (first | apply RunP.seq | apply RunP.condT rfl | apply RunP.condF rfl | apply RunP.skip | apply RunP.block | apply RunP.exit | apply RunP.ret)
    exact ⟨rfl, rfl, rfl⟩
  | true =>
    simp only [readV_yes (hyes rfl)] at hR
    apply RunP.seq
    refine RunP.regionR _ (fun K => rfl) ?_
    refine ops_slRf rfl (fun K hK => hK) rfl ?_
    refine ops_slRf rfl (fun K hK => CallK.of (hR _) hK) rfl ?_
    refine ops_slRf rfl (fun K hK => hK) rfl ?_
    refine ops_slRf rfl (fun K hK => hK) rfl ?_
    refine ops_slRf rfl (fun K hK => hK) rfl ?_
    refine ops_slRf rfl (fun K hK => hK) rfl ?_
    refine ops_slRf rfl (fun K hK => hK) rfl ?_
    refine ops_slRf rfl (fun K hK => hK) rfl ?_
    apply RunP.seq
    refine RunP.regionR _ (fun K => rfl) ?_
    refine ops_slRf rfl (fun K hK => hK) rfl ?_
    refine ops_slRf rfl (fun K hK => CallK.of (hF _) hK) rfl ?_
    refine ops_slRf rfl (fun K hK => hK) rfl ?_
    refine ops_slRf rfl (fun K hK => hK) rfl ?_
    refine ops_slRf rfl (fun K hK => hK) rfl ?_
    refine ops_slRf rfl (fun K hK => hK) rfl ?_
    refine ops_slRf rfl (fun K hK => hK) rfl ?_
    refine ops_slRf rfl (fun K hK => hK) rfl ?_
    repeat (first | apply RunP.seq | apply RunP.condT rfl | apply RunP.condF rfl | apply RunP.skip | apply RunP.block | apply RunP.exit | apply RunP.ret)
    refine RunP.regionR _ (fun K => rfl) ?_
    refine ops_slRf rfl (fun K hK => hK) rfl ?_
    refine ops_slRf rfl (fun K hK => hK) rfl ?_
    repeat (first | apply RunP.seq | apply RunP.condT rfl | apply RunP.condF rfl | apply RunP.skip | apply RunP.block | apply RunP.exit | apply RunP.ret)
    refine RunP.regionR _ (fun K => rfl) ?_
    refine ops_slRf rfl (fun K hK => hK) rfl ?_
    refine ops_slRf rfl (fun K hK => hK) rfl ?_
    refine ops_slRf rfl (fun K hK => bindK_of (eqS_same rx) hK) rfl ?_
    refine ops_slRf rfl (fun K hK => hK) rfl ?_
    refine ops_ylRf rfl rfl (fun K hK => hK) rfl ?_
    refine ops_ylRf rfl rfl (fun K hK => And.intro (fun _ => hK) (fun w => absurd rfl w)) rfl ?_
    refine ops_slRf rfl (fun K hK => hK) rfl ?_
    refine ops_slRf rfl (fun K hK => hK) rfl ?_
    refine ops_ylRf rfl rfl (fun K hK => CallK.of (awakeS _) hK) rfl ?_
    refine ops_slRf rfl (fun K hK => hK) rfl ?_
    refine ops_slRf rfl (fun K hK => hK) rfl ?_
    repeat (first | apply RunP.seq | apply RunP.condT rfl | apply RunP.condF rfl | apply RunP.skip | apply RunP.block | apply RunP.exit | apply RunP.ret)
    exact ⟨rfl, rfl, rfl⟩
end Go.Proofs.YtkjhnpmgieplgaaGreatDoor
