/- Codes: the program's words: a function. -/
import Derived.Test.YtekmafoicobphaaGreatDoorSb10Chk4
import Derived.Test.YtekmafoicobphaaGreatDoorSb10Chk5
set_option linter.unusedVariables false
set_option linter.unusedSimpArgs false
namespace Go.Proofs.YtekmafoicobphaaGreatDoor
open Go.Sb
set_option maxRecDepth 100000
theorem ycr {E : Env} {md : Go.FuncId → Sb.Mode} {o : ROp} {os : List ROp} {s : List V} {h : Heap} {K : List V → Heap → Prop} {a0 a1 a2 a3 a4 a5 a6 a7 a8 a9 a10 a11 a12 a13 a14 a15 a16 a17 a18 a19 a20 a21 a22 a23 a24 a25 a26 a27 a28 a29 a30 a31 a32 a33 a34 a35 a36 a37 a38 a39 a40 a41 a42 a43 a44 a45 a46 a47 a48 a49 a50 a51 a52 a53 a54 a55 a56 a57 a58 a59 a60 a61 a62 a63 a64 a65 a66 a67 a68 a69 a70 a71 a72 a73 a74 a75 a76 a77 a78 a79 a80 a81 a82 a83 a84 a85 a86 a87 a88 a89 a90 a91 a92 a93 a94 a95 : V} {t : Go.Tmp} {w b : Bool} (hn : yag E md os [a0, a1, a2, a3, a4, a5, a6, a7, a8, a9, a10, a11, a12, a13, a14, a15, a16, a17, a18, a19, a20, a21, a22, a23, a24, a25, a26, a27, a28, a29, a30, a31, a32, a33, a34, a35, a36, a37, a38, a39, a40, a41, a42, a43, a44, a45, a46, a47, a48, a49, a50, a51, a52, a53, a54, a55, a56, a57, a58, a59, a60, a61, a62, a63, a64, a65, a66, a67, a68, a69, a70, a71, a72, a73, a74, a75, a76, a77, a78, a79, a80, a81, a82, a83, a84, a85, a86, a87, a88, a89, a90, a91, a92, a93, a94, a95] h K) (hg : o.gd = some (t, w) := by rfl) (hb : getT s t = .bool b := by rfl) (hw : b = !w := by rfl) (hs : putT s o.dst und = [a0, a1, a2, a3, a4, a5, a6, a7, a8, a9, a10, a11, a12, a13, a14, a15, a16, a17, a18, a19, a20, a21, a22, a23, a24, a25, a26, a27, a28, a29, a30, a31, a32, a33, a34, a35, a36, a37, a38, a39, a40, a41, a42, a43, a44, a45, a46, a47, a48, a49, a50, a51, a52, a53, a54, a55, a56, a57, a58, a59, a60, a61, a62, a63, a64, a65, a66, a67, a68, a69, a70, a71, a72, a73, a74, a75, a76, a77, a78, a79, a80, a81, a82, a83, a84, a85, a86, a87, a88, a89, a90, a91, a92, a93, a94, a95] := by rfl) : yag E md (o :: os) s h K := yet hg hb hw hs hn
theorem yal {E : Env} {md : Go.FuncId → Sb.Mode} {o : ROp} {os : List ROp} {s : List V} {h g : Heap} {v : V} {K : List V → Heap → Prop} {a0 a1 a2 a3 a4 a5 a6 a7 a8 a9 a10 a11 a12 a13 a14 a15 a16 a17 a18 a19 a20 a21 a22 a23 a24 a25 a26 a27 a28 a29 a30 a31 a32 a33 a34 a35 a36 a37 a38 a39 a40 a41 a42 a43 a44 a45 a46 a47 a48 a49 a50 a51 a52 a53 a54 a55 a56 a57 a58 a59 a60 a61 a62 a63 a64 a65 a66 a67 a68 a69 a70 a71 a72 a73 a74 a75 a76 a77 a78 a79 a80 a81 a82 a83 a84 a85 a86 a87 a88 a89 a90 a91 a92 a93 a94 a95 : V} (hn : yag E md os [a0, a1, a2, a3, a4, a5, a6, a7, a8, a9, a10, a11, a12, a13, a14, a15, a16, a17, a18, a19, a20, a21, a22, a23, a24, a25, a26, a27, a28, a29, a30, a31, a32, a33, a34, a35, a36, a37, a38, a39, a40, a41, a42, a43, a44, a45, a46, a47, a48, a49, a50, a51, a52, a53, a54, a55, a56, a57, a58, a59, a60, a61, a62, a63, a64, a65, a66, a67, a68, a69, a70, a71, a72, a73, a74, a75, a76, a77, a78, a79, a80, a81, a82, a83, a84, a85, a86, a87, a88, a89, a90, a91, a92, a93, a94, a95] g K) (hop : ∀ K : V → Heap → Prop, K v g → runOp E md o.op s h K := by exact fun _ => id) (hg : o.gd = none := by rfl) (hs : putT s o.dst v = [a0, a1, a2, a3, a4, a5, a6, a7, a8, a9, a10, a11, a12, a13, a14, a15, a16, a17, a18, a19, a20, a21, a22, a23, a24, a25, a26, a27, a28, a29, a30, a31, a32, a33, a34, a35, a36, a37, a38, a39, a40, a41, a42, a43, a44, a45, a46, a47, a48, a49, a50, a51, a52, a53, a54, a55, a56, a57, a58, a59, a60, a61, a62, a63, a64, a65, a66, a67, a68, a69, a70, a71, a72, a73, a74, a75, a76, a77, a78, a79, a80, a81, a82, a83, a84, a85, a86, a87, a88, a89, a90, a91, a92, a93, a94, a95] := by rfl) : yag E md (o :: os) s h K := ybe hg hop hs hn
theorem yru {E : Env} {md : Go.FuncId → Sb.Mode} {o : ROp} {os : List ROp} {s : List V} {h : Heap} {K : List V → Heap → Prop} {a0 a1 a2 a3 a4 a5 a6 a7 a8 a9 a10 a11 a12 a13 a14 a15 a16 a17 a18 a19 a20 a21 a22 a23 a24 a25 a26 a27 a28 a29 a30 a31 a32 a33 a34 a35 a36 a37 a38 a39 a40 a41 a42 a43 a44 a45 a46 a47 a48 a49 a50 a51 a52 a53 a54 a55 a56 a57 a58 a59 a60 a61 a62 a63 a64 a65 a66 a67 a68 a69 a70 a71 a72 a73 a74 a75 a76 a77 a78 a79 a80 a81 a82 a83 a84 a85 a86 a87 a88 a89 a90 a91 a92 a93 a94 a95 : V} {t : Go.Tmp} {w : Bool} (hn : yag E md os [a0, a1, a2, a3, a4, a5, a6, a7, a8, a9, a10, a11, a12, a13, a14, a15, a16, a17, a18, a19, a20, a21, a22, a23, a24, a25, a26, a27, a28, a29, a30, a31, a32, a33, a34, a35, a36, a37, a38, a39, a40, a41, a42, a43, a44, a45, a46, a47, a48, a49, a50, a51, a52, a53, a54, a55, a56, a57, a58, a59, a60, a61, a62, a63, a64, a65, a66, a67, a68, a69, a70, a71, a72, a73, a74, a75, a76, a77, a78, a79, a80, a81, a82, a83, a84, a85, a86, a87, a88, a89, a90, a91, a92, a93, a94, a95] h K) (hg : o.gd = some (t, w) := by rfl) (hb : getT s t = .tup [] := by rfl) (hs : putT s o.dst und = [a0, a1, a2, a3, a4, a5, a6, a7, a8, a9, a10, a11, a12, a13, a14, a15, a16, a17, a18, a19, a20, a21, a22, a23, a24, a25, a26, a27, a28, a29, a30, a31, a32, a33, a34, a35, a36, a37, a38, a39, a40, a41, a42, a43, a44, a45, a46, a47, a48, a49, a50, a51, a52, a53, a54, a55, a56, a57, a58, a59, a60, a61, a62, a63, a64, a65, a66, a67, a68, a69, a70, a71, a72, a73, a74, a75, a76, a77, a78, a79, a80, a81, a82, a83, a84, a85, a86, a87, a88, a89, a90, a91, a92, a93, a94, a95] := by rfl) : yag E md (o :: os) s h K := ops_ul hg hb hs hn
theorem yak {E : Env} {md : Go.FuncId → Sb.Mode} {o : ROp} {os : List ROp} {s : List V} {h g : Heap} {v : V} {K : List V → Heap → Prop} {a0 a1 a2 a3 a4 a5 a6 a7 a8 a9 a10 a11 a12 a13 a14 a15 a16 a17 a18 a19 a20 a21 a22 a23 a24 a25 a26 a27 a28 a29 a30 a31 a32 a33 a34 a35 a36 a37 a38 a39 a40 a41 a42 a43 a44 a45 a46 a47 a48 a49 a50 a51 a52 a53 a54 a55 a56 a57 a58 a59 a60 a61 a62 a63 a64 a65 a66 a67 a68 a69 a70 a71 a72 a73 a74 a75 a76 a77 a78 a79 a80 a81 a82 a83 a84 a85 a86 a87 a88 a89 a90 a91 a92 a93 a94 a95 : V} {t : Go.Tmp} {w : Bool} (hn : yag E md os [a0, a1, a2, a3, a4, a5, a6, a7, a8, a9, a10, a11, a12, a13, a14, a15, a16, a17, a18, a19, a20, a21, a22, a23, a24, a25, a26, a27, a28, a29, a30, a31, a32, a33, a34, a35, a36, a37, a38, a39, a40, a41, a42, a43, a44, a45, a46, a47, a48, a49, a50, a51, a52, a53, a54, a55, a56, a57, a58, a59, a60, a61, a62, a63, a64, a65, a66, a67, a68, a69, a70, a71, a72, a73, a74, a75, a76, a77, a78, a79, a80, a81, a82, a83, a84, a85, a86, a87, a88, a89, a90, a91, a92, a93, a94, a95] g K) (hop : ∀ K : V → Heap → Prop, K v g → runOp E md o.op s h K := by exact fun _ => id) (hg : o.gd = some (t, w) := by rfl) (hb : getT s t = .bool w := by rfl) (hs : putT s o.dst v = [a0, a1, a2, a3, a4, a5, a6, a7, a8, a9, a10, a11, a12, a13, a14, a15, a16, a17, a18, a19, a20, a21, a22, a23, a24, a25, a26, a27, a28, a29, a30, a31, a32, a33, a34, a35, a36, a37, a38, a39, a40, a41, a42, a43, a44, a45, a46, a47, a48, a49, a50, a51, a52, a53, a54, a55, a56, a57, a58, a59, a60, a61, a62, a63, a64, a65, a66, a67, a68, a69, a70, a71, a72, a73, a74, a75, a76, a77, a78, a79, a80, a81, a82, a83, a84, a85, a86, a87, a88, a89, a90, a91, a92, a93, a94, a95] := by rfl) : yag E md (o :: os) s h K := yes hg hb hop hs hn
abbrev LIns := List Ins
abbrev LGrd := List Grd
noncomputable def rowB (c : Cod) (f : Fnc) (L : List Ins) (i : Nat) (x : Ins) : Bool := insB c f x && !(decide (x.op = 10) && decide (x.b = 15) && decide (4 < armsN L i))
noncomputable def cdB (c : Cod) (f : Fnc) (L : List Ins) : Nat → Bool
 | 0 => true
 | n + 1 => cdB c f L n && match L[n]? with | some x => rowB c f L n x | none => true
theorem cdB_no {c : Cod} {f : Fnc} {L : List Ins} {i : Nat} {x : Ins} (hx : L[i]? = some x) (hr : rowB c f L i x = false) : ∀ n, i < n → cdB c f L n = false
 | n + 1, h => by
  rw [cdB]
  by_cases e : i = n
  ·subst e; rw [hx]; simp only; rw [hr, Bool.and_false]
  ·rw [cdB_no hx hr n (by omega), Bool.false_and]
def lastGo (L : List Ins) : Bool := match L[L.length - 1]? with | some x => fGo x.op | none => false
noncomputable def fnB (c : Cod) (f : Fnc) : Bool := (Lex.isName f.nm && decide (0 ≤ f.p ∧ f.p ≤ 5) && decide (f.p ≤ f.s ∧ f.s ≤ 200) && decide (1 ≤ (lenO f.cd : Int) ∧ (lenO f.cd : Int) ≤ 4000) && !decide (400 < (lenO f.gd : Int))) && cdB c f (f.cd.getD []) (lenO f.cd) && (!lastGo (f.cd.getD []) && (f.gd.getD []).all (fun x => grB f x))
def faM (nm : Bs) (p s0 : Int) (cd : Option LIns) (gd : Option LGrd) (c : Cod) (G : Bool) (k : Nat) (s : List V) (h : Heap) : Prop :=
 ∃ (u : Nat), (u = 0 ∧ h = [.cells 97 (ckC c ⟨nm, p, s0, cd, gd⟩)]) ∧ s.length = 96 ∧ s.getD 0 und = und ∧ s.getD 2 und = .ptr 0 0 6 ∧ s.getD 3 und = .bool false ∧ s.getD 4 und = .int .i64 (lenO cd) ∧ s.getD 44 und = .bool !G
theorem faM_lit {nm : Bs} {p s0 : Int} {cd : Option LIns} {gd : Option LGrd} {c : Cod} {G : Bool} {k : Nat} {s : List V} {h : Heap} (hI : faM nm p s0 cd gd c G k s h) : ∃ (u : Nat) (x : Nat → V), (u = 0 ∧ h = [.cells 97 (ckC c ⟨nm, p, s0, cd, gd⟩)]) ∧
  s = [und, x 1, .ptr 0 0 6, .bool false, .int .i64 (lenO cd), x 5, x 6, x 7, x 8, x 9, x 10, x 11, x 12, x 13, x 14, x 15, x 16, x 17, x 18, x 19, x 20, x 21, x 22, x 23, x 24, x 25, x 26, x 27, x 28, x 29, x 30, x 31, x 32, x 33, x 34, x 35, x 36, x 37, x 38, x 39, x 40, x 41, x 42, x 43, .bool !G, x 45, x 46, x 47, x 48, x 49, x 50, x 51, x 52, x 53, x 54, x 55, x 56, x 57, x 58, x 59, x 60, x 61, x 62, x 63, x 64, x 65, x 66, x 67, x 68, x 69, x 70, x 71, x 72, x 73, x 74, x 75, x 76, x 77, x 78, x 79, x 80, x 81, x 82, x 83, x 84, x 85, x 86, x 87, x 88, x 89, x 90, x 91, x 92, x 93, x 94, x 95] := by
 obtain ⟨u, hF, hl, e0, e2, e3, e4, e44⟩ := hI
 refine ⟨u, fun n => s.getD n und, hF, (ybd hl).trans ?_⟩
 simp only [List.range, List.range.loop, List.map_cons, List.map_nil]
 rw [e0, e2, e3, e4, e44]
def fbI (nm : Bs) (p s0 : Int) (L : LIns) (gd : Option LGrd) (c : Cod) (k : Nat) (s : List V) (h : Heap) : Prop :=
 ∃ (i : Nat) (z : Int), (i + k = L.length ∧ z = i ∧ cdB c ⟨nm, p, s0, some L, gd⟩ L i = true ∧ h[0]? = some (.cells 97 (ckC c ⟨nm, p, s0, some L, gd⟩))) ∧ s.length = 96 ∧ s.getD 0 und = und ∧ s.getD 2 und = .ptr 0 0 6 ∧ s.getD 3 und = .bool false ∧ s.getD 4 und = .int .i64 (lenO (some L)) ∧ s.getD 47 und = .lst 8 (L.map insV) ∧ s.getD 48 und = .int .i64 (L.map insV).length ∧ s.getD 49 und = .int .i64 z
theorem fbI_lit {nm : Bs} {p s0 : Int} {L : LIns} {gd : Option LGrd} {c : Cod} {k : Nat} {s : List V} {h : Heap} (hI : fbI nm p s0 L gd c k s h) : ∃ (i : Nat) (z : Int) (x : Nat → V), (i + k = L.length ∧ z = i ∧ cdB c ⟨nm, p, s0, some L, gd⟩ L i = true ∧ h[0]? = some (.cells 97 (ckC c ⟨nm, p, s0, some L, gd⟩))) ∧
  s = [und, x 1, .ptr 0 0 6, .bool false, .int .i64 (lenO (some L)), x 5, x 6, x 7, x 8, x 9, x 10, x 11, x 12, x 13, x 14, x 15, x 16, x 17, x 18, x 19, x 20, x 21, x 22, x 23, x 24, x 25, x 26, x 27, x 28, x 29, x 30, x 31, x 32, x 33, x 34, x 35, x 36, x 37, x 38, x 39, x 40, x 41, x 42, x 43, x 44, x 45, x 46, .lst 8 (L.map insV), .int .i64 (L.map insV).length, .int .i64 z, x 50, x 51, x 52, x 53, x 54, x 55, x 56, x 57, x 58, x 59, x 60, x 61, x 62, x 63, x 64, x 65, x 66, x 67, x 68, x 69, x 70, x 71, x 72, x 73, x 74, x 75, x 76, x 77, x 78, x 79, x 80, x 81, x 82, x 83, x 84, x 85, x 86, x 87, x 88, x 89, x 90, x 91, x 92, x 93, x 94, x 95] := by
 obtain ⟨i, z, hF, hl, e0, e2, e3, e4, e47, e48, e49⟩ := hI
 refine ⟨i, z, fun n => s.getD n und, hF, (ybd hl).trans ?_⟩
 simp only [List.range, List.range.loop, List.map_cons, List.map_nil]
 rw [e0, e2, e3, e4, e47, e48, e49]
set_option maxHeartbeats 16000000 in
theorem yxl (h : Heap) (c : Cod) (f : Fnc) (hc : lenO c ≤ 1000) (hn : f.nm.length ≤ 2 ^ 50) (hgl : lenO f.gd ≤ 2 ^ 50) (hI : ∀ x ∈ f.cd.getD [], lenO x.l ≤ 2 ^ 50 ∧ x.s.length ≤ 2 ^ 50) : Has envQ .own 65 [ckV c f] h (.val (.bool (fnB c f)) h) := by
 suffices hz : ∃ v, Has envQ .own 65 [ckV c f] h (.val v h) ∧ v = .bool (fnB c f) by
  obtain ⟨v, h1, rfl⟩ := hz; exact h1
 refine HasP.ownE (a := [ckV c f]) (d := fn65) (yaf (fz_ag (ydt _ _)) yan) rfl rfl (jT rfl) ?_
 obtain ⟨nm, p, s0, cd, gd⟩ := f
 simp only at hn hgl hI
 obtain ⟨bN, eN⟩ : ∃ w, Lex.isName nm = w := ⟨_, rfl⟩
 obtain ⟨b1, e1⟩ : ∃ w, decide (0 ≤ p ∧ p ≤ 5) = w := ⟨_, rfl⟩
 obtain ⟨b2, e2⟩ : ∃ w, decide (p ≤ s0 ∧ s0 ≤ 200) = w := ⟨_, rfl⟩
 obtain ⟨b3, e3⟩ : ∃ w, decide (1 ≤ (lenO cd : Int) ∧ (lenO cd : Int) ≤ 4000) = w := ⟨_, rfl⟩
 obtain ⟨G, hG⟩ : ∃ w, (bN && b1 && b2 && b3 && !decide (400 < (lenO gd : Int))) = w := ⟨_, rfl⟩
 have hN := fun g => ywr g nm (by omega)
 have hA := fun g => ydd g p 0 5
 have hB := fun g => ydd g s0 p 200
 have hC := fun g => ydd g (lenO cd) 1 4000
 simp only [eN] at hN
 simp only [e1] at hA
 simp only [e2] at hB
 simp only [e3] at hC
 have hfB : fnB c ⟨nm, p, s0, cd, gd⟩ = (G && cdB c ⟨nm, p, s0, cd, gd⟩ (cd.getD []) (lenO cd) && (!lastGo (cd.getD []) && (gd.getD []).all (fun x => grB ⟨nm, p, s0, cd, gd⟩ x))) := by unfold fnB; simp only; rw [eN, e1, e2, e3, hG]
 rw [hfB]
 apply jA
 apply jB
 refine ydu (ydt c ⟨nm, p, s0, cd, gd⟩) ?_
 apply jA
 apply jB
 refine ybh rfl rfl ?_
 apply jA
 apply jA
 refine RunP.midS (faM nm p s0 cd gd c G 0) ?_ ?_
 ·skip
  refine jR _ ?_
  iterate 3 (refine yal ?_)
  cases bN
  ·refine yal ?_ (fun K hK => CallK.of (hN _) hK)
   iterate 2 (refine yal ?_)
   iterate 5 (refine ycr ?_)
   iterate 2 (refine yal ?_)
   iterate 8 (refine ycr ?_)
   iterate 2 (refine yal ?_)
   iterate 3 (refine ycr ?_)
   iterate 2 (refine yal ?_)
   iterate 5 (refine ycr ?_)
   refine yal ?_
   have hg : G = false := by rw [← hG]; first | rfl | (simp; omega)
   subst hg
   exact ⟨rfl, 0, ⟨rfl, rfl⟩, rfl, rfl, rfl, rfl, rfl, rfl⟩
  ·refine yal ?_ (fun K hK => CallK.of (hN _) hK)
   iterate 2 (refine yal ?_)
   iterate 3 (refine yak ?_)
   cases b1
   ·refine yak ?_ (fun K hK => CallK.of (hA _) hK)
    refine yak ?_
    iterate 2 (refine yal ?_)
    iterate 8 (refine ycr ?_)
    iterate 2 (refine yal ?_)
    iterate 3 (refine ycr ?_)
    iterate 2 (refine yal ?_)
    iterate 5 (refine ycr ?_)
    refine yal ?_
    have hg : G = false := by rw [← hG]; first | rfl | (simp; omega)
    subst hg
    exact ⟨rfl, 0, ⟨rfl, rfl⟩, rfl, rfl, rfl, rfl, rfl, rfl⟩
   ·refine yak ?_ (fun K hK => CallK.of (hA _) hK)
    refine yak ?_
    iterate 2 (refine yal ?_)
    iterate 6 (refine yak ?_)
    cases b2
    ·refine yak ?_ (fun K hK => CallK.of (hB _) hK)
     refine yak ?_
     iterate 2 (refine yal ?_)
     iterate 3 (refine ycr ?_)
     iterate 2 (refine yal ?_)
     iterate 5 (refine ycr ?_)
     refine yal ?_
     have hg : G = false := by rw [← hG]; first | rfl | (simp; omega)
     subst hg
     exact ⟨rfl, 0, ⟨rfl, rfl⟩, rfl, rfl, rfl, rfl, rfl, rfl⟩
    ·refine yak ?_ (fun K hK => CallK.of (hB _) hK)
     refine yak ?_
     iterate 2 (refine yal ?_)
     refine yak ?_
     cases b3
     ·refine yak ?_ (fun K hK => CallK.of (hC _) hK)
      refine yak ?_
      iterate 2 (refine yal ?_)
      iterate 5 (refine ycr ?_)
      refine yal ?_
      have hg : G = false := by rw [← hG]; first | rfl | (simp; omega)
      subst hg
      exact ⟨rfl, 0, ⟨rfl, rfl⟩, rfl, rfl, rfl, rfl, rfl, rfl⟩
     ·refine yak ?_ (fun K hK => CallK.of (hC _) hK)
      refine yak ?_
      iterate 2 (refine yal ?_)
      iterate 3 (refine yak ?_)
      refine yak ?_ (fun K hK => ybh (E := envQ) (t := 59) (el := 70) (d := ty59) rfl rfl hK)
      by_cases h4 : ¬ (400 : Int) < (lenO gd : Int)
      ·refine yak ?_ (fun K hK => jI (fun w => absurd w h4) (fun _ => hK))
       refine yal ?_
       have hg : G = true := by rw [← hG]; simp [h4]
       subst hg
       exact ⟨rfl, 0, ⟨rfl, rfl⟩, rfl, rfl, rfl, rfl, rfl, rfl⟩
      ·refine yak ?_ (fun K hK => jI (fun _ => hK) (fun w => absurd w (show ¬ ((lenO gd : Int) ≤ 400) from by omega)))
       refine yal ?_
       have hg : G = false := by rw [← hG]; first | rfl | (simp; omega)
       subst hg
       exact ⟨rfl, 0, ⟨rfl, rfl⟩, rfl, rfl, rfl, rfl, rfl, rfl⟩
 intro s1 g1 hM
 obtain ⟨u, y, ⟨_, rfl⟩, rfl⟩ := faM_lit hM
 clear hM hN hA hB hC hfB
 cases G
 ·repeat first|apply jZ|apply jA|apply jB|apply jH
  exact ⟨rfl, _, rfl, jO _, rfl⟩
 simp only [Bool.and_eq_true, Bool.not_eq_true', decide_eq_false_iff_not] at hG
 obtain ⟨⟨⟨⟨rfl, rfl⟩, rfl⟩, rfl⟩, hg4⟩ := hG
 have d1 := jT e1
 have d2 := jT e2
 have d3 := jT e3
 clear e1 e2 e3
 obtain ⟨L, rfl⟩ : ∃ L, cd = some L := by
  cases cd with
  | none => exfalso; have := d3.1; simp [lenO] at this
  | some L => exact ⟨L, rfl⟩
 have hLl : lenO (some L) = L.length := rfl
 have hlm : ((L.map insV).length : Int) = (L.length : Int) := by simp
 have hL1 : 1 ≤ L.length ∧ L.length ≤ 4000 := by rw [hLl] at d3; omega
 have hS : 0 ≤ (Fnc.mk nm p s0 (some L) gd).s ∧ (Fnc.mk nm p s0 (some L) gd).s ≤ 200 := by show 0 ≤ s0 ∧ s0 ≤ 200; omega
 have hl4 : lenO (Fnc.mk nm p s0 (some L) gd).cd ≤ 4000 := by show lenO (some L) ≤ 4000; rw [hLl]; omega
 have hgd : Option.getD (some L) [] = L := rfl
 rw [hgd] at hI
 rw [hgd, hLl]
 refine jV ?_
 refine RunP.loop (fbI nm p s0 L gd c) ?_ L.length ⟨0, _, ⟨by omega, rfl, rfl, rfl⟩, rfl, rfl, rfl, rfl, rfl, rfl, rfl, rfl⟩
 intro k st g hJ
 obtain ⟨i, z, x, ⟨hik, hz, hall, h0⟩, rfl⟩ := fbI_lit hJ
 clear hJ
 subst hz
 refine jV ?_
 refine jI (fun hlt => ?_) (fun hge => ?_)
 ·have hi : i < L.length := by omega
  obtain ⟨x0, hx0⟩ : ∃ x, L[i]? = some x := ⟨_, List.getElem?_eq_getElem hi⟩
  obtain ⟨hxl, hxs⟩ := hI x0 (List.mem_of_getElem? hx0)
  have hno : rowB c ⟨nm, p, s0, some L, gd⟩ L i x0 = false → V.bool false = .bool (true && cdB c ⟨nm, p, s0, some L, gd⟩ L L.length && (!lastGo L && (gd.getD []).all (fun x => grB ⟨nm, p, s0, some L, gd⟩ x))) := fun hr => by rw [cdB_no hx0 hr L.length hi]; rfl
  have hyes : rowB c ⟨nm, p, s0, some L, gd⟩ L i x0 = true → cdB c ⟨nm, p, s0, some L, gd⟩ L (i + 1) = true := fun hr => by rw [cdB, hall, hx0]; simp only; rw [hr]; rfl
  have hIns := fun g => yxj g c ⟨nm, p, s0, some L, gd⟩ x0 hS hl4 hc hxl hxs
  obtain ⟨bI, hbI⟩ : ∃ w, insB c ⟨nm, p, s0, some L, gd⟩ x0 = w := ⟨_, rfl⟩
  simp only [hbI] at hIns
  have hAr := fun g => arms_has g L i (by omega) hL1.2
  have hlen : ((((L.map insV).take i).drop (i - armsN L i)).length : Int) = (armsN L i : Int) := by
   have := yrt L i
   rw [List.length_drop, List.length_take, List.length_map]; omega
  obtain ⟨op, a, b, cc, kd, n, tx, l⟩ := x0
  have hget : (L.map insV)[i]? = some (.agg (iC op a b cc kd n tx l)) := by rw [List.getElem?_map, hx0]; rfl
  refine jV ?_
  refine jI (by omega) (jI rfl (Exists.intro _ (jI hget ?_)))
  refine yab (ycw (E := envQ) (t := 68) (n := 8) (v := .agg (iC op a b cc kd n tx l)) rfl rfl rfl rfl (yeu (ygb _ _ _ _ _ _ _ _))) ?_
  replace h0 := yam (k := .cells 68 (V.agg (iC op a b cc kd n tx l)).cells) h0
  generalize hb : g.length = M
  generalize hG : Sb.push g (.cells 68 (V.agg (iC op a b cc kd n tx l)).cells) = G at h0 ⊢
  have hcell : G[M]? = some (.cells 68 (iC op a b cc kd n tx l)) := by rw [← hG, ← hb]; exact ydh _ _
  clear hG hb
  repeat first|apply jA|apply RunP.scope|apply RunP.label|apply jC rfl|apply jD rfl|apply jE|apply jF
  cases bI
  ·refine jR _ ?_
   refine yal ?_ (fun K hK => yab (yae (E := envQ) (t := 97) (n := 6) h0 rfl) hK)
   refine yal ?_ (fun K hK => yab (yae (E := envQ) (t := 68) (n := 8) hcell rfl) hK)
   refine yal ?_ (fun K hK => CallK.of (hIns _) hK)
   iterate 2 (refine yal ?_)
   iterate 4 (refine ycr ?_)
   iterate 3 (refine yru ?_)
   iterate 2 (refine ycr ?_)
   iterate 7 (refine yru ?_)
   refine ycr ?_
   refine yal ?_
   refine jV ?_
   exact ⟨rfl, _, rfl, jO _, hno (by unfold rowB; simp only; rw [hbI]; rfl)⟩
  ·by_cases h10 : op = 10
   ·by_cases h15 : b = 15
    ·by_cases h5 : 4 < armsN L i
     ·refine jR _ ?_
      refine yal ?_ (fun K hK => yab (yae (E := envQ) (t := 97) (n := 6) h0 rfl) hK)
      refine yal ?_ (fun K hK => yab (yae (E := envQ) (t := 68) (n := 8) hcell rfl) hK)
      refine yal ?_ (fun K hK => CallK.of (hIns _) hK)
      iterate 2 (refine yal ?_)
      refine yak ?_
      refine yak ?_ (fun K hK => yab (yae (E := envQ) (t := 3) (n := 8) hcell rfl) hK)
      refine yak ?_ (fun K hK => jY (fun _ => hK) (by omega))
      iterate 2 (refine yak ?_)
      refine yak ?_ (fun K hK => yab (yae (E := envQ) (t := 3) (n := 8) hcell rfl) hK)
      refine yak ?_ (fun K hK => jY (fun _ => hK) (by omega))
      iterate 4 (refine yak ?_)
      refine yak ?_ (fun K hK => yab (yae (E := envQ) (t := 58) (n := 6) h0 rfl) hK)
      refine yak ?_
      refine yak ?_ (fun K hK => CallK.of (hAr _) hK)
      refine yak ?_
      refine yak ?_ (fun K hK => jI (fun _ => hK) (fun w => absurd w (by rw [hlen]; omega)))
      refine yak ?_
      refine yal ?_
      refine jV ?_
      exact ⟨rfl, _, rfl, jO _, hno (by unfold rowB; simp only; rw [hbI]; rw [decide_eq_true h10, decide_eq_true h15, decide_eq_true h5]; rfl)⟩
     ·refine jR _ ?_
      refine yal ?_ (fun K hK => yab (yae (E := envQ) (t := 97) (n := 6) h0 rfl) hK)
      refine yal ?_ (fun K hK => yab (yae (E := envQ) (t := 68) (n := 8) hcell rfl) hK)
      refine yal ?_ (fun K hK => CallK.of (hIns _) hK)
      iterate 2 (refine yal ?_)
      refine yak ?_
      refine yak ?_ (fun K hK => yab (yae (E := envQ) (t := 3) (n := 8) hcell rfl) hK)
      refine yak ?_ (fun K hK => jY (fun _ => hK) (by omega))
      iterate 2 (refine yak ?_)
      refine yak ?_ (fun K hK => yab (yae (E := envQ) (t := 3) (n := 8) hcell rfl) hK)
      refine yak ?_ (fun K hK => jY (fun _ => hK) (by omega))
      iterate 4 (refine yak ?_)
      refine yak ?_ (fun K hK => yab (yae (E := envQ) (t := 58) (n := 6) h0 rfl) hK)
      refine yak ?_
      refine yak ?_ (fun K hK => CallK.of (hAr _) hK)
      refine yak ?_
      refine yak ?_ (fun K hK => jI (fun w => absurd w (by rw [hlen]; omega)) (fun _ => hK))
      refine yak ?_
      refine yal ?_
      refine jV ?_
      exact ⟨k - 1, by omega, i + 1, _, ⟨by omega, wrap1 (by omega), hyes (by unfold rowB; simp only; rw [hbI]; rw [decide_eq_false h5]; simp), h0⟩, rfl, rfl, rfl, rfl, rfl, rfl, rfl, rfl⟩
    ·refine jR _ ?_
     refine yal ?_ (fun K hK => yab (yae (E := envQ) (t := 97) (n := 6) h0 rfl) hK)
     refine yal ?_ (fun K hK => yab (yae (E := envQ) (t := 68) (n := 8) hcell rfl) hK)
     refine yal ?_ (fun K hK => CallK.of (hIns _) hK)
     iterate 2 (refine yal ?_)
     refine yak ?_
     refine yak ?_ (fun K hK => yab (yae (E := envQ) (t := 3) (n := 8) hcell rfl) hK)
     refine yak ?_ (fun K hK => jY (fun _ => hK) (by omega))
     iterate 2 (refine yak ?_)
     refine yak ?_ (fun K hK => yab (yae (E := envQ) (t := 3) (n := 8) hcell rfl) hK)
     refine yak ?_ (fun K hK => jN (by omega) (fun _ => hK))
     iterate 2 (refine yak ?_)
     iterate 7 (refine ycr ?_)
     refine yak ?_
     refine yal ?_
     refine jV ?_
     exact ⟨k - 1, by omega, i + 1, _, ⟨by omega, wrap1 (by omega), hyes (by unfold rowB; simp only; rw [hbI]; rw [decide_eq_false h15]; simp), h0⟩, rfl, rfl, rfl, rfl, rfl, rfl, rfl, rfl⟩
   ·refine jR _ ?_
    refine yal ?_ (fun K hK => yab (yae (E := envQ) (t := 97) (n := 6) h0 rfl) hK)
    refine yal ?_ (fun K hK => yab (yae (E := envQ) (t := 68) (n := 8) hcell rfl) hK)
    refine yal ?_ (fun K hK => CallK.of (hIns _) hK)
    iterate 2 (refine yal ?_)
    refine yak ?_
    refine yak ?_ (fun K hK => yab (yae (E := envQ) (t := 3) (n := 8) hcell rfl) hK)
    refine yak ?_ (fun K hK => jN (by omega) (fun _ => hK))
    refine yak ?_
    iterate 3 (refine ycr ?_)
    iterate 2 (refine yak ?_)
    iterate 7 (refine ycr ?_)
    refine yak ?_
    refine yal ?_
    refine jV ?_
    exact ⟨k - 1, by omega, i + 1, _, ⟨by omega, wrap1 (by omega), hyes (by unfold rowB; simp only; rw [hbI]; rw [decide_eq_false h10]; rfl), h0⟩, rfl, rfl, rfl, rfl, rfl, rfl, rfl, rfl⟩
 ·have hi : i = L.length := by omega
  subst hi
  have hne : L ≠ [] := fun q => by rw [q] at hL1; simp at hL1
  obtain ⟨x0, hx0⟩ : ∃ x, L[L.length - 1]? = some x := ⟨_, List.getElem?_eq_getElem (by omega)⟩
  obtain ⟨op, a, b, cc, kd, n, tx, l⟩ := x0
  have ew : IntKind.i64.wrap ((lenO (some L) : Int) - 1) = ((L.length - 1 : Nat) : Int) := by rw [hLl, wrapS (by omega) (by omega)]; omega
  have hlast : (L.map insV)[(IntKind.i64.wrap ((lenO (some L) : Int) - 1)).toNat]? = some (.agg (iC op a b cc kd n tx l)) := by
   rw [ew, List.getElem?_map]
   show Option.map insV L[L.length - 1]? = _
   rw [hx0]; rfl
  have hlg : lastGo L = fGo op := by unfold lastGo; rw [hx0]
  rw [hall, hlg]
  have hGo := fun g => goes_has g op
  have hCg : ∀ H : Heap, H = g → Has envQ .own 95 [optL 4 grdV gd, .fn (.func 96) [.ptr 0 0 6]] H (.val (.bool (!(gd.getD []).all (fun x => grB ⟨nm, p, s0, some L, gd⟩ x))) H) := fun H hH => by
   subst hH
   exact Has.thaw (a := [optL 4 grdV gd, .fn (.func 96) [.rop (ckC c ⟨nm, p, s0, some L, gd⟩)]]) (yaf (fz_lf (yck _ _ _)) (yaf (ydv (yaf (ykj h0 rfl (ydt _ _)) yan)) yan)) (yaf (fz_lf (yck _ _ _)) (yaf (ydv (yaf rfl yan)) yan)) rfl (cgCf_has [] c ⟨nm, p, s0, some L, gd⟩ gd hS hl4 hgl)
  replace hCg := hCg g rfl
  generalize fGo op = bG at hGo ⊢
  generalize (gd.getD []).all (fun x => grB ⟨nm, p, s0, some L, gd⟩ x) = bQ at hCg ⊢
  apply jA
  apply jD rfl
  apply jG
  repeat first|apply jA|apply RunP.scope|apply RunP.label|apply jC rfl|apply jD rfl|apply jE|apply jF
  refine jR _ ?_
  iterate 2 (refine yal ?_)
  refine yal ?_ (fun K hK => yab (yae (E := envQ) (t := 58) (n := 6) h0 rfl) hK)
  iterate 2 (refine yal ?_)
  refine yal ?_ (fun K hK => jI (by rw [ew]; omega) (jI rfl (Exists.intro (.agg (iC op a b cc kd n tx l)) (jI hlast hK))))
  iterate 2 (refine yal ?_)
  cases bG
  ·refine yal ?_ (fun K hK => CallK.of (hGo _) hK)
   iterate 2 (refine yal ?_)
   iterate 2 (refine yak ?_)
   refine yak ?_ (fun K hK => yab (yae (E := envQ) (t := 59) (n := 6) h0 rfl) hK)
   refine yak ?_
   cases bQ
   ·refine yak ?_ (fun K hK => CallK.of hCg hK)
    refine yak ?_
    iterate 2 (refine yal ?_)
    refine jV ?_
    exact ⟨rfl, _, rfl, jO _, rfl⟩
   ·refine yak ?_ (fun K hK => CallK.of hCg hK)
    refine yak ?_
    iterate 2 (refine yal ?_)
    refine jV ?_
    exact ⟨rfl, _, rfl, jO _, rfl⟩
  ·refine yal ?_ (fun K hK => CallK.of (hGo _) hK)
   iterate 2 (refine yal ?_)
   iterate 6 (refine ycr ?_)
   iterate 2 (refine yal ?_)
   refine jV ?_
   exact ⟨rfl, _, rfl, jO _, rfl⟩
end Go.Proofs.YtekmafoicobphaaGreatDoor
